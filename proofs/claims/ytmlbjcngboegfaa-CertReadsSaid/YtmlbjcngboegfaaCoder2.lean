/-
  count, get, number, point: what they compute, reading and writing. Written by an AI agent.
-/
import Derived.Test.YtmlbjcngboegfaaCoder
namespace Go.Proofs.Ytmlbjcngboegfaa
open Go.RowKit

theorem rNext_range {s : CS} (h : Bytes s.inn) : 0 ≤ (rNext s).1 ∧ (rNext s).1 < 256 := by
  obtain ⟨i, o, b⟩ := s
  cases i with
  | nil => exact ⟨by show (0 : Int) ≤ 0; omega, by show (0 : Int) < 256; omega⟩
  | cons a r => exact h a (List.mem_cons_self ..)
theorem rNext_out (s : CS) : (rNext s).2.out = s.out := by
  obtain ⟨i, o, b⟩ := s
  cases i <;> rfl

set_option maxRecDepth 20000 in
set_option maxHeartbeats 1000000 in
theorem countW_any (B gc : Nat) (A : Option Addr) (c : Nat) (ov : Value) (s : CS) (n : Nat) (w : World) (h : Coder w B gc false A c ov s) (hl : s.out.length ≤ 1000000000) :
    Calls Try.prog 41 #[.pointer (some ⟨gc, 0, none⟩), .int .i64 n] w (fun e w' => e = .returned (.int .i64 (if 128 < n then 0 else n : Nat)) ∧ Ran B gc false ov (fun _ => False) w w' (if 128 < n then ⟨s.inn, s.out, true⟩ else ⟨s.inn, s.out ++ [(n : Int)], s.bad⟩)) := by
  have z0 := h.c0
  by_cases hn : 128 < n
  · have z3 := h.c3
    have f3 := h.blk.frozen 3
    have HR := Lib.hid (Ran.bad_ (X := fun _ => False) h)
    have hn' : (128 : Int) < n := by omega
    clear h
    rw [if_pos hn, if_pos hn]
    clear hn
    go_enter Try.func41, Try.ntmps41
    go_wp2_with fail
    go_ret
    exact ⟨rfl, HR.out⟩
  · have z2 := h.c2
    have f2 := h.blk.frozen 2
    have hown := h.own
    have hsz : B ≤ w.heap.size := Nat.le_trans h.ge (Nat.le_of_lt h.lt)
    have H := Lib.hid h
    have hn' : ¬ (128 : Int) < n := by omega
    have hw8 : IntKind.u8.wrap (n : Int) = n := by rw [IntKind.wrap_u8]; omega
    obtain ⟨on, hon⟩ : ∃ on, on = s.out.length := ⟨_, rfl⟩
    rw [← hon] at hown hl
    have Hon := Lib.hid hon
    clear h hon
    obtain ⟨Ao, co, rfl⟩ := own_slice hown
    have hlt := H.out.lt
    rw [if_neg hn, if_neg hn]
    clear hn
    go_enter Try.func41, Try.ntmps41
    go_wp2_with (at_builtin; refine wp_app elemByte rfl _ _ rfl B (.slice Ao on co) _ _ rfl w.heap.size [.int .u8 n] rfl rfl hown rfl rfl ?_ ?_ hsz ?_)
    · omega
    · omega
    intro v' w' hown' hg' hd
    have HR := Lib.hid (Ran.out_ (X := fun _ => False) H.out hg' (bs := [(n : Int)]) (by rw [← Hon.out]; exact hown') (fresh_of hd))
    have f2 := (H.out.blk.only (Only.grown hg') H.out.ne).frozen 2
    have z2 : w'.cell? ⟨gc, 2, none⟩ = some (.slice Ao on co) := (H.out.blk.only (Only.grown hg') H.out.ne).cell 2
    obtain ⟨A', c', rfl⟩ := own_slice hown'
    clear hown' hg' hd hown
    go_wp2_with fail
    go_ret
    exact ⟨rfl, HR.out⟩

set_option maxRecDepth 20000 in
set_option maxHeartbeats 1000000 in
theorem countR_any (B gc : Nat) (A : Option Addr) (c : Nat) (ov : Value) (s : CS) (m : Int) (w : World) (h : Coder w B gc true A c ov s) (hl : s.out.length ≤ 1000000000) :
    Calls Try.prog 41 #[.pointer (some ⟨gc, 0, none⟩), .int .i64 m] w (fun e w' => e = .returned (.int .i64 (rCount s).1) ∧ Ran B gc true ov (fun _ => False) w w' (rCount s).2) := by
  have z0 := h.c0
  have H := Lib.hid h
  clear h
  go_enter Try.func41, Try.ntmps41
  go_wp2_with fail
  refine (next_any B gc true A c ov s w H.out).mono ?_
  rintro e w1 ⟨rfl, A1, c1, ov1, hc1, ho1, hf1⟩
  obtain ⟨hn0, hn1⟩ := rNext_range H.out.byt
  have ho := rNext_out s
  have HC := Lib.hid (show rCount s = if 128 < (rNext s).1 then (0, ⟨(rNext s).2.inn, (rNext s).2.out, true⟩) else ((rNext s).1.toNat, ⟨(rNext s).2.inn, (rNext s).2.out ++ [(rNext s).1], (rNext s).2.bad⟩) from rfl)
  generalize (rNext s).2 = s1 at *
  generalize (rNext s).1 = n at *
  have Ho1 := Lib.hid ho1
  have Hf1 := Lib.hid hf1
  clear ho1 hf1 z0
  by_cases hn : 128 < n
  · have z3 := hc1.c3
    have f3 := hc1.blk.frozen 3
    have HR := Lib.hid (Ran.seq Ho1.out Hf1.out (Ran.bad_ (X := fun _ => False) hc1) fun _ _ h => h.elim)
    rw [if_pos hn] at HC
    clear hc1
    go_wp2_with fail
    go_ret
    rw [HC.out]
    exact ⟨rfl, HR.out⟩
  · have z2 := hc1.c2
    have f2 := hc1.blk.frozen 2
    have hown := hc1.own
    have hsz : B ≤ w1.heap.size := Nat.le_trans hc1.ge (Nat.le_of_lt hc1.lt)
    have H1 := Lib.hid hc1
    rw [if_neg hn] at HC
    have hw8 : IntKind.u8.wrap n = n := by rw [IntKind.wrap_u8]; omega
    obtain ⟨on, hon⟩ : ∃ on, on = s1.out.length := ⟨_, rfl⟩
    rw [← ho, ← hon] at hl
    rw [← hon] at hown
    have Hon := Lib.hid hon
    clear hc1 hon ho
    obtain ⟨Ao, co, rfl⟩ := own_slice hown
    have hlt := H1.out.lt
    go_wp2_with (at_builtin; refine wp_app elemByte rfl _ _ rfl B (.slice Ao on co) _ _ rfl w1.heap.size [.int .u8 n] rfl rfl hown rfl rfl ?_ ?_ hsz ?_)
    · omega
    · omega
    intro v' w' hown' hg' hd
    have HR := Lib.hid (Ran.seq Ho1.out Hf1.out (Ran.out_ (X := fun _ => False) H1.out hg' (bs := [n]) (by rw [← Hon.out]; exact hown') (fresh_of hd)) fun _ _ h => h.elim)
    have f2 := (H1.out.blk.only (Only.grown hg') H1.out.ne).frozen 2
    have z2 : w'.cell? ⟨gc, 2, none⟩ = some (.slice Ao on co) := (H1.out.blk.only (Only.grown hg') H1.out.ne).cell 2
    obtain ⟨A', c', rfl⟩ := own_slice hown'
    clear hown' hg' hd hown
    go_wp2_with fail
    go_ret
    rw [HC.out]
    exact ⟨ret_int (by simp only; omega), HR.out⟩

theorem rGetL_succ (m k : Nat) (u : Int) (s : CS) : rGetL (m + 1) k u s = if (rNext s).1 < 128 then (u + (rNext s).1 % 128 * 128 ^ k, (rNext s).2) else rGetL m (k + 1) (u + (rNext s).1 % 128 * 128 ^ k) (rNext s).2 := rfl

theorem get_step {k : Nat} {u b : Int} (hk : k < 4) (hu0 : 0 ≤ u) (hu1 : u < 128 ^ k) (hb0 : 0 ≤ b % 128) (hb1 : b % 128 < 128) :
    wrap64 (b % 128 * 2 ^ (7 * k)) = b % 128 * 128 ^ k ∧ wrap64 (u + b % 128 * 128 ^ k) = u + b % 128 * 128 ^ k ∧ 0 ≤ u + b % 128 * 128 ^ k ∧ u + b % 128 * 128 ^ k < 128 ^ (k + 1) ∧ u + b % 128 * 128 ^ k < 268435456 := by
  have e : k = 0 ∨ k = 1 ∨ k = 2 ∨ k = 3 := by omega
  generalize b % 128 = c at *
  rcases e with rfl | rfl | rfl | rfl <;> simp at hu1 ⊢ <;> unfold wrap64 <;> omega
set_option maxRecDepth 20000 in
set_option maxHeartbeats 2000000 in
theorem get_any (B gc : Nat) (A : Option Addr) (c : Nat) (ov : Value) (s : CS) (w : World) (h : Coder w B gc true A c ov s) :
    Calls Try.prog 42 #[.pointer (some ⟨gc, 0, none⟩)] w (fun e w' => e = .returned (.int .i64 (rGet s).1) ∧ Ran B gc true ov (fun _ => False) w w' (rGet s).2) := by
  have H := Lib.hid h
  clear h
  go_enter Try.func42, Try.ntmps42
  go_wp2_with fail
  go_loopg [3, 6] 4 (fun g s3 s6 wr => ∃ (k : Nat) (u : Int) (s1 : CS) (A1 : Option Addr) (c1 : Nat) (ov1 : Value), s6 = .int .i64 k ∧ k ≤ 4 ∧ g = 4 - k ∧ s3 = .int .i64 u ∧ 0 ≤ u ∧ u < 128 ^ k ∧ rGetL 4 0 0 s = rGetL (4 - k) k u s1 ∧ Coder wr B gc true A1 c1 ov1 s1 ∧ Only (coderK gc ov (fun _ => False)) w wr ∧ ∀ i, i < w.heap.size → ov1.ownBlock = some i → ov.ownBlock = some i)
  case atStart => exact ⟨0, 0, s, A, c, ov, rfl, by omega, rfl, rfl, by omega, by decide, rfl, H.out, Only.refl _ _, fun _ _ h => h⟩
  case round =>
    obtain ⟨k, u, s1, A1, c1, ov1, rfl, hk4, hg, rfl, hu0, hu1, hget, hc, ho, hf⟩ := hrel
    have Hg := Lib.hid hg; clear hg
    have Ho := Lib.hid ho; clear ho
    have Hf := Lib.hid hf; clear hf
    have Hc := Lib.hid hc; clear hc
    by_cases hlt : k < 4
    · have hlt' : (k : Int) < 4 := by omega
      have Hget := Lib.hid hget
      have Hu1 := Lib.hid hu1
      clear hget hu1
      go_wp2_with fail
      refine (next_any B gc true A1 c1 ov1 s1 wr Hc.out).mono ?_
      rintro e w1 ⟨rfl, A2, c2, ov2, hc2, ho2, hf2⟩
      obtain ⟨hn0, hn1⟩ := rNext_range Hc.out.byt
      have hr := rGetL_succ (4 - (k + 1)) k u s1
      rw [show 4 - (k + 1) + 1 = 4 - k by omega] at hr
      generalize (rNext s1).2 = s2 at *
      generalize (rNext s1).1 = b at *
      have HS := Lib.hid (And.intro hc2 (And.intro (Ho.out.trans ho2 fun i hi hk => by
        rcases hk with hk | hk | hk
        · exact .inl hk
        · exact .inr (.inl (Hf.out i hi hk))
        · exact hk.elim) (fun i (hi : i < w.heap.size) he => Hf.out i hi (hf2 i (Nat.lt_of_lt_of_le hi Ho.out.size) he))))
      clear hc2 ho2 hf2
      have hm : Int.tmod b 128 = b % 128 := Int.tmod_eq_emod_of_nonneg hn0
      have hm0 : 0 ≤ b % 128 := by omega
      have hm1 : b % 128 < 128 := by omega
      obtain ⟨q1, q2, q3, q4, q5⟩ := get_step hlt hu0 Hu1.out hm0 hm1
      obtain ⟨y, hy⟩ : ∃ y, y = b % 128 * 128 ^ k := ⟨_, rfl⟩
      rw [← hy] at q1 q2 q3 q4 q5 hr
      clear q2
      have Hq4 := Lib.hid q4
      clear hy q4 Hu1
      by_cases hb : b < 128
      · rw [if_pos hb] at hr
        have hget' : rGetL 4 0 0 s = (u + y, s2) := Hget.out.trans hr
        clear hr
        have HG := Lib.hid (show rGet s = (unzz (u + y), s2) by unfold rGet; rw [hget'])
        have HR := Lib.hid ((⟨A2, c2, ov2, HS.out⟩ : Ran B gc true ov (fun _ => False) w w1 s2))
        clear hget' HS
        by_cases hp : (u + y) % 2 = 1
        · have hr : Int.tmod (u + y) 2 = 1 := by rw [Int.tmod_eq_emod_of_nonneg (by omega)]; exact hp
          have hq : Int.tdiv (-(u + y + 1)) 2 = -((u + y + 1) / 2) := by rw [Int.neg_tdiv, Int.tdiv_eq_ediv_of_nonneg (by omega)]
          have HU := Lib.hid (show unzz (u + y) = -((u + y + 1) / 2) by unfold unzz; rw [if_pos hp])
          clear hp
          go_wp2_with fail
          go_ret
          rw [HG.out]
          exact ⟨ret_int HU.out.symm, HR.out⟩
        · have hr : Int.tmod (u + y) 2 = 0 := by rw [Int.tmod_eq_emod_of_nonneg (by omega)]; omega
          have hq : Int.tdiv (u + y) 2 = (u + y) / 2 := by rw [Int.tdiv_eq_ediv_of_nonneg (by omega)]
          have HU := Lib.hid (show unzz (u + y) = (u + y) / 2 by unfold unzz; rw [if_neg hp])
          clear hp
          go_wp2_with fail
          go_ret
          rw [HG.out]
          exact ⟨ret_int HU.out.symm, HR.out⟩
      · rw [if_neg hb] at hr
        have Hg2 := Lib.hid (Hget.out.trans hr)
        have HD := Lib.hid (show 4 - (k + 1) < 4 - k by omega)
        clear hr Hget
        go_wp2_with fail
        go_roundg (4 - (k + 1))
        case measure => rw [Hg.out]; exact HD.out
        case rel => exact ⟨k + 1, u + y, s2, A2, c2, ov2, by go_num, by omega, rfl, rfl, q3, Hq4.out, Hg2.out, HS.out⟩
    · have hk : k = 4 := by omega
      subst hk
      have hu2 : u < 268435456 := by simpa using hu1
      have hget' : rGetL 4 0 0 s = (u, s1) := hget
      clear hget hu1 hk4
      have HG := Lib.hid (show rGet s = (unzz u, s1) by unfold rGet; rw [hget'])
      have HR := Lib.hid ((⟨A1, c1, ov1, Hc.out, Ho.out, Hf.out⟩ : Ran B gc true ov (fun _ => False) w wr s1))
      clear hget' Hc Ho Hf
      by_cases hp : u % 2 = 1
      · have hr : Int.tmod u 2 = 1 := by rw [Int.tmod_eq_emod_of_nonneg (by omega)]; exact hp
        have hq : Int.tdiv (-(u + 1)) 2 = -((u + 1) / 2) := by rw [Int.neg_tdiv, Int.tdiv_eq_ediv_of_nonneg (by omega)]
        have HU := Lib.hid (show unzz u = -((u + 1) / 2) by unfold unzz; rw [if_pos hp])
        clear hp
        go_wp2_with fail
        go_ret
        rw [HG.out]
        exact ⟨ret_int HU.out.symm, HR.out⟩
      · have hr : Int.tmod u 2 = 0 := by rw [Int.tmod_eq_emod_of_nonneg (by omega)]; omega
        have hq : Int.tdiv u 2 = u / 2 := by rw [Int.tdiv_eq_ediv_of_nonneg (by omega)]
        have HU := Lib.hid (show unzz u = u / 2 by unfold unzz; rw [if_neg hp])
        clear hp
        go_wp2_with fail
        go_ret
        rw [HG.out]
        exact ⟨ret_int HU.out.symm, HR.out⟩

end Go.Proofs.Ytmlbjcngboegfaa
