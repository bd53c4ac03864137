/-
  The reference's reader: take, count, number. Written by an AI agent.
-/
import Derived.Test.YtmlbjcngboegfaaRdLaw
namespace Go.Proofs.Ytmlbjcngboegfaa
open Go.RowKit

/-- the reader in block gx: the bytes, how far it is, whether something went wrong -/
def InB (w : World) (B gx : Nat) (A : Option Addr) (b : List Int) (c : Nat) (s : CS) : Prop :=
  ∃ t : Nat, Blk w gx 68 #[.slice A b.length c, .int .i64 t, .bool s.bad] ∧ t ≤ b.length ∧ s.inn = b.drop t ∧ Cells w B A (byteCells b) ∧ B ≤ gx ∧ Bytes b ∧ b.length ≤ 100000000
section
variable {w w' : World} {B gx : Nat} {A : Option Addr} {b : List Int} {c : Nat} {s : CS}
theorem InB.only {K : Nat → Prop} (h : InB w B gx A b c s) (ho : Only K w w') (h1 : ¬ K gx) (h3 : ∀ i, K i → B ≤ i) : InB w' B gx A b c s := by
  obtain ⟨t, hx, ht, hi, hc, hB, hb, hl⟩ := h
  exact ⟨t, hx.only ho h1, ht, hi, hc.only ho (Nat.le_trans hB (Nat.le_of_lt hx.lt)) h3, hB, hb, hl⟩
theorem InB.lt (h : InB w B gx A b c s) : gx < w.heap.size := by obtain ⟨t, hx, _⟩ := h; exact hx.lt
theorem InB.le (h : InB w B gx A b c s) : B ≤ gx := by obtain ⟨t, _, _, _, _, hB, _⟩ := h; exact hB
theorem InB.byt (h : InB w B gx A b c s) : Bytes s.inn := by
  obtain ⟨t, _, _, hi, _, _, hb, _⟩ := h
  exact fun y hy => hb y (by rw [hi] at hy; exact List.mem_of_mem_drop hy)
theorem InB.cbad (h : InB w B gx A b c s) : w.cell? ⟨gx, 2, none⟩ = some (.bool s.bad) := by obtain ⟨t, hx, _⟩ := h; exact hx.cell 2
theorem InB.fbad (h : InB w B gx A b c s) : w.frozen? ⟨gx, 2, none⟩ = false := by obtain ⟨t, hx, _⟩ := h; exact hx.frozen 2
theorem InB.bad_ (h : InB w B gx A b c s) (o : List Int) : InB (w.setCell ⟨gx, 2, none⟩ (.bool true)) B gx A b c ⟨s.inn, o, true⟩ := by
  obtain ⟨t, hx, ht, hi, hc, hB, hb, hl⟩ := h
  exact ⟨t, hx.set_ 2 _, ht, hi, hc.setCell hB _, hB, hb, hl⟩
theorem InB.drewN (h : InB w B gx A b c s) (n : Nat) : InB (w.drewN n) B gx A b c s := h
theorem InB.out (h : InB w B gx A b c s) (o : List Int) : InB w B gx A b c ⟨s.inn, o, s.bad⟩ := h
end
/-- only the reader's block has turned -/
abbrev OX (gx : Nat) (w w' : World) : Prop := Only (fun i => i = gx) w w'

set_option maxRecDepth 20000 in
set_option maxHeartbeats 1000000 in
theorem take_any (B gx : Nat) (A : Option Addr) (b : List Int) (c : Nat) (s : CS) (w : World) (h : InB w B gx A b c s) :
    Calls Try.prog 27 #[.pointer (some ⟨gx, 0, none⟩)] w (fun e w' => e = .returned (.int .i64 (rNext s).1) ∧ InB w' B gx A b c (rNext s).2 ∧ OX gx w w') := by
  obtain ⟨t, hx, ht, hi, hc, hB, hb, hl⟩ := h
  have c0 := hx.cell 0
  have c1 := hx.cell 1
  have c2 := hx.cell 2
  have f1 := hx.frozen 1
  have f2 := hx.frozen 2
  simp only [List.getElem?_toArray, List.getElem?_cons_zero, List.getElem?_cons_succ] at c0 c1 c2
  have hlt0 := hx.lt
  have HX := Lib.hid hx
  have HI := Lib.hid hi
  have HC := Lib.hid hc
  have HBB := Lib.hid hb
  clear hx hi hc hb
  by_cases hlt : t < b.length
  · have hlt' : ¬ ((b.length : Int) ≤ t) := by omega
    have hw : wrap64 ((t : Int) + 1) = (t : Int) + 1 := by unfold wrap64; omega
    have hw2 : wrap64 ((t : Int) + 1 - 1) = (t : Int) := by unfold wrap64; omega
    obtain ⟨g, off, rfl, hg, cc⟩ := HC.out (by simp [byteCells]; omega)
    have e0 := cc t (.int .u8 b[t]) (by simp [byteCells, hlt])
    obtain ⟨g0, g1⟩ := HBB.out b[t] (List.getElem_mem hlt)
    have HN := Lib.hid (show rNext s = (b[t], ⟨b.drop (t + 1), s.out, s.bad⟩) by
      obtain ⟨i, o, f⟩ := s
      have hi : i = b.drop t := HI.out
      subst hi
      rw [List.drop_eq_getElem_cons hlt]
      rfl)
    clear cc
    generalize b[t] = y at *
    go_enter Try.func27, Try.ntmps27
    go_wp2_with fail
    go_quiet (fail)
    go_upto_region 5 with fail
    have hx2 := (HX.out.drewN nq).set_ 1 (.int .i64 ((t : Int) + 1))
    have HO := Lib.hid (show OX gx w ((w.drewN nq).setCell ⟨gx, 1, none⟩ (.int .i64 ((t : Int) + 1))) from ((Only.refl _ w).drewN nq).trans (Only.set_ _ gx 1 _) fun i _ hi => hi)
    have e2 : ((w.drewN nq).setCell ⟨gx, 1, none⟩ (.int .i64 ((t : Int) + 1))).cell? ⟨g, off + t, none⟩ = some (.int .u8 y) := (Below.cell ((Below.refl B (w.drewN nq)).setCell (p := ⟨gx, 1, none⟩) hB _) (p := ⟨g, off + t, none⟩) hg).trans e0
    generalize (w.drewN nq).setCell ⟨gx, 1, none⟩ (.int .i64 ((t : Int) + 1)) = w2 at *
    have d0 := hx2.cell 0
    have d1 := hx2.cell 1
    simp at d0 d1
    have HX2 := Lib.hid hx2
    clear hx2 c0 c1 c2 f1 f2 e0
    go_quiet (fail)
    go_wp2_with fail
    go_ret
    rw [HN.out]
    exact ⟨rfl, ⟨t + 1, HX2.out.drewN _, by omega, rfl, (HC.out.below (HO.out.below (Nat.le_trans hB (Nat.le_of_lt hlt0)) fun i hi => by have hi : i = gx := hi; omega)).drewN _, hB, HBB.out, hl⟩, HO.out.drewN _⟩
  · have hge : (b.length : Int) ≤ t := by omega
    have HN := Lib.hid (show rNext s = (0, ⟨[], s.out, true⟩) by
      obtain ⟨i, o, f⟩ := s
      have hi : i = b.drop t := HI.out
      rw [List.drop_of_length_le (by omega)] at hi
      subst hi
      rfl)
    go_enter Try.func27, Try.ntmps27
    go_wp2_with fail
    go_quiet (fail)
    go_wp2_with fail
    go_ret
    rw [HN.out]
    have h1 : s.inn = [] := by rw [HI.out, List.drop_of_length_le (by omega)]
    refine ⟨rfl, ?_, ((Only.refl _ w).drewN _).trans (Only.set_ _ gx 2 _) fun i _ hi => hi⟩
    have h2 : InB w B gx A b c s := ⟨t, HX.out, ht, HI.out, HC.out, hB, HBB.out, hl⟩
    have h3 := (h2.drewN nq).bad_ s.out
    rw [h1] at h3
    exact h3

theorem count_any (B gx : Nat) (A : Option Addr) (b : List Int) (c : Nat) (s : CS) (w : World) (h : InB w B gx A b c s) :
    Calls Try.prog 32 #[.pointer (some ⟨gx, 0, none⟩)] w (fun e w' => e = .returned (.int .i64 (rCount s).1) ∧ InB w' B gx A b c (rCount s).2 ∧ OX gx w w') := by
  have H := Lib.hid h
  clear h
  go_enter Try.func32, Try.ntmps32
  go_wp2_with fail
  refine (take_any B gx A b c s w H.out).mono ?_
  rintro e w1 ⟨rfl, h1, o1⟩
  have f2 := h1.fbad
  have z2 := h1.cbad
  obtain ⟨g0, g1⟩ := rNext_range H.out.byt
  have HQ := Lib.hid (show rCount s = if 128 < (rNext s).1 then (0, ⟨(rNext s).2.inn, (rNext s).2.out, true⟩) else ((rNext s).1.toNat, ⟨(rNext s).2.inn, (rNext s).2.out ++ [(rNext s).1], (rNext s).2.bad⟩) from rfl)
  generalize (rNext s).2 = s2 at *
  generalize (rNext s).1 = y at *
  have H1 := Lib.hid h1
  have O1 := Lib.hid o1
  clear h1 o1
  by_cases hy : 128 < y
  · have HR := Lib.hid (show rCount s = (0, ⟨s2.inn, s2.out, true⟩) by rw [HQ.out, if_pos hy])
    clear HQ
    go_wp2_with fail
    go_ret
    rw [HR.out]
    exact ⟨rfl, H1.out.bad_ _, O1.out.trans (Only.set_ _ gx 2 _) fun i _ hi => hi⟩
  · have HR := Lib.hid (show rCount s = (y.toNat, ⟨s2.inn, s2.out ++ [y], s2.bad⟩) by rw [HQ.out, if_neg hy])
    have HY := Lib.hid (show ((y.toNat : Nat) : Int) = y from Int.toNat_of_nonneg g0)
    clear HQ
    go_wp2_with fail
    go_ret
    rw [HR.out]
    exact ⟨ret_int HY.out.symm, H1.out, O1.out⟩
theorem nGetL_succ (m k : Nat) (u : Int) (s : CS) : nGetL (m + 1) k u s = if (rNext s).1 < 128 then (unzz (u + (rNext s).1 % 128 * 128 ^ k), if 0 < k ∧ (rNext s).1 = 0 then ⟨(rNext s).2.inn, (rNext s).2.out, true⟩ else (rNext s).2) else nGetL m (k + 1) (u + (rNext s).1 % 128 * 128 ^ k) (rNext s).2 := rfl
theorem nstep {k : Nat} {u b : Int} (hk : k < 4) (hu0 : 0 ≤ u) (hu1 : u < 128 ^ k) (hb0 : 0 ≤ b % 128) (hb1 : b % 128 < 128) :
    wrap64 (b % 128 * 128 ^ k) = b % 128 * 128 ^ k ∧ wrap64 (u + b % 128 * 128 ^ k) = u + b % 128 * 128 ^ k ∧ 0 ≤ u + b % 128 * 128 ^ k ∧ u + b % 128 * 128 ^ k < 128 ^ (k + 1) ∧ u + b % 128 * 128 ^ k < 268435456 ∧ wrap64 (128 * 128 ^ k) = 128 ^ (k + 1) := by
  have e : k = 0 ∨ k = 1 ∨ k = 2 ∨ k = 3 := by omega
  generalize b % 128 = c at *
  rcases e with rfl | rfl | rfl | rfl <;> simp at hu1 ⊢ <;> unfold wrap64 <;> omega

set_option maxRecDepth 20000 in
set_option maxHeartbeats 2000000 in
theorem nget_any (B gx : Nat) (A : Option Addr) (b : List Int) (c : Nat) (s : CS) (w : World) (h : InB w B gx A b c s) :
    Calls Try.prog 30 #[.pointer (some ⟨gx, 0, none⟩)] w (fun e w' => e = .returned (.int .i64 (nGet s).1) ∧ InB w' B gx A b c (nGet s).2 ∧ OX gx w w') := by
  have H := Lib.hid h
  clear h
  go_enter Try.func30, Try.ntmps30
  go_wp2_with fail
  go_loopg [3, 4, 5] 4 (fun g s3 s4 s5 wr => ∃ (k : Nat) (u W : Int) (s1 : CS), s5 = .int .i64 k ∧ k ≤ 4 ∧ g = 4 - k ∧ s3 = .int .i64 u ∧ s4 = .int .i64 W ∧ W = 128 ^ k ∧ 0 ≤ u ∧ u < 128 ^ k ∧ nGet s = nGetL (4 - k) k u s1 ∧ InB wr B gx A b c s1 ∧ OX gx w wr)
  case atStart => exact ⟨0, 0, 1, s, rfl, by omega, rfl, rfl, rfl, rfl, by omega, by decide, rfl, H.out, Only.refl _ _⟩
  case round =>
    obtain ⟨k, u, W, s1, rfl, hk4, hg, rfl, rfl, hW, hu0, hu1, hget, hc, ho⟩ := hrel
    have Hg := Lib.hid hg; clear hg
    have Ho := Lib.hid ho; clear ho
    have Hc := Lib.hid hc; clear hc
    have HW := Lib.hid hW; clear hW
    by_cases hlt : k < 4
    · have hlt' : (k : Int) < 4 := by omega
      have Hget := Lib.hid hget
      have Hu1 := Lib.hid hu1
      clear hget hu1
      go_wp2_with fail
      refine (take_any B gx A b c s1 wr Hc.out).mono ?_
      rintro e w1 ⟨rfl, hc2, ho2⟩
      obtain ⟨hn0, hn1⟩ := rNext_range Hc.out.byt
      have hr := nGetL_succ (4 - (k + 1)) k u s1
      rw [show 4 - (k + 1) + 1 = 4 - k by omega] at hr
      generalize (rNext s1).2 = s2 at *
      generalize (rNext s1).1 = y at *
      have f2 := hc2.fbad
      have z2 := hc2.cbad
      have HC2 := Lib.hid hc2
      have HO2 := Lib.hid (Ho.out.trans ho2 fun i _ hi => hi)
      clear hc2 ho2
      have hm : Int.tmod y 128 = y % 128 := Int.tmod_eq_emod_of_nonneg hn0
      have hm0 : 0 ≤ y % 128 := by omega
      have hm1 : y % 128 < 128 := by omega
      obtain ⟨q1, q2, q3, q4, q5, q6⟩ := nstep hlt hu0 Hu1.out hm0 hm1
      rw [← HW.out] at q1 q2 q3 q4 q5 q6 hr
      obtain ⟨z, hz⟩ : ∃ z, z = y % 128 * W := ⟨_, rfl⟩
      obtain ⟨W2, hW2⟩ : ∃ z, z = (128 : Int) ^ (k + 1) := ⟨_, rfl⟩
      rw [← hz] at q1 q2 q3 q4 q5 hr
      rw [← hW2] at q6 q4
      have HW2 := Lib.hid hW2
      have Hq4 := Lib.hid q4
      have hyz : y % 128 * W = z := hz.symm
      have hW128 : 128 * W = W2 := by rw [hW2, HW.out, pow128]
      rw [hW128] at q6
      clear hz q4 Hu1 hW2
      by_cases hb : y < 128
      · rw [if_pos hb] at hr
        have HG := Lib.hid (Hget.out.trans hr)
        clear hr Hget
        by_cases hk0 : 0 < k
        · have hk0' : (0 : Int) < k := by omega
          by_cases hy0 : y = 0
          · have hy0' : (y == 0) = true := by rw [hy0]; rfl
            have HC := Lib.hid (And.intro hk0 hy0)
            clear hy0
            by_cases hp : (u + z) % 2 = 1
            · have hr : Int.tmod (u + z) 2 = 1 := by rw [Int.tmod_eq_emod_of_nonneg (by omega)]; exact hp
              have hq : Int.tdiv (u + z) 2 = (u + z) / 2 := Int.tdiv_eq_ediv_of_nonneg (by omega)
              have HU := Lib.hid (show unzz (u + z) = -((u + z) / 2) - 1 by unfold unzz; rw [if_pos hp]; omega)
              clear hp
              go_wp2_with fail
              go_ret
              rw [HG.out, if_pos HC.out]
              exact ⟨ret_int HU.out.symm, HC2.out.bad_ _, HO2.out.trans (Only.set_ _ gx 2 _) fun i _ hi => hi⟩
            · have hr : Int.tmod (u + z) 2 = 0 := by rw [Int.tmod_eq_emod_of_nonneg (by omega)]; omega
              have hq : Int.tdiv (u + z) 2 = (u + z) / 2 := Int.tdiv_eq_ediv_of_nonneg (by omega)
              have HU := Lib.hid (show unzz (u + z) = (u + z) / 2 by unfold unzz; rw [if_neg hp])
              clear hp
              go_wp2_with fail
              go_ret
              rw [HG.out, if_pos HC.out]
              exact ⟨ret_int HU.out.symm, HC2.out.bad_ _, HO2.out.trans (Only.set_ _ gx 2 _) fun i _ hi => hi⟩
          · have hy0' : (y == 0) = false := by rw [beq_eq_false_iff_ne]; exact hy0
            have HC := Lib.hid (show ¬ (0 < k ∧ y = 0) from fun h => hy0 h.2)
            clear hy0
            by_cases hp : (u + z) % 2 = 1
            · have hr : Int.tmod (u + z) 2 = 1 := by rw [Int.tmod_eq_emod_of_nonneg (by omega)]; exact hp
              have hq : Int.tdiv (u + z) 2 = (u + z) / 2 := Int.tdiv_eq_ediv_of_nonneg (by omega)
              have HU := Lib.hid (show unzz (u + z) = -((u + z) / 2) - 1 by unfold unzz; rw [if_pos hp]; omega)
              clear hp
              go_wp2_with fail
              go_ret
              rw [HG.out, if_neg HC.out]
              exact ⟨ret_int HU.out.symm, HC2.out, HO2.out⟩
            · have hr : Int.tmod (u + z) 2 = 0 := by rw [Int.tmod_eq_emod_of_nonneg (by omega)]; omega
              have hq : Int.tdiv (u + z) 2 = (u + z) / 2 := Int.tdiv_eq_ediv_of_nonneg (by omega)
              have HU := Lib.hid (show unzz (u + z) = (u + z) / 2 by unfold unzz; rw [if_neg hp])
              clear hp
              go_wp2_with fail
              go_ret
              rw [HG.out, if_neg HC.out]
              exact ⟨ret_int HU.out.symm, HC2.out, HO2.out⟩
        · have hk0' : ¬ (0 : Int) < k := by omega
          have HC := Lib.hid (show ¬ (0 < k ∧ y = 0) from fun h => hk0 h.1)
          by_cases hp : (u + z) % 2 = 1
          · have hr : Int.tmod (u + z) 2 = 1 := by rw [Int.tmod_eq_emod_of_nonneg (by omega)]; exact hp
            have hq : Int.tdiv (u + z) 2 = (u + z) / 2 := Int.tdiv_eq_ediv_of_nonneg (by omega)
            have HU := Lib.hid (show unzz (u + z) = -((u + z) / 2) - 1 by unfold unzz; rw [if_pos hp]; omega)
            clear hp
            go_wp2_with fail
            go_ret
            rw [HG.out, if_neg HC.out]
            exact ⟨ret_int HU.out.symm, HC2.out, HO2.out⟩
          · have hr : Int.tmod (u + z) 2 = 0 := by rw [Int.tmod_eq_emod_of_nonneg (by omega)]; omega
            have hq : Int.tdiv (u + z) 2 = (u + z) / 2 := Int.tdiv_eq_ediv_of_nonneg (by omega)
            have HU := Lib.hid (show unzz (u + z) = (u + z) / 2 by unfold unzz; rw [if_neg hp])
            clear hp
            go_wp2_with fail
            go_ret
            rw [HG.out, if_neg HC.out]
            exact ⟨ret_int HU.out.symm, HC2.out, HO2.out⟩
      · rw [if_neg hb] at hr
        have Hg2 := Lib.hid (Hget.out.trans hr)
        have HD := Lib.hid (show 4 - (k + 1) < 4 - k by omega)
        clear hr Hget
        go_wp2_with fail
        go_roundg (4 - (k + 1))
        case measure => rw [Hg.out]; exact HD.out
        case rel => exact ⟨k + 1, u + z, W2, s2, by go_num, by omega, rfl, rfl, (by first | rfl | rw [q6]), HW2.out, q3, by rw [← HW2.out]; exact Hq4.out, Hg2.out, HC2.out, HO2.out⟩
    · have hk : k = 4 := by omega
      subst hk
      have HG := Lib.hid (show nGet s = (0, ⟨s1.inn, s1.out, true⟩) from hget)
      have f2 := Hc.out.fbad
      have z2 := Hc.out.cbad
      clear hget hu1 hk4
      go_wp2_with fail
      go_ret
      rw [HG.out]
      exact ⟨rfl, Hc.out.bad_ _, Ho.out.trans (Only.set_ _ gx 2 _) fun i _ hi => hi⟩
end Go.Proofs.Ytmlbjcngboegfaa
