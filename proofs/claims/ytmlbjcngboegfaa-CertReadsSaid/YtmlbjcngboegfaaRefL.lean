/-
  The reference's numbers, lists, points: what they tell. Written by an AI agent.
-/
import Derived.Test.YtmlbjcngboegfaaRefN
import Derived.Test.YtmlbjcngboegfaaCuts
namespace Go.Proofs.Ytmlbjcngboegfaa
open Go.RowKit

section
variable {α : Type}
def goO (e : α → Option (List Int)) : List α → Option (List Int)
  | [] => some []
  | x :: r => (e x).bind fun a => (goO e r).map (a ++ ·)
def listO (e : α → Option (List Int)) (l : List α) : Option (List Int) := if 128 < l.length then none else (goO e l).map ((l.length : Int) :: ·)
theorem goO_append (e : α → Option (List Int)) (a b : List α) : goO e (a ++ b) = (goO e a).bind fun p => (goO e b).map (p ++ ·) := by
  induction a with
  | nil => simp [goO]
  | cons x r ih =>
    rw [List.cons_append, goO, goO, ih]
    cases e x with
    | none => rfl
    | some a =>
      cases goO e r with
      | none => rfl
      | some p => cases goO e b <;> simp
theorem goO_take {e : α → Option (List Int)} {l : List α} {i : Nat} (h : i < l.length) {p : List Int} (hp : goO e (l.take i) = some p) : (∀ a, e l[i] = some a → goO e (l.take (i + 1)) = some (p ++ a)) ∧ (e l[i] = none → goO e l = none) := by
  constructor
  · intro a ha
    rw [List.take_succ_eq_append_getElem h, goO_append, hp]
    simp [goO, ha]
  · intro ha
    rw [← List.take_append_drop (i + 1) l, goO_append, List.take_succ_eq_append_getElem h, goO_append, hp]
    simp [goO, ha]
theorem goO_len {e : α → Option (List Int)} {K : Nat} (he : ∀ x a, e x = some a → a.length ≤ K) : ∀ (l : List α) (p : List Int), goO e l = some p → p.length ≤ K * l.length
  | [], p, h => by injection h with h; subst h; simp
  | x :: r, p, h => by
    rw [goO] at h
    cases hx : e x with
    | none => rw [hx] at h; cases h
    | some a =>
      cases hr : goO e r with
      | none => rw [hx, hr] at h; cases h
      | some q =>
        rw [hx, hr] at h
        injection h with h
        have h : a ++ q = p := h
        subst h
        have h1 := he x a hx
        have h2 := goO_len he r q hr
        rw [List.length_append, List.length_cons, Nat.mul_succ]
        omega
theorem listO_len {e : α → Option (List Int)} {K : Nat} (he : ∀ x a, e x = some a → a.length ≤ K) (l : List α) (p : List Int) (h : listO e l = some p) : p.length ≤ K * 128 + 1 := by
  unfold listO at h
  split at h
  · cases h
  · cases hg : goO e l with
    | none => rw [hg] at h; cases h
    | some q =>
      rw [hg] at h
      injection h with h
      have h : (l.length : Int) :: q = p := h
      subst h
      have := goO_len he l q hg
      have : K * l.length ≤ K * 128 := Nat.mul_le_mul_left _ (by omega)
      rw [List.length_cons]; omega
end
theorem vb_len {u : Nat} (h : u < 268435456) : (vb u).length ≤ 4 := by
  by_cases h1 : u < 128
  · rw [vb_lt h1]; simp
  rw [vb_ge h1]
  by_cases h2 : u / 128 < 128
  · rw [vb_lt h2]; simp
  rw [vb_ge h2]
  by_cases h3 : u / 128 / 128 < 128
  · rw [vb_lt h3]; simp
  rw [vb_ge h3, vb_lt (show u / 128 / 128 / 128 < 128 by omega)]; simp
theorem numO_len (n : Int) (a : List Int) (h : numO n = some a) : a.length ≤ 4 := by
  unfold numO at h
  split at h
  · cases h
  · rename_i hn
    injection h with h
    subst h
    exact vb_len (zz_lt hn)

set_option maxRecDepth 20000 in
set_option maxHeartbeats 2000000 in
theorem refNumbers_any (A : Option Addr) (c : Nat) (l : List (Int)) (w : World) (h : Cells w w.heap.size A (intCells l)) (hl : l.length ≤ 1000000) : Calls Try.prog 18 #[.slice A l.length c] w (OptPost (listO numO l) w) := by
  by_cases h128 : 128 < l.length
  · have h128' : (128 : Int) < l.length := by omega
    have HP := Lib.hid (show OptPost (listO numO l) w (.returned (.tuple #[.slice none 0 0, .bool false])) w from ⟨Below.refl _ _, fun _ => rfl, fun bs h => by unfold listO at h; rw [if_pos h128] at h; cases h⟩)
    clear h128
    go_enter Try.func18, Try.ntmps18
    go_wp2_with fail
    go_ret2
    exact HP.out
  · have h128' : ¬ (128 : Int) < l.length := by omega
    have H := Lib.hid h
    have HL := Lib.hid (show listO numO l = (goO numO l).map ((l.length : Int) :: ·) by unfold listO; rw [if_neg h128])
    have hw8 : IntKind.u8.wrap (l.length : Int) = l.length := by rw [IntKind.wrap_u8]; omega
    have hl128 : l.length ≤ 128 := by omega
    have hb0 := (Below.refl w.heap.size w).alloc (Nat.le_refl _) (.cells #[.int .u8 l.length] 5)
    have ho0 : (w.alloc (.cells #[.int .u8 l.length] 5)).ownsRow w.heap.size 5 1 (.slice (some ⟨w.heap.size, 0, none⟩) 1 1) 1 (byteCells [(l.length : Int)]) := own_of_blk (blk_new' _ _ _ _ rfl) (Nat.le_refl _) rfl (by omega)
    clear h h128
    go_enter Try.func18, Try.ntmps18
    go_wp2_with fail
    go_loopg [4, 5] l.length (fun k s4 s5 wr => ∃ (i : Nat) (p : List Int) (A1 : Option Addr) (c1 : Nat), s5 = .int .i64 i ∧ i ≤ l.length ∧ k = l.length - i ∧ s4 = .slice A1 (1 + p.length) c1 ∧ p.length ≤ 4 * i ∧ goO numO (l.take i) = some p ∧ Below w.heap.size w wr ∧ wr.ownsRow w.heap.size 5 1 (.slice A1 (1 + p.length) c1) (1 + p.length) (byteCells ((l.length : Int) :: p)))
    case atStart => exact ⟨0, [], _, _, rfl, by omega, rfl, rfl, by simp, rfl, hb0, ho0⟩
    case round =>
      clear hb0 ho0
      obtain ⟨i, p, A1, c1, rfl, hi, hk, rfl, hpl, hgo, hb, hown⟩ := hrel
      have Hk := Lib.hid hk
      have Hgo := Lib.hid hgo
      have Hb := Lib.hid hb
      have Hown := Lib.hid hown
      have hsz := hb.size
      clear hk hgo hb hown
      by_cases hlt : i < l.length
      · have hlt' : (i : Int) < l.length := by omega
        obtain ⟨b1, o1, rfl, hbb, cc⟩ := H.out.ints (by omega)
        have e0 := (Hb.out.cell (p := ⟨b1, o1 + i, none⟩) hbb).trans (cc i hlt)
        clear cc
        obtain ⟨Gs, Gn⟩ := goO_take hlt Hgo.out
        have HGs := Lib.hid Gs
        have HGn := Lib.hid Gn
        clear Gs Gn
        generalize l[i] = z at *
        go_wp2_with fail
        refine (refNumber_any z wr).mono ?_
        rintro e w2 ⟨hb2, hn2, hs2⟩
        have Hb2 := Lib.hid (Hb.out.trans (hb2.mono hsz))
        cases hE : numO z with
        | none =>
          obtain rfl := hn2 hE
          have HP := Lib.hid (show OptPost (listO numO l) w (.returned (.tuple #[.slice none 0 0, .bool false])) w2 from ⟨Hb2.out, fun _ => rfl, fun bs h => by rw [HL.out, HGn.out hE] at h; cases h⟩)
          clear hn2 hs2 hE hb2
          go_wp2_with fail
          go_ret2
          exact HP.out
        | some bs =>
          obtain ⟨A2, c2, rfl, hC2, _⟩ := hs2 bs hE
          have hbl := numO_len _ _ hE
          have HG2 := Lib.hid (HGs.out _ hE)
          have hown2 := own_below Hown.out hb2 (Nat.le_refl _)
          have hsz2 := Hb2.out.size
          clear hn2 hs2 hE hb2
          go_wp2_with (at_builtin; refine wp_app_any elemByte rfl _ _ rfl rfl hown2 rfl hC2 (show (byteCells bs).length = bs.length * 1 by simp [byteCells]) (bytes_one bs) ?h2 ?h3 ?h4 ?_)
          case h2 => omega
          case h3 => omega
          case h4 => exact hsz2
          intro v' w3 hown3 hg3 _
          have hb3 := below_app Hb2.out hown2 hg3 hsz2 (Nat.le_refl _)
          obtain ⟨A3, c3, rfl⟩ := own_slice hown3
          have Hb3 := Lib.hid hb3
          rw [← byteCells_append, List.cons_append] at hown3
          have Hown3 := Lib.hid hown3
          clear hown2 hg3 hb3 hown3 hC2
          go_wp2_with fail
          go_roundg (l.length - (i + 1))
          case measure => rw [Hk.out]; omega
          case rel => exact ⟨i + 1, p ++ bs, A3, c3, by go_num, by omega, rfl, by rw [List.length_append, Nat.add_assoc], by rw [List.length_append]; omega, HG2.out, Hb3.out, by rw [List.length_append, ← Nat.add_assoc]; exact Hown3.out⟩
      · have hie : i = l.length := by omega
        subst hie
        have HP := Lib.hid (show OptPost (listO numO l) w (.returned (.tuple #[.slice A1 (1 + p.length) c1, .bool true])) wr from by
          have hg := Hgo.out
          rw [List.take_length] at hg
          refine ⟨Hb.out, fun h => (by rw [HL.out, hg] at h; cases h), fun bs h => ?_⟩
          rw [HL.out, hg] at h
          injection h with h
          have h : (l.length : Int) :: p = bs := h
          subst h
          exact ⟨A1, c1, by rw [List.length_cons, Nat.add_comm], Cells.of_own Hown.out, own_fresh Hown.out (by omega)⟩)
        clear Hown
        go_wp2_with fail
        go_ret2
        exact HP.out

theorem numsO_len (l : List Int) (a : List Int) (h : listO numO l = some a) : a.length ≤ 513 := listO_len numO_len l a h

set_option maxRecDepth 20000 in
set_option maxHeartbeats 2000000 in
theorem refLists_any (A : Option Addr) (c : Nat) (l : List (List Int)) (w : World) (h : TblAt intCells w w.heap.size A l) (hl : l.length ≤ 1000000) (hx : ∀ r ∈ l, r.length ≤ 1000000) : Calls Try.prog 19 #[.slice A l.length c] w (OptPost (listO (listO numO) l) w) := by
  by_cases h128 : 128 < l.length
  · have h128' : (128 : Int) < l.length := by omega
    have HP := Lib.hid (show OptPost (listO (listO numO) l) w (.returned (.tuple #[.slice none 0 0, .bool false])) w from ⟨Below.refl _ _, fun _ => rfl, fun bs h => by unfold listO at h; rw [if_pos h128] at h; cases h⟩)
    clear h128
    go_enter Try.func19, Try.ntmps19
    go_wp2_with fail
    go_ret2
    exact HP.out
  · have h128' : ¬ (128 : Int) < l.length := by omega
    have H := Lib.hid h
    have HL := Lib.hid (show listO (listO numO) l = (goO (listO numO) l).map ((l.length : Int) :: ·) by unfold listO; rw [if_neg h128])
    have hw8 : IntKind.u8.wrap (l.length : Int) = l.length := by rw [IntKind.wrap_u8]; omega
    have hl128 : l.length ≤ 128 := by omega
    have hb0 := (Below.refl w.heap.size w).alloc (Nat.le_refl _) (.cells #[.int .u8 l.length] 5)
    have ho0 : (w.alloc (.cells #[.int .u8 l.length] 5)).ownsRow w.heap.size 5 1 (.slice (some ⟨w.heap.size, 0, none⟩) 1 1) 1 (byteCells [(l.length : Int)]) := own_of_blk (blk_new' _ _ _ _ rfl) (Nat.le_refl _) rfl (by omega)
    clear h h128
    go_enter Try.func19, Try.ntmps19
    go_wp2_with fail
    go_loopg [4, 5] l.length (fun k s4 s5 wr => ∃ (i : Nat) (p : List Int) (A1 : Option Addr) (c1 : Nat), s5 = .int .i64 i ∧ i ≤ l.length ∧ k = l.length - i ∧ s4 = .slice A1 (1 + p.length) c1 ∧ p.length ≤ 513 * i ∧ goO (listO numO) (l.take i) = some p ∧ Below w.heap.size w wr ∧ wr.ownsRow w.heap.size 5 1 (.slice A1 (1 + p.length) c1) (1 + p.length) (byteCells ((l.length : Int) :: p)))
    case atStart => exact ⟨0, [], _, _, rfl, by omega, rfl, rfl, by simp, rfl, hb0, ho0⟩
    case round =>
      clear hb0 ho0
      obtain ⟨i, p, A1, c1, rfl, hi, hk, rfl, hpl, hgo, hb, hown⟩ := hrel
      have Hk := Lib.hid hk
      have Hgo := Lib.hid hgo
      have Hb := Lib.hid hb
      have Hown := Lib.hid hown
      have hsz := hb.size
      clear hk hgo hb hown
      by_cases hlt : i < l.length
      · have hlt' : (i : Int) < l.length := by omega
        obtain ⟨b1, o1, rfl, hbb, cc⟩ := H.out (by omega)
        obtain ⟨Az, cz, e0, hCz⟩ := cc i hlt
        have e0 := (Hb.out.cell (p := ⟨b1, o1 + i, none⟩) hbb).trans e0
        have HR := Lib.hid (refNumbers_any Az cz l[i] wr ((hCz.below Hb.out).more hsz) (hx _ (List.getElem_mem hlt)))
        clear cc hCz
        obtain ⟨Gs, Gn⟩ := goO_take hlt Hgo.out
        have HGs := Lib.hid Gs
        have HGn := Lib.hid Gn
        clear Gs Gn
        generalize l[i] = z at *
        go_wp2_with fail
        refine HR.out.mono ?_
        rintro e w2 ⟨hb2, hn2, hs2⟩
        have Hb2 := Lib.hid (Hb.out.trans (hb2.mono hsz))
        cases hE : (listO numO) z with
        | none =>
          obtain rfl := hn2 hE
          have HP := Lib.hid (show OptPost (listO (listO numO) l) w (.returned (.tuple #[.slice none 0 0, .bool false])) w2 from ⟨Hb2.out, fun _ => rfl, fun bs h => by rw [HL.out, HGn.out hE] at h; cases h⟩)
          clear hn2 hs2 hE hb2
          go_wp2_with fail
          go_ret2
          exact HP.out
        | some bs =>
          obtain ⟨A2, c2, rfl, hC2, _⟩ := hs2 bs hE
          have hbl := numsO_len _ _ hE
          have HG2 := Lib.hid (HGs.out _ hE)
          have hown2 := own_below Hown.out hb2 (Nat.le_refl _)
          have hsz2 := Hb2.out.size
          clear hn2 hs2 hE hb2
          go_wp2_with (at_builtin; refine wp_app_any elemByte rfl _ _ rfl rfl hown2 rfl hC2 (show (byteCells bs).length = bs.length * 1 by simp [byteCells]) (bytes_one bs) ?h2 ?h3 ?h4 ?_)
          case h2 => omega
          case h3 => omega
          case h4 => exact hsz2
          intro v' w3 hown3 hg3 _
          have hb3 := below_app Hb2.out hown2 hg3 hsz2 (Nat.le_refl _)
          obtain ⟨A3, c3, rfl⟩ := own_slice hown3
          have Hb3 := Lib.hid hb3
          rw [← byteCells_append, List.cons_append] at hown3
          have Hown3 := Lib.hid hown3
          clear hown2 hg3 hb3 hown3 hC2
          go_wp2_with fail
          go_roundg (l.length - (i + 1))
          case measure => rw [Hk.out]; omega
          case rel => exact ⟨i + 1, p ++ bs, A3, c3, by go_num, by omega, rfl, by rw [List.length_append, Nat.add_assoc], by rw [List.length_append]; omega, HG2.out, Hb3.out, by rw [List.length_append, ← Nat.add_assoc]; exact Hown3.out⟩
      · have hie : i = l.length := by omega
        subst hie
        have HP := Lib.hid (show OptPost (listO (listO numO) l) w (.returned (.tuple #[.slice A1 (1 + p.length) c1, .bool true])) wr from by
          have hg := Hgo.out
          rw [List.take_length] at hg
          refine ⟨Hb.out, fun h => (by rw [HL.out, hg] at h; cases h), fun bs h => ?_⟩
          rw [HL.out, hg] at h
          injection h with h
          have h : (l.length : Int) :: p = bs := h
          subst h
          exact ⟨A1, c1, by rw [List.length_cons, Nat.add_comm], Cells.of_own Hown.out, own_fresh Hown.out (by omega)⟩)
        clear Hown
        go_wp2_with fail
        go_ret2
        exact HP.out

def ptO (p : Int × Int) : Option (List Int) := (numO p.1).bind fun a => (numO p.2).map (a ++ ·)
theorem ptO_len (p : Int × Int) (a : List Int) (h : ptO p = some a) : a.length ≤ 8 := by
  unfold ptO at h
  cases h1 : numO p.1 with
  | none => rw [h1] at h; cases h
  | some x =>
    cases h2 : numO p.2 with
    | none => rw [h1, h2] at h; cases h
    | some y =>
      rw [h1, h2] at h
      injection h with h
      have h : x ++ y = a := h
      subst h
      have := numO_len _ _ h1
      have := numO_len _ _ h2
      rw [List.length_append]; omega

set_option maxRecDepth 20000 in
set_option maxHeartbeats 2000000 in
theorem refPoints_any (A : Option Addr) (c : Nat) (l : List (Int × Int)) (w : World) (h : Cells w w.heap.size A (edgeCells l)) (hl : l.length ≤ 1000000) : Calls Try.prog 21 #[.slice A l.length c] w (OptPost (listO ptO l) w) := by
  by_cases h128 : 128 < l.length
  · have h128' : (128 : Int) < l.length := by omega
    have HP := Lib.hid (show OptPost (listO ptO l) w (.returned (.tuple #[.slice none 0 0, .bool false])) w from ⟨Below.refl _ _, fun _ => rfl, fun bs h => by unfold listO at h; rw [if_pos h128] at h; cases h⟩)
    clear h128
    go_enter Try.func21, Try.ntmps21
    go_wp2_with fail
    go_ret2
    exact HP.out
  · have h128' : ¬ (128 : Int) < l.length := by omega
    have H := Lib.hid h
    have HL := Lib.hid (show listO ptO l = (goO ptO l).map ((l.length : Int) :: ·) by unfold listO; rw [if_neg h128])
    have hw8 : IntKind.u8.wrap (l.length : Int) = l.length := by rw [IntKind.wrap_u8]; omega
    have hl128 : l.length ≤ 128 := by omega
    have hb0 := (Below.refl w.heap.size w).alloc (Nat.le_refl _) (.cells #[.int .u8 l.length] 5)
    have ho0 : (w.alloc (.cells #[.int .u8 l.length] 5)).ownsRow w.heap.size 5 1 (.slice (some ⟨w.heap.size, 0, none⟩) 1 1) 1 (byteCells [(l.length : Int)]) := own_of_blk (blk_new' _ _ _ _ rfl) (Nat.le_refl _) rfl (by omega)
    clear h h128
    go_enter Try.func21, Try.ntmps21
    go_wp2_with fail
    go_loopg [4, 5] l.length (fun k s4 s5 wr => ∃ (i : Nat) (p : List Int) (A1 : Option Addr) (c1 : Nat), s5 = .int .i64 i ∧ i ≤ l.length ∧ k = l.length - i ∧ s4 = .slice A1 (1 + p.length) c1 ∧ p.length ≤ 8 * i ∧ goO ptO (l.take i) = some p ∧ Below w.heap.size w wr ∧ wr.ownsRow w.heap.size 5 1 (.slice A1 (1 + p.length) c1) (1 + p.length) (byteCells ((l.length : Int) :: p)))
    case atStart => exact ⟨0, [], _, _, rfl, by omega, rfl, rfl, by simp, rfl, hb0, ho0⟩
    case round =>
      clear hb0 ho0
      obtain ⟨i, p, A1, c1, rfl, hi, hk, rfl, hpl, hgo, hb, hown⟩ := hrel
      have Hk := Lib.hid hk
      have Hgo := Lib.hid hgo
      have Hb := Lib.hid hb
      have Hown := Lib.hid hown
      have hsz := hb.size
      clear hk hgo hb hown
      by_cases hlt : i < l.length
      · have hlt' : (i : Int) < l.length := by omega
        obtain ⟨b1, o1, rfl, hbb, cc⟩ := H.out.edges (by omega)
        have e0 := (Hb.out.cell (p := ⟨b1, o1 + i * 2, none⟩) hbb).trans (cc i hlt).1
        have e1 := (Hb.out.cell (p := ⟨b1, o1 + i * 2 + 1, none⟩) hbb).trans (cc i hlt).2
        clear cc
        obtain ⟨Gs, Gn⟩ := goO_take hlt Hgo.out
        have HGs := Lib.hid Gs
        have HGn := Lib.hid Gn
        clear Gs Gn
        generalize l[i] = z at *
        obtain ⟨z1, z2⟩ := z
        simp only at e0 e1
        have HPt := Lib.hid (show ptO (z1, z2) = (numO z1).bind fun a => (numO z2).map (a ++ ·) from rfl)
        go_wp2_with fail
        refine (refNumber_any z1 wr).mono ?_
        rintro e w2 ⟨hb2, hn2, hs2⟩
        have Hb2 := Lib.hid (Hb.out.trans (hb2.mono hsz))
        have e1 := (hb2.cell (p := ⟨b1, o1 + i * 2 + 1, none⟩) (Nat.lt_of_lt_of_le hbb hsz)).trans e1
        have hown2 := own_below Hown.out hb2 (Nat.le_refl _)
        have Hown2 := Lib.hid hown2
        have hsz2 := hb2.size
        clear hb2 hown2 e0
        cases hE : numO z1 with
        | none =>
          obtain rfl := hn2 hE
          have HN := Lib.hid (show ptO (z1, z2) = none by rw [HPt.out, hE]; rfl)
          clear hn2 hs2 hE
          go_wp2_with fail
          refine (refNumber_any z2 w2).mono ?_
          rintro e w3 ⟨hb3, hn3, hs3⟩
          have HP := Lib.hid (show OptPost (listO ptO l) w (.returned (.tuple #[.slice none 0 0, .bool false])) w3 from ⟨Hb2.out.trans (hb3.mono (Nat.le_trans hsz hsz2)), fun _ => rfl, fun bs h => (by rw [HL.out, HGn.out HN.out] at h; cases h)⟩)
          clear hb3
          cases hE3 : numO z2 with
          | none =>
            obtain rfl := hn3 hE3
            clear hn3 hs3 hE3
            go_wp2_with fail
            go_ret2
            exact HP.out
          | some b3 =>
            obtain ⟨A3, c3, rfl, _⟩ := hs3 b3 hE3
            clear hn3 hs3 hE3
            go_wp2_with fail
            go_ret2
            exact HP.out
        | some bs =>
          obtain ⟨A2, c2, rfl, hC2, _⟩ := hs2 bs hE
          have hbl := numO_len _ _ hE
          have HE1 := Lib.hid hE
          have HC2 := Lib.hid hC2
          clear hn2 hs2 hE hC2
          go_wp2_with fail
          refine (refNumber_any z2 w2).mono ?_
          rintro e w3 ⟨hb3, hn3, hs3⟩
          have Hb3 := Lib.hid (Hb2.out.trans (hb3.mono (Nat.le_trans hsz hsz2)))
          cases hE : numO z2 with
          | none =>
            obtain rfl := hn3 hE
            have HP := Lib.hid (show OptPost (listO ptO l) w (.returned (.tuple #[.slice none 0 0, .bool false])) w3 from ⟨Hb3.out, fun _ => rfl, fun bs h => (by rw [HL.out, HGn.out (by rw [HPt.out, HE1.out, hE]; rfl)] at h; cases h)⟩)
            clear hn3 hs3 hE hb3
            go_wp2_with fail
            go_ret2
            exact HP.out
          | some bt =>
          obtain ⟨A3, c3, rfl, hC3, hf3⟩ := hs3 bt hE
          have hbl3 := numO_len _ _ hE
          have HG2 := Lib.hid (HGs.out (bs ++ bt) (by rw [HPt.out, HE1.out, hE]; rfl))
          have hown3 := own_below Hown2.out hb3 (Nat.le_refl _)
          have hC2 := HC2.out.below hb3
          have HC3 := Lib.hid hC3
          have hsz3 := Hb3.out.size
          clear hn3 hs3 hE hC3
          have hsz4 := hb3.size
          clear hb3
          go_wp2_with (at_builtin; refine wp_app_any elemByte rfl _ _ rfl rfl hown3 rfl hC2 (show (byteCells bs).length = bs.length * 1 by simp [byteCells]) (bytes_one bs) ?h2 ?h3 ?h4 ?_)
          case h2 => omega
          case h3 => omega
          case h4 => exact hsz3
          intro v' w4 hown4 hg4 hd4
          have hb4 := below_app Hb3.out hown3 hg4 hsz3 (Nat.le_refl _)
          have hC3 := HC3.out.grownFresh hg4 (Nat.le_refl _) (fun ad ha k hk => Nat.lt_of_lt_of_le (Nat.lt_of_lt_of_le (Hown.out.lt k hk).2 hsz2) (hf3 ad ha))
          have hsz5 := hg4.size
          obtain ⟨A4, c4, rfl⟩ := own_slice hown4
          clear hown3 hg4 hC2 hf3 hd4
          go_wp2_with (at_builtin; refine wp_app_any elemByte rfl _ _ rfl rfl hown4 rfl hC3 (show (byteCells bt).length = bt.length * 1 by simp [byteCells]) (bytes_one bt) ?h5 ?h6 ?h7 ?_)
          case h5 => omega
          case h6 => omega
          case h7 => exact Nat.le_trans hsz3 hsz5
          intro v' w5 hown5 hg5 _
          have hb5 := below_app hb4 hown4 hg5 (Nat.le_trans hsz3 hsz5) (Nat.le_refl _)
          obtain ⟨A5, c5, rfl⟩ := own_slice hown5
          have Hb5 := Lib.hid hb5
          rw [← byteCells_append, ← byteCells_append, List.cons_append] at hown5
          have Hown5 := Lib.hid hown5
          clear hown4 hg5 hb4 hb5 hown5 hC3
          go_wp2_with fail
          go_roundg (l.length - (i + 1))
          case measure => rw [Hk.out]; omega
          case rel => exact ⟨i + 1, p ++ (bs ++ bt), A5, c5, by go_num, by omega, rfl, by rw [List.length_append, List.length_append]; congr 1; omega, by rw [List.length_append, List.length_append]; omega, HG2.out, Hb5.out, by rw [List.length_append, List.length_append, show 1 + (p.length + (bs.length + bt.length)) = 1 + p.length + bs.length + bt.length by omega]; exact Hown5.out⟩
      · have hie : i = l.length := by omega
        subst hie
        have HP := Lib.hid (show OptPost (listO ptO l) w (.returned (.tuple #[.slice A1 (1 + p.length) c1, .bool true])) wr from by
          have hg := Hgo.out
          rw [List.take_length] at hg
          refine ⟨Hb.out, fun h => (by rw [HL.out, hg] at h; cases h), fun bs h => ?_⟩
          rw [HL.out, hg] at h
          injection h with h
          have h : (l.length : Int) :: p = bs := h
          subst h
          exact ⟨A1, c1, by rw [List.length_cons, Nat.add_comm], Cells.of_own Hown.out, own_fresh Hown.out (by omega)⟩)
        clear Hown
        go_wp2_with fail
        go_ret2
        exact HP.out

end Go.Proofs.Ytmlbjcngboegfaa
