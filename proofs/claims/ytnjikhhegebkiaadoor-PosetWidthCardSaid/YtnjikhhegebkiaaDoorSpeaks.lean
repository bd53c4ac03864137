/-
  What each law of this seat asks first: the document's example. Written by an AI agent.
-/
import Derived.Test.YtnjikhhegebkiaaDoorDilLaw
import Derived.Test.YtnjikhhegebkiaaDoorApart
import Derived.Test.YtnjikhhegebkiaaDoorRefs
namespace Go.Proofs.YtnjikhhegebkiaaDoor
open Go.RowKit

abbrev exE : List (Int × Int) := [(0, 1), (0, 2)]
theorem ex_edge {x y : Nat} (h : Edge1 false (fun _ => true) exE x y) : x = 0 ∧ (y = 1 ∨ y = 2) := by
  obtain ⟨i, hi, _, h1 | ⟨h1, _⟩⟩ := h
  · match i with
    | 0 => simp [exE] at h1; omega
    | 1 => simp [exE] at h1; omega
    | i + 2 => simp [exE] at hi; omega
  · cases h1
theorem ex_star {x y : Nat} : Star (Edge1 false (fun _ => true) exE) x y ↔ y = x ∨ (x = 0 ∧ (y = 1 ∨ y = 2)) := by
  constructor
  · intro h
    exact h.inv (P := fun z => z = x ∨ (x = 0 ∧ (z = 1 ∨ z = 2))) (fun a b e ha => by
      have := ex_edge e
      omega) (.inl rfl)
  · rintro (h | ⟨rfl, rfl | rfl⟩)
    · subst h; exact .refl _
    · exact .one ⟨0, by decide, rfl, .inl rfl⟩
    · exact .one ⟨1, by decide, rfl, .inl rfl⟩
theorem ex_T {T : List Nat} (h : Grown1 false (fun _ => true) 3 exE T) : T = [7, 2, 4] := by
  obtain ⟨hl, hb⟩ := grown_iff (n := 3) (by intro e he; simp [exE] at he; rcases he with rfl | rfl <;> decide) h
  match T, hl with
  | [a, b, c], _ =>
    have e0 : a = 7 := by
      refine Nat.eq_of_testBit_eq fun i => ?_
      have h0 : a.testBit i = true ↔ _ := (hb 0 (by decide) i).trans ex_star
      match i with
      | 0 => exact (h0.2 (.inl rfl)).trans (by decide)
      | 1 => exact (h0.2 (.inr ⟨rfl, .inl rfl⟩)).trans (by decide)
      | 2 => exact (h0.2 (.inr ⟨rfl, .inr rfl⟩)).trans (by decide)
      | i + 3 =>
        rw [Nat.testBit_lt_two_pow (x := 7) (i := i + 3) (Nat.lt_of_lt_of_le (by decide : 7 < 2 ^ 3) (Nat.pow_le_pow_right (by omega) (by omega)))]
        cases hh : a.testBit (i + 3) with
        | false => rfl
        | true => have := h0.1 hh; omega
    have e1 : b = 2 := by
      refine Nat.eq_of_testBit_eq fun i => ?_
      have h0 : b.testBit i = true ↔ _ := (hb 1 (by decide) i).trans ex_star
      match i with
      | 0 =>
        cases hh : b.testBit 0 with
        | false => decide
        | true => have := h0.1 hh; omega
      | 1 => exact (h0.2 (.inl rfl)).trans (by decide)
      | i + 2 =>
        rw [Nat.testBit_lt_two_pow (x := 2) (i := i + 2) (Nat.lt_of_lt_of_le (by decide : 2 < 2 ^ 2) (Nat.pow_le_pow_right (by omega) (by omega)))]
        cases hh : b.testBit (i + 2) with
        | false => rfl
        | true => have := h0.1 hh; omega
    have e2 : c = 4 := by
      refine Nat.eq_of_testBit_eq fun i => ?_
      have h0 : c.testBit i = true ↔ _ := (hb 2 (by decide) i).trans ex_star
      match i with
      | 0 =>
        cases hh : c.testBit 0 with
        | false => decide
        | true => have := h0.1 hh; omega
      | 1 =>
        cases hh : c.testBit 1 with
        | false => decide
        | true => have := h0.1 hh; omega
      | 2 => exact (h0.2 (.inl rfl)).trans (by decide)
      | i + 3 =>
        rw [Nat.testBit_lt_two_pow (x := 4) (i := i + 3) (Nat.lt_of_lt_of_le (by decide : 4 < 2 ^ 3) (Nat.pow_le_pow_right (by omega) (by omega)))]
        cases hh : c.testBit (i + 3) with
        | false => rfl
        | true => have := h0.1 hh; omega
    rw [e0, e1, e2]
theorem ex_ask : askB 3 exE = true := by decide
theorem ex_lev : levF 3 exE = [0, 1, 1] := by decide
theorem ex_chains : (chainsF 3 (joinF (abF [7, 2, 4] 3) 3 3).nx (joinF (abF [7, 2, 4] 3) 3 3).pv 3).length = 2 := by decide +kernel
theorem ex_apart {B M : Nat} (h : Dil 3 (abF [7, 2, 4] 3) (chainsF 3 (joinF (abF [7, 2, 4] 3) 3 3).nx (joinF (abF [7, 2, 4] 3) 3 3).pv 3) (apartF B M 3)) : apartF B M 3 = [1, 2] := by
  have hl := h.len
  rw [ex_chains] at hl
  have u1 : Up (abF [7, 2, 4] 3) 0 1 := by unfold Up; decide
  have u2 : Up (abF [7, 2, 4] 3) 0 2 := by unfold Up; decide
  have ha := h.arng
  have hr := h.rise
  have hn := h.anti
  generalize apartF B M 3 = a at *
  match a, hl with
  | [p, q], _ =>
    obtain ⟨i, rfl, hi⟩ := ha p (by simp)
    obtain ⟨j, rfl, hj⟩ := ha q (by simp)
    have hij : (i : Int) < j := by simpa using hr
    have h0 : i ≠ 0 := fun e => by
      subst e
      have : j = 1 ∨ j = 2 := by omega
      rcases this with rfl | rfl
      · exact hn 0 1 (by simp) (by simp) u1
      · exact hn 0 2 (by simp) (by simp) u2
    have : i = 1 ∧ j = 2 := by omega
    rw [this.1, this.2]
    rfl
set_option maxHeartbeats 800000 in
theorem speaks_any (w : World) (hT : Tab w) (hp : 0 < w.heap.size) : Calls Tryd.prog 8 #[] w fun e w' => e = .returned (.bool true) ∧ Below w.heap.size w w' := by
  have hE : EdgesIn 3 exE := by intro e he; simp [exE] at he; rcases he with rfl | rfl <;> decide
  have hord : (orderF exE 3).length = 3 := by decide
  go_enter Tryd.func8, Tryd.ntmps8
  have HE := Lib.hid (And.intro hE hord)
  clear hE hord
  go_wp2_with fail
  obtain ⟨w1, hw1⟩ : ∃ y, y = w.alloc (.cells #[.int .i64 0, .int .i64 1, .int .i64 0, .int .i64 2] 40) := ⟨_, rfl⟩
  have hz1 : w1.heap.size = w.heap.size + 1 := by rw [hw1]; simp
  have hb1 := (Below.refl w.heap.size w).alloc (Nat.le_refl _) (.cells #[.int .i64 0, .int .i64 1, .int .i64 0, .int .i64 2] 40)
  have hE1 : Cells w1 w1.heap.size (some ⟨w.heap.size, 0, none⟩) (edgeCells exE) := fun _ => ⟨w.heap.size, 0, rfl, by omega, fun j u hj => by
    simp only [exE, edgeCells, List.flatMap_cons, List.flatMap_nil, List.cons_append, List.nil_append] at hj
    rw [hw1, Nat.zero_add, World.cell?_alloc_new]
    simpa using hj⟩
  rw [← hw1] at hb1
  rw [← hw1]
  obtain ⟨w2, hw2⟩ : ∃ y, y = w1.alloc (.cells #[.int .i64 3, .slice (some ⟨w.heap.size, 0, none⟩) 2 2] 24) := ⟨_, rfl⟩
  have hz2 : w2.heap.size = w1.heap.size + 1 := by rw [hw2]; simp
  have hb2 := hb1.alloc hb1.size (.cells #[.int .i64 3, .slice (some ⟨w.heap.size, 0, none⟩) 2 2] 24)
  have hG2 := Blk.new w1 24 #[.int .i64 3, .slice (some ⟨w.heap.size, 0, none⟩) 2 2]
  have hE2 := (hE1.alloc (Nat.le_refl _) (.cells #[.int .i64 3, .slice (some ⟨w.heap.size, 0, none⟩) 2 2] 24)).more (show w1.heap.size ≤ w2.heap.size by omega)
  rw [← hw2] at hb2 hG2 hE2
  rw [← hw2]
  have HB2 := Lib.hid hb2
  have HG2 := Lib.hid (show Blk w2 (w.heap.size + 1) 24 #[.int .i64 3, .slice (some ⟨w.heap.size, 0, none⟩) 2 2] by rw [← hz1]; exact hG2)
  have HE2 := Lib.hid hE2
  have hz12 : w.heap.size + 1 < w2.heap.size := by omega
  have HT2 := Lib.hid (hT.below hb2 hp)
  clear hw1 hw2 hb1 hb2 hG2 hE1 hE2 hz2 hz1
  refine (chains_any 3 _ 2 exE w2 HE2.out HT2.out (by omega)).mono ?_
  rintro e w3 ⟨v3, rfl, hb3, _, hy3⟩
  obtain ⟨T, vs, hgr, hov, hrows⟩ := hy3 ex_ask
  have hT3 := ex_T hgr
  subst hT3
  have hvl : vs.length = 2 := by rw [hrows.len]; exact ex_chains
  rw [hvl] at hov
  obtain ⟨A3, c3, rfl⟩ := own_slice hov
  have HB3 := Lib.hid (HB2.out.trans (hb3.mono (by omega)))
  have HG3 := Lib.hid (HG2.out.below hb3 hz12)
  have HE3 := Lib.hid ((HE2.out.below hb3).more hb3.size)
  have HT3 := Lib.hid (HT2.out.below hb3 (by omega))
  have z0 : w3.cell? ⟨w.heap.size + 1, 0, none⟩ = some (.int .i64 3) := HG3.out.cell 0
  have z1 : w3.cell? ⟨w.heap.size + 1, 1, none⟩ = some (.slice (some ⟨w.heap.size, 0, none⟩) 2 2) := HG3.out.cell 1
  have hz3 := hb3.size
  rw [show errOf (askB 3 exE) = 0 by rw [ex_ask]; rfl]
  clear hb3 hy3 hov hrows
  go_wp2_with fail
  refine (apart_any 3 _ 2 exE w3 HE3.out HT3.out (by omega)).mono ?_
  rintro e w4 ⟨v4, rfl, hb4, _, hy4⟩
  obtain ⟨T, B, M, hgr4, halt, hov⟩ := hy4 ex_ask
  have hT4 := ex_T hgr4
  subst hT4
  have ha4 := ex_apart (dilworth HE.out.1 HE.out.2 (by omega) hgr4 halt)
  rw [show (3 : Int).toNat = 3 from rfl, ha4] at hov
  obtain ⟨A4, c4, rfl⟩ := own_slice hov
  have HC4 := Lib.hid (Cells.of_own hov)
  have HB4 := Lib.hid (HB3.out.trans (hb4.mono (by omega)))
  have HG4 := Lib.hid (HG3.out.below hb4 (by omega))
  have HE4 := Lib.hid ((HE3.out.below hb4).more hb4.size)
  have z0 : w4.cell? ⟨w.heap.size + 1, 0, none⟩ = some (.int .i64 3) := HG4.out.cell 0
  have z1 : w4.cell? ⟨w.heap.size + 1, 1, none⟩ = some (.slice (some ⟨w.heap.size, 0, none⟩) 2 2) := HG4.out.cell 1
  have hz4 := hb4.size
  rw [show errOf (askB 3 exE) = 0 by rw [ex_ask]; rfl]
  clear hb4 hy4 hov halt ha4
  go_wp2_with fail
  refine (levels_any 3 _ 2 exE w4 HE4.out).mono ?_
  rintro e w5 ⟨v5, rfl, hb5, hy5, _⟩
  have hov := hy5 ex_ask
  rw [show (3 : Int).toNat = 3 from rfl, ex_lev] at hov
  obtain ⟨A5, c5, rfl⟩ := own_slice hov
  have HC5 := Lib.hid (Cells.of_own hov)
  have HC45 := Lib.hid ((HC4.out.below hb5).more hb5.size)
  have HB5 := Lib.hid (HB4.out.trans (hb5.mono (by omega)))
  have hz5 := hb5.size
  rw [show errOf (askB 3 exE) = 0 by rw [ex_ask]; rfl]
  clear hb5 hy5 hov z0 z1
  go_wp2_with fail
  refine (same_any A4 _ c4 2 [1, 2] [1, 2] _ (w5.heap.size + 1) ((HC45.out.alloc (Nat.le_refl _) _).more (by omega)) (fun _ => ⟨w5.heap.size, 0, rfl, by omega, fun j u hj => by
    rw [Nat.zero_add, World.cell?_alloc_new]
    simpa [intCells] using hj⟩) (by simp) (by simp)).mono ?_
  rintro e w6 ⟨rfl, m, rfl⟩
  rw [show decide (([1, 2] : List Int) = [1, 2]) = true from rfl]
  have HB6 := Lib.hid (below_drewN (HB5.out.alloc (by omega) (.cells #[.int .i64 1, .int .i64 2] 3)) m)
  have HC6 := Lib.hid ((HC5.out.alloc (Nat.le_refl _) (.cells #[.int .i64 1, .int .i64 2] 3)).drewN m)
  obtain ⟨w6, hw6⟩ : ∃ y, y = (w5.alloc (.cells #[.int .i64 1, .int .i64 2] 3)).drewN m := ⟨_, rfl⟩
  have hz6 : w6.heap.size = w5.heap.size + 1 := by rw [hw6]; simp
  rw [← hw6] at HB6 HC6
  rw [← hw6]
  clear hw6
  go_wp2_with fail
  refine (same_any A5 _ c5 3 [0, 1, 1] [0, 1, 1] _ (w6.heap.size + 1) ((HC6.out.alloc (by omega) _).more (by omega)) (fun _ => ⟨w5.heap.size + 1, 0, rfl, by omega, fun j u hj => by
    rw [Nat.zero_add, ← hz6, World.cell?_alloc_new]
    simpa [intCells] using hj⟩) (by simp) (by simp)).mono ?_
  rintro e w7 ⟨rfl, m2, rfl⟩
  rw [show decide (([0, 1, 1] : List Int) = [0, 1, 1]) = true from rfl]
  have HB7 := Lib.hid (below_drewN (HB6.out.alloc (by omega) (.cells #[.int .i64 0, .int .i64 1, .int .i64 1] 3)) m2)
  go_wp2_with fail
  go_ret
  exact ⟨rfl, HB7.out⟩
end Go.Proofs.YtnjikhhegebkiaaDoor
