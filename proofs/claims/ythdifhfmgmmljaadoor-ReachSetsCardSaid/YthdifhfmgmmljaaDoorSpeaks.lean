/-
  What each law of this seat asks first. Written by an AI agent.
-/
import Derived.Test.YthdifhfmgmmljaaDoorTrans
import Derived.Test.YthdifhfmgmmljaaDoorRefs
namespace Go.Proofs.YthdifhfmgmmljaaDoor
open Go.RowKit

theorem own_slice {w : World} {base size n : Nat} {t : TypeId} {v : Value} {xs : List Value} (h : w.ownsRow base t size v n xs) : ∃ A c, v = .slice A n c := by
  rcases h.2 with ⟨rfl, rfl⟩ | ⟨g, cap, cur, rfl, _⟩
  · exact ⟨none, 0, rfl⟩
  · exact ⟨_, _, rfl⟩

theorem trans_any (n : Int) (A : Option Addr) (cap : Nat) (es : List (Int × Int)) (w : World) (hes : Cells w w.heap.size A (edgeCells es)) :
    Calls Tryd.prog 9 #[.agg #[.int .i64 n, .slice A es.length cap]] w (TransPost n es w) := by
  cases hm : mayB n es with
  | false => exact trans_no n A cap es w hes hm
  | true =>
    obtain ⟨n, rfl⟩ := Int.eq_ofNat_of_zero_le (Int.le_of_lt (may_parts hm).1)
    exact trans_yes n A cap es w hes hm
theorem edge_false {cnt : Nat → Bool} {es : List (Int × Int)} {x y : Nat} : Edge1 false cnt es x y ↔ ∃ i : Nat, cnt i = true ∧ es[i]? = some ((x : Int), (y : Int)) := by
  constructor
  · rintro ⟨i, hi, hc, h | ⟨h, _⟩⟩
    · exact ⟨i, hc, by rw [List.getElem?_eq_getElem hi, h]⟩
    · cases h
  · rintro ⟨i, hc, h⟩
    obtain ⟨hi, he⟩ := List.getElem?_eq_some_iff.1 h
    exact ⟨i, hi, hc, .inl he⟩

theorem has_is {s : Nat} {x : Int} {p : Bool} (w : World) (h : setHas s x = p) (hs : s < 18446744073709551616) :
    Calls Tryd.prog 6 #[.int .u64 s, .int .i64 x] w fun e w' => e = .returned (.bool p) ∧ w = w' := by
  subst h; exact has_any s x w hs
theorem transB_iff {es : List (Int × Int)} {k t h : Nat} (he : es[k]? = some ((t : Int), (h : Int))) : transB es k = true ↔ Star (Edge1 false (fun i => i != k) es) t h := by
  have e0 : es.getD k (0, 0) = ((t : Int), (h : Int)) := by rw [List.getD_eq_getElem?_getD, he]; rfl
  unfold transB
  rw [e0]
  simp only [decide_eq_true_eq]
  rfl
theorem sp_edge {cnt : Nat → Bool} {x y : Nat} (h : Edge1 false cnt [(0, 1), (1, 2), (0, 2)] x y) : (cnt 0 = true ∧ x = 0 ∧ y = 1) ∨ (cnt 1 = true ∧ x = 1 ∧ y = 2) ∨ (cnt 2 = true ∧ x = 0 ∧ y = 2) := by
  obtain ⟨i, hc, hi⟩ := edge_false.1 h
  match i with
  | 0 => simp at hi; exact .inl ⟨hc, by omega, by omega⟩
  | 1 => simp at hi; exact .inr (.inl ⟨hc, by omega, by omega⟩)
  | 2 => simp at hi; exact .inr (.inr ⟨hc, by omega, by omega⟩)
  | i + 3 => simp at hi
theorem speaks_trans : transL [(0, 1), (1, 2), (0, 2)] 3 = [2] := by
  have h0 : transB [(0, 1), (1, 2), (0, 2)] 0 = false := by
    rw [← Bool.not_eq_true, transB_iff (t := 0) (h := 1) rfl]
    intro s
    have : 1 = 0 ∨ 1 = 2 := s.inv (P := fun z => z = 0 ∨ z = 2) (fun x y e hx => by
      rcases sp_edge e with ⟨hc, _⟩ | ⟨_, _, h⟩ | ⟨_, _, h⟩
      · cases hc
      · exact .inr h
      · exact .inr h) (.inl rfl)
    omega
  have h1 : transB [(0, 1), (1, 2), (0, 2)] 1 = false := by
    rw [← Bool.not_eq_true, transB_iff (t := 1) (h := 2) rfl]
    intro s
    have : 2 = 1 := s.inv (P := fun z => z = 1) (fun x y e hx => by
      rcases sp_edge e with ⟨_, h, _⟩ | ⟨hc, _⟩ | ⟨_, h, _⟩
      · omega
      · cases hc
      · omega) rfl
    omega
  have h2 : transB [(0, 1), (1, 2), (0, 2)] 2 = true := by
    rw [transB_iff (t := 0) (h := 2) rfl]
    exact .head (edge_false.2 ⟨0, rfl, rfl⟩) (.one (edge_false.2 ⟨1, rfl, rfl⟩))
  unfold transL
  rw [show List.range 3 = [0, 1, 2] from rfl]
  simp [List.filter, h0, h1, h2]
theorem speaks_may : mayB 3 [(0, 1), (1, 2), (0, 2)] = true := by decide

set_option maxHeartbeats 400000 in
theorem speaks_any (w : World) : Calls Tryd.prog 4 #[] w fun e w' => e = .returned (.bool true) ∧ Below w.heap.size w w' := by
  go_enter Tryd.func4, Tryd.ntmps4
  go_wp2_with fail
  refine (trans_any 3 _ 3 [(0, 1), (1, 2), (0, 2)] _ (fun _ => ⟨w.heap.size, 0, rfl, by simp; omega, fun j u hj => ?_⟩)).mono ?_
  · simp only [edgeCells, List.flatMap_cons, List.flatMap_nil, List.cons_append, List.nil_append] at hj
    rw [Nat.zero_add, World.cell?_alloc_past _ _ _ (by simp), World.cell?_alloc_new]
    simpa using hj
  rintro e w2 ⟨v, rfl, hb2, hv, _⟩
  have hv2 := hv speaks_may
  rw [show ([(0, 1), (1, 2), (0, 2)] : List (Int × Int)).length = 3 from rfl, speaks_trans] at hv2
  clear hv
  obtain ⟨A, c, rfl⟩ := own_slice hv2
  have hc2 := Cells.of_own hv2
  have hbw : Below w.heap.size w w2 := (((Below.refl _ _).alloc (Nat.le_refl _) _).alloc (by simp) _).trans (hb2.mono (by simp; omega))
  clear hb2 hv2
  go_wp2_with fail
  refine (same_any A _ c 1 [2] [2] _ (w2.heap.size + 1) ((hc2.alloc (Nat.le_refl _) _).more (by omega)) (fun _ => ⟨w2.heap.size, 0, rfl, by omega, fun j u hj => ?_⟩) (by simp) (by simp)).mono ?_
  · rw [Nat.zero_add, World.cell?_alloc_new]
    simpa [intCells] using hj
  rintro e w3 ⟨rfl, m, rfl⟩
  rw [show decide (([2] : List Int) = [2]) = true from rfl]
  have hbw3 := hbw.alloc hbw.size (.cells #[.int .i64 2] 3)
  go_wp2_with fail
  refine (of_any (some ⟨w2.heap.size + 1, 0, none⟩) 2 [1, 5] _ (fun _ => ⟨w2.heap.size + 1, 0, rfl, by simp, fun j u hj => ?_⟩) (by simp)).mono ?_
  · have := World.cell?_alloc_new ((w2.alloc (.cells #[.int .i64 2] 3)).drewN m) #[.int .i64 1, .int .i64 5] 3 j
    rw [show ((w2.alloc (.cells #[.int .i64 2] 3)).drewN m).heap.size = w2.heap.size + 1 by simp] at this
    rw [Nat.zero_add, this]
    simpa [intCells] using hj
  rintro e w4 ⟨rfl, rfl⟩
  rw [show ofSet [1, 5] = 34 by decide]
  go_wp2_with fail
  refine (has_is _ (show setHas 34 5 = true by decide) (by omega)).mono ?_
  rintro e w4 ⟨rfl, rfl⟩
  go_wp2_with fail
  go_ret
  exact ⟨rfl, (below_drewN hbw3 m).alloc (by have := hbw3.size; simpa using this) _⟩
end Go.Proofs.YthdifhfmgmmljaaDoor
