import Derived.Test.YthdifhfmgmmljaaTrans
import Derived.Test.YthdifhfmgmmljaaParts
import Derived.Test.YthdifhfmgmmljaaRefPart
import Derived.Test.YthdifhfmgmmljaaGoLaw
namespace Go.Proofs.Ythdifhfmgmmljaa
open Go.RowKit

theorem trans_any (n : Int) (A : Option Addr) (cap : Nat) (es : List (Int × Int)) (w : World) (hes : Cells w w.heap.size A (edgeCells es)) :
    Calls Try.prog 12 #[.agg #[.int .i64 n, .slice A es.length cap]] w (TransPost n es w) := by
  cases hm : mayB n es with
  | false => exact trans_no n A cap es w hes hm
  | true =>
    obtain ⟨n, rfl⟩ := Int.eq_ofNat_of_zero_le (Int.le_of_lt (may_parts hm).1)
    exact trans_yes n A cap es w hes hm
theorem parts_any (n : Int) (A : Option Addr) (cap : Nat) (es : List (Int × Int)) (wo : Nat) (hwo : wo < 18446744073709551616) (w : World) (hes : Cells w w.heap.size A (edgeCells es)) :
    Calls Try.prog 15 #[.agg #[.int .i64 n, .slice A es.length cap], .int .u64 wo] w (PartsPost n es wo w) := by
  cases hm : mayB n es with
  | false => exact parts_no n A cap es wo w hes hm
  | true =>
    obtain ⟨n, rfl⟩ := Int.eq_ofNat_of_zero_le (Int.le_of_lt (may_parts hm).1)
    exact parts_yes n A cap es wo hwo w hes hm

theorem Edge1.congr {both : Bool} {c d : Nat → Bool} {es : List (Int × Int)} (h : ∀ i, i < es.length → c i = d i) {x y : Nat} : Edge1 both c es x y → Edge1 both d es x y :=
  fun ⟨i, hi, hc, r⟩ => ⟨i, hi, by rw [← h i hi]; exact hc, r⟩
theorem Star.congr {both : Bool} {c d : Nat → Bool} {es : List (Int × Int)} (h : ∀ i, i < es.length → c i = d i) {x y : Nat} : Star (Edge1 both c es) x y ↔ Star (Edge1 both d es) x y :=
  ⟨fun s => s.mono fun _ _ e => e.congr h, fun s => s.mono fun _ _ e => e.congr fun i hi => (h i hi).symm⟩

theorem trans_eq {n : Nat} {es : List (Int × Int)} (hin : InN n es) {i : Nat} (hi : i < es.length) : transB es i = rtransB n es i := by
  obtain ⟨t, u, e, ht, hu⟩ := hin.at_ hi
  have e0 : es.getD i (0, 0) = ((t : Int), (u : Int)) := by simp [hi, e]
  unfold transB rtransB
  rw [e0, Bool.eq_iff_iff]
  simp only [decide_eq_true_eq]
  rw [show (((t : Int), (u : Int)).1).toNat = t from rfl, show (((t : Int), (u : Int)).2).toNat = u from rfl, goAll_iff hin ht u]
  refine Star.congr fun k hk => ?_
  rw [getD_setB]
  by_cases h : i = k
  · subst h; simp [hi]
  · simp [h, hk, Ne.symm h]
theorem transL_eq {n : Nat} {es : List (Int × Int)} (hin : InN n es) : transL es es.length = rtransL n es es.length := by
  unfold transL rtransL
  congr 1
  exact List.filter_congr fun i hi => trans_eq hin (List.mem_range.1 hi)

theorem speaks_trans : transL [(0, 1), (1, 2), (0, 2)] 3 = [2] := by
  have h := transL_eq (n := 3) (es := [(0, 1), (1, 2), (0, 2)]) (by unfold InN; decide)
  rw [show ([(0, 1), (1, 2), (0, 2)] : List (Int × Int)).length = 3 from rfl] at h
  rw [h]; decide
theorem speaks_may : mayB 3 [(0, 1), (1, 2), (0, 2)] = true := by decide

set_option maxHeartbeats 400000 in
theorem speaks_any (w : World) : Calls Try.prog 10 #[] w fun e w' => e = .returned (.bool true) ∧ Below w.heap.size w w' := by
  go_enter Try.func10, Try.ntmps10
  go_wp2_with fail
  refine (trans_any 3 _ 3 [(0, 1), (1, 2), (0, 2)] _ (fun _ => ⟨w.heap.size, 0, rfl, by simp; omega, fun j u hj => ?_⟩)).mono ?_
  · simp only [edgeCells, List.flatMap_cons, List.flatMap_nil, List.cons_append, List.nil_append] at hj
    rw [Nat.zero_add, World.cell?_alloc_past _ _ _ (by simp), World.cell?_alloc_new]
    simpa using hj
  rintro e w2 ⟨v, rfl, hb2, hv, _⟩
  have hv2 := hv speaks_may
  rw [show ([(0, 1), (1, 2), (0, 2)] : List (Int × Int)).length = 3 from rfl, speaks_trans] at hv2
  clear hv
  obtain ⟨A, c, rfl⟩ := own_slice hv2
  have hc2 := Cells.of_own hv2
  have hbw : Below w.heap.size w w2 := (((Below.refl _ _).alloc (Nat.le_refl _) _).alloc (by simp) _).trans (hb2.mono (by simp; omega))
  clear hb2 hv2
  go_wp2_with fail
  refine (same_any A _ c 1 [2] [2] _ (w2.heap.size + 1) ((hc2.alloc (Nat.le_refl _) _).more (by omega)) (fun _ => ⟨w2.heap.size, 0, rfl, by omega, fun j u hj => ?_⟩) (by simp) (by simp)).mono ?_
  · rw [Nat.zero_add, World.cell?_alloc_new]
    simpa [intCells] using hj
  rintro e w3 ⟨rfl, m, rfl⟩
  rw [show decide (([2] : List Int) = [2]) = true from rfl]
  have hbw3 := hbw.alloc hbw.size (.cells #[.int .i64 2] 3)
  go_wp2_with fail
  refine (of_any (some ⟨w2.heap.size + 1, 0, none⟩) 2 [1, 5] _ (fun _ => ⟨w2.heap.size + 1, 0, rfl, by simp, fun j u hj => ?_⟩) (by simp)).mono ?_
  · have := World.cell?_alloc_new ((w2.alloc (.cells #[.int .i64 2] 3)).drewN m) #[.int .i64 1, .int .i64 5] 3 j
    rw [show ((w2.alloc (.cells #[.int .i64 2] 3)).drewN m).heap.size = w2.heap.size + 1 by simp] at this
    rw [Nat.zero_add, this]
    simpa [intCells] using hj
  rintro e w4 ⟨rfl, rfl⟩
  rw [show ofSet [1, 5] = 34 by decide]
  go_wp2_with fail
  refine (has_is _ (show setHas 34 5 = true by decide) (by omega)).mono ?_
  rintro e w4 ⟨rfl, rfl⟩
  go_wp2_with fail
  go_ret
  exact ⟨rfl, (below_drewN hbw3 m).alloc (by have := hbw3.size; simpa using this) _⟩
end Go.Proofs.Ythdifhfmgmmljaa
