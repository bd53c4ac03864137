/-
  What the rotation laws ask first. Written by an AI agent.
-/
import Derived.Test.YthdifhfmgmmljaaFacesW
namespace Go.Proofs.Ythdifhfmgmmljaa
open Go.RowKit

theorem speaks5_faces : facesOf 2 [(0, 1)] [[0], [1]] = [[0, 1]] := by decide +kernel

set_option maxHeartbeats 400000 in
theorem speaks5_any (w : World) : Calls Try.prog 21 #[] w fun e w' => e = .returned (.bool true) ∧ Below w.heap.size w w' := by
  go_enter Try.func21, Try.ntmps21
  go_wp2_with fail
  refine (faces_any 2 _ _ 1 2 [(0, 1)] [[0], [1]] _ ?_ ?_ (by simp) (by simp)).mono ?_
  · intro _
    refine ⟨w.heap.size, 0, rfl, by simp; omega, fun j u hj => ?_⟩
    match j with
    | 0 => injection hj with hj; subst hj; simp [go_sem]
    | 1 => injection hj with hj; subst hj; simp [go_sem]
    | j + 2 => simp [edgeCells] at hj
  · intro _
    refine ⟨w.heap.size + 1 + 1 + 1 + 1, 0, rfl, by simp, fun i hi => ?_⟩
    match i with
    | 0 =>
      refine ⟨some ⟨w.heap.size + 1 + 1, 0, none⟩, 1, by simp [go_sem], fun _ => ⟨_, 0, rfl, by simp, fun j u hj => ?_⟩⟩
      match j with
      | 0 => injection hj with hj; subst hj; simp [go_sem]
      | j + 1 => simp [intCells] at hj
    | 1 =>
      refine ⟨some ⟨w.heap.size + 1 + 1 + 1, 0, none⟩, 1, by simp [go_sem], fun _ => ⟨_, 0, rfl, by simp, fun j u hj => ?_⟩⟩
      match j with
      | 0 => injection hj with hj; subst hj; simp [go_sem]
      | j + 1 => simp [intCells] at hj
    | i + 2 => exact absurd hi (by simp)
  rw [speaks5_faces]
  rintro e w2 ⟨A2, c2, rfl, hb2, hR⟩
  have hbw : Below w.heap.size w w2 := ((((((Below.refl _ _).alloc (Nat.le_refl _) _).alloc (by simp) _).alloc (by simp; omega) _).alloc (by simp; omega) _).alloc (by simp; omega) _).trans (hb2.mono (by simp; omega))
  obtain ⟨b, off, rfl, _, hc⟩ := hR (by simp)
  obtain ⟨Ai, ci, h1, _⟩ := hc 0 (by simp)
  simp only [List.getElem_cons_zero, Nat.add_zero, List.length_cons, List.length_nil, Nat.zero_add, Nat.reduceAdd] at h1
  clear hc hR hb2
  go_wp2_with fail
  go_ret
  exact ⟨rfl, hbw⟩
end Go.Proofs.Ythdifhfmgmmljaa
