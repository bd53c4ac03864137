/-
  From a contract to the row: lists of lists that came in. Written by an AI agent.
-/
import Derived.Test.YthdifhfmgmmljaaFrame
import Derived.Test.YthdifhfmgmmljaaSameR
import Derived.Deep.Matrix
namespace Go.Proofs.Ythdifhfmgmmljaa
open Go.ChangeShapes Go.WideShapes Go.ChangeAt Go.RowKit Go.Deep Go.Joins

section
variable {H : Type} {enc : TypeId × Value → H} {W : World}
theorem addr_flat {a : Addr} {v : Value} (h : W.cell? (a.add 0) = some v) : ∃ b off, a = ⟨b, off, none⟩ ∧ b < W.heap.size ∧ ∀ j, a.add j = ⟨b, off + j, none⟩ := by
  obtain ⟨b, off, spot⟩ := a
  have hspot : spot = none := by simpa [Addr.add] using World.cell?_spot h
  subst hspot
  have hadd : ∀ k, (⟨b, off, none⟩ : Addr).add k = ⟨b, off + k, none⟩ := fun k => by unfold Addr.add; split <;> simp_all
  rw [hadd] at h
  exact ⟨b, off, rfl, World.block_lt_of_cell? W _ h, hadd⟩
theorem open_rows {v : Value} {d : DataW H} {p : List MemPlace} {b0 : Nat} (hv : Value.okWide Try.prog W .any b0 44 v) (h : DataW.Trod enc Try.prog W 0 (fun _ => true) true 44 v d p) :
    ∃ (A : Option Addr) (cap : Nat) (rs : List (List Int)), v = .slice A rs.length cap ∧ RowsC W W.heap.size A rs := by
  obtain ⟨fuel, hf⟩ := h
  obtain ⟨a0, n0, c0, rfl⟩ := okWide_slice Try.underlying44 hv
  rcases open_int_rows Try.underlying44 Try.underlying27 Try.underlying3 (by kernel_rfl) (by kernel_rfl) hf with ⟨e1, _⟩ | ⟨a, len, cap, A, L, C, Z, e1, _, hl, hm, _, hr⟩
  · simp [Value.cells] at e1
    obtain ⟨rfl, rfl, rfl⟩ := e1
    exact ⟨none, 0, [], rfl, fun h => absurd h (by simp)⟩
  · simp [Value.cells] at e1
    obtain ⟨rfl, rfl, rfl⟩ := e1
    have hlen : ((List.range n0).map fun r => (Z r).take (L r)).length = n0 := by simp
    refine ⟨some a, c0, (List.range n0).map fun r => (Z r).take (L r), by rw [hlen], fun hp => ?_⟩
    rw [hlen] at hp
    obtain ⟨b, off, rfl, hb, hadd⟩ := addr_flat (hr 0 (by omega)).1
    refine ⟨b, off, rfl, hb, fun i hi => ?_⟩
    rw [hlen] at hi
    obtain ⟨h1, h2, h3, h4, _, h6, h7⟩ := hr i (by omega)
    rw [hadd] at h1
    have hil : (((List.range n0).map fun r => (Z r).take (L r))[i]'(by rw [hlen]; exact hi)) = (Z i).take (L i) := by simp
    have hl2 : ((Z i).take (L i)).length = L i := by simp; omega
    refine ⟨A i, C i, by rw [hil, hl2]; exact h1, ?_, by rw [hil, hl2]; exact h2⟩
    rw [hil]
    intro hp2
    have hp2 : 0 < L i := by simp [intCells] at hp2; omega
    cases hA : A i with
    | none => rw [h6 hA] at h2; omega
    | some a' =>
      obtain ⟨_, hc⟩ := h7 a' hA
      obtain ⟨b', off', rfl, hb', hadd'⟩ := addr_flat (hc 0 (by omega))
      refine ⟨b', off', rfl, hb', fun j u hj => ?_⟩
      simp only [intCells, List.getElem?_map, Option.map_eq_some_iff] at hj
      obtain ⟨z, hz', rfl⟩ := hj
      rw [List.getElem?_take] at hz'
      split at hz'
      · have := hc j (by omega)
        rw [hadd'] at this
        rw [this, List.getD_eq_getElem?_getD, hz']
        rfl
      · cases hz'
end
end Go.Proofs.Ythdifhfmgmmljaa
