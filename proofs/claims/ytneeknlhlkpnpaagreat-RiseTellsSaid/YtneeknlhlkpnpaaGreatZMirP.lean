import Derived.Test.YtneeknlhlkpnpaaGreatZMir
import Derived.Test.YtneeknlhlkpnpaaGreatZReg
/-
 sweep.Mirror: what it computes. Written by an AI agent.
-/
namespace Go.Proofs.YtneeknlhlkpnpaaGreat
open Go.RowKit
theorem elemRow2 : Elem Tryz.prog 26 25 (.slice none 0 0) 1 24 := Elem.mk' Tryz.underlying26 (by kernel_rfl) rfl (by omega)
theorem FacesOwn.evo {B base : Nat} {T : List TypeId} {w w' : World} {v : Value} {F : List (List Int)} (h : FacesOwn w base v F) (he : Evo B T w w') (h1 : 25 ∉ T) (h2 : 3 ∉ T) : FacesOwn w' base v F := by
 obtain ⟨sl, k1, k2⟩ := h
 refine ⟨sl, own_evo k1 he h1, fun i hi => ?_⟩
 obtain ⟨Ai, ci, k3, k4⟩ := k2 i hi
 exact ⟨Ai, ci, k3, own_evo k4 he h2⟩
end Go.Proofs.YtneeknlhlkpnpaaGreat
