import Derived.Test.YtneeknlhlkpnpaaGreatZEul
/-
 The document's Right: it tells what the program's tells. Written by an AI agent.
-/
namespace Go.Proofs.YtneeknlhlkpnpaaGreat
open Go.RowKit
end Go.Proofs.YtneeknlhlkpnpaaGreat
namespace Go.Proofs.YtneeknlhlkpnpaaGreat
open Go.RowKit
theorem FacesOwn.below {w w' : World} {b0 B : Nat} {v : Value} {F : List (List Int)} (h : FacesOwn w b0 v F) (hb : Below B w w') (hB : w.heap.size ≤ B) : FacesOwn w' b0 v F := by
 obtain ⟨sl, h1, h2⟩ := h
 refine ⟨sl, own_below h1 hb hB, fun i hi => ?_⟩
 obtain ⟨Ai, ci, h3, h4⟩ := h2 i hi
 exact ⟨Ai, ci, h3, own_below h4 hb hB⟩
end Go.Proofs.YtneeknlhlkpnpaaGreat
namespace Go.Proofs.YtneeknlhlkpnpaaGreat
open Go.RowKit
end Go.Proofs.YtneeknlhlkpnpaaGreat
