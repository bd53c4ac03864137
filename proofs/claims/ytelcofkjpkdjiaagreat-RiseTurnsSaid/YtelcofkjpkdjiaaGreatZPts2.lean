import Derived.Test.YtelcofkjpkdjiaaGreatZPts1
import Derived.Test.YtelcofkjpkdjiaaGreatZWeb
/-
  forest.Parts: the High angles joined. (Printed by partsgen.py.) Written by an AI agent.
-/
namespace Go.Proofs.YtelcofkjpkdjiaaGreat
open Go.RowKit Go.Maps

theorem WebE.drew {w : World} {gw g len cap F : Nat} {R : Array Value} {ro : Nat → Nat} (h : WebE w gw g len cap F R ro) : WebE w.drew gw g len cap F R ro := by
  obtain ⟨l, h⟩ := h
  exact ⟨l, h.b.drew, h.c.drew, h.ll, h.web, h.root, h.ne⟩
def R5.BFact.web {Ss : List (List Nat)} (d gw gl len cap F : Nat) (R : Array Value) (ro : Nat → Nat) (h1 : ∀ c, c ≠ d → gw ∉ Ss.getD c []) (h2 : ∀ c, c ≠ d → gl ∉ Ss.getD c []) : R5.BFact Ss := ⟨[d], fun _ w => WebE w gw gl len cap F R ro,
  fun c hc v w w' hb hB => hB.but hb (h1 c fun e => by subst e; simp at hc) (h2 c fun e => by subst e; simp at hc)⟩
end Go.Proofs.YtelcofkjpkdjiaaGreat
/-
  forest.Parts: the web made, its angles. (Printed by partsgen.py.) Written by an AI agent.
-/
namespace Go.Proofs.YtelcofkjpkdjiaaGreat
open Go.RowKit Go.Maps

end Go.Proofs.YtelcofkjpkdjiaaGreat
/-
  forest.Parts, whole. (Printed by partsgen.py.) Written by an AI agent.
-/
namespace Go.Proofs.YtelcofkjpkdjiaaGreat
open Go.RowKit Go.Maps

end Go.Proofs.YtelcofkjpkdjiaaGreat
