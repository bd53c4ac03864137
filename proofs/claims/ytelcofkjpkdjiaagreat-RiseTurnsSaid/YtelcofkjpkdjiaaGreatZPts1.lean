import Derived.Test.YtelcofkjpkdjiaaGreatZPtM
import Derived.Test.YtelcofkjpkdjiaaGreatZWeb
/-
  forest.Parts: its last loop: the angles counted. (Printed by partsgen.py.) Written by an AI agent.
-/
namespace Go.Proofs.YtelcofkjpkdjiaaGreat
open Go.RowKit Go.Maps

theorem WebE.but {S : List Nat} {w w' : World} {gw g len cap F : Nat} {R : Array Value} {ro : Nat → Nat} (h : WebE w gw g len cap F R ro) (hb : But S w w') (h1 : gw ∉ S) (h2 : g ∉ S) : WebE w' gw g len cap F R ro := by
  obtain ⟨l, h⟩ := h
  exact ⟨l, hb.blk h.b h1, hb.blk h.c h2, h.ll, h.web, h.root, h.ne⟩
theorem But.grown {g : Nat} {w w' : World} (h : But [g] w w') : w.grownBy w' (some g) := ⟨h.os, h.tape, h.output, h.size, fun k hk hn => h.block k hk (by
  intro e
  have : k = g := by simpa using e
  exact hn (by rw [this]))⟩
theorem PartM.mono {w : World} {B B' m : Nat} {v : Value} {rl : Nat → List Int} {an : Nat → Nat} {rv : Nat → Value} (h : PartM w B v m rl an rv) (hb : B' ≤ B) : PartM w B' v m rl an rv := ⟨own_mono h.own hb, h.rows.mono hb⟩
end Go.Proofs.YtelcofkjpkdjiaaGreat
/-
  forest.Parts: the vertices put to their parts. (Printed by partsgen.py.) Written by an AI agent.
-/
namespace Go.Proofs.YtelcofkjpkdjiaaGreat
open Go.RowKit Go.Maps

theorem WebE.low {B : Nat} {w w' : World} {gw g len cap F : Nat} {R : Array Value} {ro : Nat → Nat} (h : WebE w gw g len cap F R ro) (hb : Below B w w') (h1 : gw < B) (h2 : g < B) : WebE w' gw g len cap F R ro := by
  obtain ⟨l, h⟩ := h
  exact ⟨l, h.b.below hb h1, h.c.below hb h2, h.ll, h.web, h.root, h.ne⟩
end Go.Proofs.YtelcofkjpkdjiaaGreat
/-
  forest.Parts: no faces: the vertices put to no parts. (Printed by partsgen.py.) Written by an AI agent.
-/
namespace Go.Proofs.YtelcofkjpkdjiaaGreat
open Go.RowKit Go.Maps

end Go.Proofs.YtelcofkjpkdjiaaGreat
/-
  forest.Parts: the faces put to their parts. (Printed by partsgen.py.) Written by an AI agent.
-/
namespace Go.Proofs.YtelcofkjpkdjiaaGreat
open Go.RowKit Go.Maps

end Go.Proofs.YtelcofkjpkdjiaaGreat
