import Derived.Test.YtneeknlhlkpnpaaGreatZWeb
import Derived.Laws.OwnMore
import Derived.Maps.OwnOps
import Derived.Maps.OwnSet
import Derived.Maps.Views
/-
 The parts in memory: two rows and a number each. Written by an AI agent.
-/
namespace Go.Proofs.YtneeknlhlkpnpaaGreat
open Go.RowKit
section
variable {m : Nat} {rv : Nat → Value} {an : Nat → Nat}
end
theorem own_but {w w' : World} {base size n : Nat} {e : TypeId} {v : Value} {xs : List Value} {S : List Nat} (h : w.ownsRow base e size v n xs) (hb : But S w w') (hS : ∀ g ∈ S, g < base) : w'.ownsRow base e size v n xs := by
 obtain ⟨h1, h2⟩ := h
 refine ⟨h1, ?_⟩
 rcases h2 with h2 | ⟨g, cap, cur, hv, hg, hh, r⟩
 ·exact .inl h2
 ·refine .inr ⟨g, cap, cur, hv, hg, ?_, r⟩
  rw [hb.block g (by rcases Nat.lt_or_ge g w.heap.size with h | h; exact h; rw [Array.getElem?_eq_none h] at hh; cases hh) (fun hm => by have := hS g hm; omega)]
  exact hh
section
variable {w w' : World} {B m : Nat} {v : Value} {rl : Nat → List Int} {an : Nat → Nat} {rv : Nat → Value}
end
section
variable {w w' : World} {B m g cap : Nat} {v' : Value} {rl : Nat → List Int} {an : Nat → Nat} {rv : Nat → Value}
end
end Go.Proofs.YtneeknlhlkpnpaaGreat
namespace Go.Proofs.YtneeknlhlkpnpaaGreat
open Go.RowKit Go.Maps
def pos (ro : Nat → Nat) (c : Nat) : Nat := (leads ro c).length
section
variable {ro : Nat → Nat}
end
section
variable {ro : Nat → Nat}
end
end Go.Proofs.YtneeknlhlkpnpaaGreat
