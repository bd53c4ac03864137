import Derived.Test.YtelcofkjpkdjiaaGreatZFit2
/-
  The rooms are small. Written by an AI agent.
-/
namespace Go.Proofs.YtelcofkjpkdjiaaGreat
open Go.RowKit

theorem room_small2 (n : Int) (es : List (Int × Int)) (rs : List (List Int)) (f0 : Nat) (hl : es.length ≤ 1000) : Small (roomE n es rs f0) := by
  intro x hx
  have := roomT_le hx
  omega
end Go.Proofs.YtelcofkjpkdjiaaGreat
