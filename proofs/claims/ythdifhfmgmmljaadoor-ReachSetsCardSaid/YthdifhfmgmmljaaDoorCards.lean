/-
  DERIVED. GIVEN WITH THE SEED: THE CARDS: each row of YthdifhfmgmmljaaDoorRows.lean that lists a variable, with what it lists TIED to the program's text (the seventh form; the later family's looks); each row that meets fmt, with fmt's text TOLD by the authors' own Lean function (tested against real Go, not proved from fmt's source: count such statements apart). THE CARD IS WHAT COUNTS. Prove the row's statement (the work); the ties are given (YthdifhfmgmmljaaDoorTie.lean); close each card by the builder's one call (the guide's Derived/Test/ToyasCard.lean, 'card_holds'). Laid BY PROGRAM, IN A SANDBOX (cutbox-door.mjs). By AI agents, Wed Nov 11 2026. No macro, syntax, notation, axiom, sorry.
-/
import Derived.Test.YthdifhfmgmmljaaDoorRows
import GoSem.ClaimSeven
namespace Go.Proofs.YthdifhfmgmmljaaDoor
namespace Rows

/-- THE TIED CARD OF 'arborlaw03.ReachSets'. -/
def reachSetsCard : Claim7 := { stood := { row := reachSetsRow, standIns := [], harness := (true, "c7e695735aa6181059fbd7ba2ec51a27c3693f3b23ab0fd3dc2053537124d833"), looks := false }, kinds := [], alts := [], laidByText := true, laidKinds := [.data], laidTests := true, laidLooks := .later }
def ReachSetsCardSaid : Prop := Claim7.holds Tryd.pinned (.plain (OpenSpec.ofChange reachSetsSpec)) reachSetsCard

/-- THE SECOND FORM's CARD OF 'arborlaw03.ReachSets'. -/
def reachSetsUptoCard : Claim7 := { stood := { row := reachSetsUptoRow, standIns := [], harness := (true, "c7e695735aa6181059fbd7ba2ec51a27c3693f3b23ab0fd3dc2053537124d833"), looks := false }, kinds := [], alts := [], laidByText := true, laidKinds := [.data], laidTests := true, laidLooks := .later }
def ReachSetsUptoCardSaid : Prop := Claim7.holds Tryd.pinned (.plain (OpenSpec.upto reachSetsSpec)) reachSetsUptoCard
end Rows
end Go.Proofs.YthdifhfmgmmljaaDoor
