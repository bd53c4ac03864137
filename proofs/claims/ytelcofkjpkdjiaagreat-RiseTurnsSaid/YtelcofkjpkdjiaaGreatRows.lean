/-
  No cell of these rows narrows 'for every input' (looked for: loops, veiled, ifaces, maps, wideKeys, modest, calm, conditions, laid).
  DERIVED. THE GIVEN ROWS OF THIS SEAT. 4 by the template 'for every input the law returns true; each argument reads behind the call as it read before'; 0 by the template 'total and deterministic' (their statements: YtelcofkjpkdjiaaGreatTotals.lean).
  GIVEN WITH THE SEED: the statements are not yours to turn. If you find one false, say at which input.
  Laid BY PROGRAM, IN A SANDBOX (cutbox-rows.mjs): the forced cells as the released guide's own fill.sh prints them over the translation a35f8488c7f8affd… (all of the seat's roots in one cut). By AI agents, Wed Nov 11 2026. No macro, syntax, notation, axiom, sorry.
-/
import Derived.Test.YtelcofkjpkdjiaaGreatChecked
import GoSem.Claim
import GoSem.ClaimJoined
import GoSem.ClaimMapViews
import Derived.JoinedTies
import Derived.KernelRfl
namespace Go.Proofs.YtelcofkjpkdjiaaGreat
/- THE CELL 'sum', in the pinned program and in every row, IS THE sha256 OF THE DUMP (.gsa) THAT YtelcofkjpkdjiaaGreatProg.lean LOADS. Nothing in Lean hashes anything: it is a label: what it is worth is what the hold of that sum in a sandbox is worth. -/
noncomputable def Tryz.pinned : Pinned := { name := "ytelcofkjpkdjiaagreat", sum := "a35f8488c7f8affd70a79f06300a885739d0ce7e3d81132ac0dec2c331e0d6af", checked := Tryz.checked }
namespace Rows
def none {H : Type} : Left H := { results := [], args := [] }

/-- 'arborlaw12.ForestOuters': WHATEVER THE INPUT: true; the input reads as it did. -/
def forestOutersSpec : ChangeSpec := { name := "forestOuters", fn := fun _ => fun
  | [d1, d2] => { results := [.lit (.bool true)], args := [d1, d2] }
  | _ => none }
def forestOutersRow : OpenClaim := { program := "ytelcofkjpkdjiaagreat", sum := "a35f8488c7f8affd70a79f06300a885739d0ce7e3d81132ac0dec2c331e0d6af", func := "arbor/arborlaw12.ForestOuters", spec := "forestOuters", unfollowed := true, recurses := true, apart := false }
def ForestOutersSaid : Prop := forestOutersRow.holds Tryz.pinned (OpenSpec.ofChange forestOutersSpec)

/-- ITS FALSE NEIGHBOUR: 'it returns false'. Refute it at one input. -/
def forestOutersWrong : ChangeSpec := { name := "forestOuters", fn := fun _ => fun
  | [d1, d2] => { results := [.lit (.bool false)], args := [d1, d2] }
  | _ => none }
def ForestOutersWrongFalsely : Prop := forestOutersRow.holds Tryz.pinned (OpenSpec.ofChange forestOutersWrong)

/-- 'arborlaw12.ForestLeast': WHATEVER THE INPUT: true; the input reads as it did. -/
def forestLeastSpec : ChangeSpec := { name := "forestLeast", fn := fun _ => fun
  | [d1, d2] => { results := [.lit (.bool true)], args := [d1, d2] }
  | _ => none }
def forestLeastRow : OpenClaim := { program := "ytelcofkjpkdjiaagreat", sum := "a35f8488c7f8affd70a79f06300a885739d0ce7e3d81132ac0dec2c331e0d6af", func := "arbor/arborlaw12.ForestLeast", spec := "forestLeast", unfollowed := true, recurses := true, apart := false }
def ForestLeastSaid : Prop := forestLeastRow.holds Tryz.pinned (OpenSpec.ofChange forestLeastSpec)

/-- ITS FALSE NEIGHBOUR: 'it returns false'. Refute it at one input. -/
def forestLeastWrong : ChangeSpec := { name := "forestLeast", fn := fun _ => fun
  | [d1, d2] => { results := [.lit (.bool false)], args := [d1, d2] }
  | _ => none }
def ForestLeastWrongFalsely : Prop := forestLeastRow.holds Tryz.pinned (OpenSpec.ofChange forestLeastWrong)

/-- 'arborlaw11.RiseTurns': WHATEVER THE INPUT: true; the input reads as it did. -/
def riseTurnsSpec : ChangeSpec := { name := "riseTurns", fn := fun _ => fun
  | [d1, d2] => { results := [.lit (.bool true)], args := [d1, d2] }
  | _ => none }
def riseTurnsRow : OpenClaim := { program := "ytelcofkjpkdjiaagreat", sum := "a35f8488c7f8affd70a79f06300a885739d0ce7e3d81132ac0dec2c331e0d6af", func := "arbor/arborlaw11.RiseTurns", spec := "riseTurns", unfollowed := true, recurses := true, apart := false }
def RiseTurnsSaid : Prop := riseTurnsRow.holds Tryz.pinned (OpenSpec.ofChange riseTurnsSpec)

/-- ITS FALSE NEIGHBOUR: 'it returns false'. Refute it at one input. -/
def riseTurnsWrong : ChangeSpec := { name := "riseTurns", fn := fun _ => fun
  | [d1, d2] => { results := [.lit (.bool false)], args := [d1, d2] }
  | _ => none }
def RiseTurnsWrongFalsely : Prop := riseTurnsRow.holds Tryz.pinned (OpenSpec.ofChange riseTurnsWrong)

/-- 'arborlaw11.RiseFits': WHATEVER THE INPUT: true; the input reads as it did. -/
def riseFitsSpec : ChangeSpec := { name := "riseFits", fn := fun _ => fun
  | [d1, d2, d3, d4] => { results := [.lit (.bool true)], args := [d1, d2, d3, d4] }
  | _ => none }
def riseFitsRow : OpenClaim := { program := "ytelcofkjpkdjiaagreat", sum := "a35f8488c7f8affd70a79f06300a885739d0ce7e3d81132ac0dec2c331e0d6af", func := "arbor/arborlaw11.RiseFits", spec := "riseFits", unfollowed := true, recurses := true, apart := false }
def RiseFitsSaid : Prop := riseFitsRow.holds Tryz.pinned (OpenSpec.ofChange riseFitsSpec)

/-- ITS FALSE NEIGHBOUR: 'it returns false'. Refute it at one input. -/
def riseFitsWrong : ChangeSpec := { name := "riseFits", fn := fun _ => fun
  | [d1, d2, d3, d4] => { results := [.lit (.bool false)], args := [d1, d2, d3, d4] }
  | _ => none }
def RiseFitsWrongFalsely : Prop := riseFitsRow.holds Tryz.pinned (OpenSpec.ofChange riseFitsWrong)

/- THE SECOND FORM. 'bulk': how many values and letters a reading holds, each counted each time it is reached (what is shared counts as often as it is met; a slice's spare places count too). A statement '..UptoSaid' is the law's where the arguments, and the package variables that the reading takes, are together of bulk at most 1048576: NARROWER than '..Said'. Prove '..Said' where nothing that the law and all that it calls make is longer than what came in: it says more and counts as full. Else prove '..UptoSaid'. A law counts once. -/
mutual
def uptoBulk {H : Type} : DataW H → Nat
  | .lit (.string bytes) => bytes.length + 1
  | .lit _ => 1
  | .nil => 1
  | .ptr d => uptoBulk d + 1
  | .slice elems spare => uptoBulkAll elems + uptoBulkAll spare + 1
  | .agg parts => uptoBulkAll parts + 1
  | .iface _ d => uptoBulk d + 1
  | .map entries => uptoBulkEntries entries + 1
  | .held _ => 1
def uptoBulkAll {H : Type} : List (DataW H) → Nat
  | [] => 0
  | d :: r => uptoBulk d + uptoBulkAll r
def uptoBulkEntries {H : Type} : List (Lit × DataW H) → Nat
  | [] => 0
  | x :: r => uptoBulkEntry x + uptoBulkEntries r
def uptoBulkEntry {H : Type} : Lit × DataW H → Nat
  | (.string bytes, d) => bytes.length + uptoBulk d + 1
  | (_, d) => uptoBulk d + 1
 end
def uptoSmall : (H : Type) → List (DataW H) → Bool := fun _ ds => decide (uptoBulkAll ds ≤ 1048576)
def OpenSpec.upto (s : _root_.Go.ChangeSpec) : _root_.Go.OpenSpec := { _root_.Go.OpenSpec.ofChange s with cond := some uptoSmall }

/-- 'arborlaw12.ForestOuters', WHERE WHAT IT READS IS OF BULK AT MOST 1048576: true; the input reads as it did. -/
def forestOutersUptoRow : OpenClaim := { program := "ytelcofkjpkdjiaagreat", sum := "a35f8488c7f8affd70a79f06300a885739d0ce7e3d81132ac0dec2c331e0d6af", func := "arbor/arborlaw12.ForestOuters", spec := "forestOuters", unfollowed := true, recurses := true, apart := false, narrowed := true }
def ForestOutersUptoSaid : Prop := forestOutersUptoRow.holds Tryz.pinned (OpenSpec.upto forestOutersSpec)

/-- 'arborlaw12.ForestLeast', WHERE WHAT IT READS IS OF BULK AT MOST 1048576: true; the input reads as it did. -/
def forestLeastUptoRow : OpenClaim := { program := "ytelcofkjpkdjiaagreat", sum := "a35f8488c7f8affd70a79f06300a885739d0ce7e3d81132ac0dec2c331e0d6af", func := "arbor/arborlaw12.ForestLeast", spec := "forestLeast", unfollowed := true, recurses := true, apart := false, narrowed := true }
def ForestLeastUptoSaid : Prop := forestLeastUptoRow.holds Tryz.pinned (OpenSpec.upto forestLeastSpec)

/-- 'arborlaw11.RiseTurns', WHERE WHAT IT READS IS OF BULK AT MOST 1048576: true; the input reads as it did. -/
def riseTurnsUptoRow : OpenClaim := { program := "ytelcofkjpkdjiaagreat", sum := "a35f8488c7f8affd70a79f06300a885739d0ce7e3d81132ac0dec2c331e0d6af", func := "arbor/arborlaw11.RiseTurns", spec := "riseTurns", unfollowed := true, recurses := true, apart := false, narrowed := true }
def RiseTurnsUptoSaid : Prop := riseTurnsUptoRow.holds Tryz.pinned (OpenSpec.upto riseTurnsSpec)

/-- 'arborlaw11.RiseFits', WHERE WHAT IT READS IS OF BULK AT MOST 1048576: true; the input reads as it did. -/
def riseFitsUptoRow : OpenClaim := { program := "ytelcofkjpkdjiaagreat", sum := "a35f8488c7f8affd70a79f06300a885739d0ce7e3d81132ac0dec2c331e0d6af", func := "arbor/arborlaw11.RiseFits", spec := "riseFits", unfollowed := true, recurses := true, apart := false, narrowed := true }
def RiseFitsUptoSaid : Prop := riseFitsUptoRow.holds Tryz.pinned (OpenSpec.upto riseFitsSpec)

end Rows
end Go.Proofs.YtelcofkjpkdjiaaGreat
