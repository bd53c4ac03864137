/-
  No cell of these rows narrows 'for every input' (looked for: loops, veiled, ifaces, maps, wideKeys, modest, calm, conditions, laid).
  DERIVED. THE GIVEN ROWS OF THIS SEAT. 4 by the template 'for every input the law returns true; each argument reads behind the call as it read before'; 0 by the template 'total and deterministic' (their statements: YtneeknlhlkpnpaaGreatTotals.lean).
  GIVEN WITH THE SEED: the statements are not yours to turn. If you find one false, say at which input.
  Laid BY PROGRAM, IN A SANDBOX (cutbox-rows.mjs): the forced cells as the released guide's own fill.sh prints them over the translation bb5d797d837f842c… (all of the seat's roots in one cut). By AI agents, Wed Nov 11 2026. No macro, syntax, notation, axiom, sorry.
-/
import Derived.Test.YtneeknlhlkpnpaaGreatChecked
import GoSem.Claim
import GoSem.ClaimJoined
import GoSem.ClaimMapViews
import Derived.JoinedTies
import Derived.KernelRfl
namespace Go.Proofs.YtneeknlhlkpnpaaGreat
/- THE CELL 'sum', in the pinned program and in every row, IS THE sha256 OF THE DUMP (.gsa) THAT YtneeknlhlkpnpaaGreatProg.lean LOADS. Nothing in Lean hashes anything: it is a label: what it is worth is what the hold of that sum in a sandbox is worth. -/
noncomputable def Tryz.pinned : Pinned := { name := "ytneeknlhlkpnpaagreat", sum := "bb5d797d837f842c061ca164d85ba78db339744f68fb4406d0caf7582818578f", checked := Tryz.checked }
namespace Rows
def none {H : Type} : Left H := { results := [], args := [] }

/-- 'arborlaw12.ForestShifts': WHATEVER THE INPUT: true; the input reads as it did. -/
def forestShiftsSpec : ChangeSpec := { name := "forestShifts", fn := fun _ => fun
  | [d1, d2, d3] => { results := [.lit (.bool true)], args := [d1, d2, d3] }
  | _ => none }
def forestShiftsRow : OpenClaim := { program := "ytneeknlhlkpnpaagreat", sum := "bb5d797d837f842c061ca164d85ba78db339744f68fb4406d0caf7582818578f", func := "arbor/arborlaw12.ForestShifts", spec := "forestShifts", unfollowed := true, recurses := true, apart := false }
def ForestShiftsSaid : Prop := forestShiftsRow.holds Tryz.pinned (OpenSpec.ofChange forestShiftsSpec)

/-- ITS FALSE NEIGHBOUR: 'it returns false'. Refute it at one input. -/
def forestShiftsWrong : ChangeSpec := { name := "forestShifts", fn := fun _ => fun
  | [d1, d2, d3] => { results := [.lit (.bool false)], args := [d1, d2, d3] }
  | _ => none }
def ForestShiftsWrongFalsely : Prop := forestShiftsRow.holds Tryz.pinned (OpenSpec.ofChange forestShiftsWrong)

/-- 'arborlaw11.RiseFlat': WHATEVER THE INPUT: true; the input reads as it did. -/
def riseFlatSpec : ChangeSpec := { name := "riseFlat", fn := fun _ => fun
  | [d1, d2] => { results := [.lit (.bool true)], args := [d1, d2] }
  | _ => none }
def riseFlatRow : OpenClaim := { program := "ytneeknlhlkpnpaagreat", sum := "bb5d797d837f842c061ca164d85ba78db339744f68fb4406d0caf7582818578f", func := "arbor/arborlaw11.RiseFlat", spec := "riseFlat", unfollowed := true, recurses := true, apart := false }
def RiseFlatSaid : Prop := riseFlatRow.holds Tryz.pinned (OpenSpec.ofChange riseFlatSpec)

/-- ITS FALSE NEIGHBOUR: 'it returns false'. Refute it at one input. -/
def riseFlatWrong : ChangeSpec := { name := "riseFlat", fn := fun _ => fun
  | [d1, d2] => { results := [.lit (.bool false)], args := [d1, d2] }
  | _ => none }
def RiseFlatWrongFalsely : Prop := riseFlatRow.holds Tryz.pinned (OpenSpec.ofChange riseFlatWrong)

/-- 'arborlaw11.RiseBack': WHATEVER THE INPUT: true; the input reads as it did. -/
def riseBackSpec : ChangeSpec := { name := "riseBack", fn := fun _ => fun
  | [d1, d2] => { results := [.lit (.bool true)], args := [d1, d2] }
  | _ => none }
def riseBackRow : OpenClaim := { program := "ytneeknlhlkpnpaagreat", sum := "bb5d797d837f842c061ca164d85ba78db339744f68fb4406d0caf7582818578f", func := "arbor/arborlaw11.RiseBack", spec := "riseBack", unfollowed := true, recurses := true, apart := false }
def RiseBackSaid : Prop := riseBackRow.holds Tryz.pinned (OpenSpec.ofChange riseBackSpec)

/-- ITS FALSE NEIGHBOUR: 'it returns false'. Refute it at one input. -/
def riseBackWrong : ChangeSpec := { name := "riseBack", fn := fun _ => fun
  | [d1, d2] => { results := [.lit (.bool false)], args := [d1, d2] }
  | _ => none }
def RiseBackWrongFalsely : Prop := riseBackRow.holds Tryz.pinned (OpenSpec.ofChange riseBackWrong)

/-- 'arborlaw11.RiseTells': WHATEVER THE INPUT: true; the input reads as it did. -/
def riseTellsSpec : ChangeSpec := { name := "riseTells", fn := fun _ => fun
  | [d1, d2, d3] => { results := [.lit (.bool true)], args := [d1, d2, d3] }
  | _ => none }
def riseTellsRow : OpenClaim := { program := "ytneeknlhlkpnpaagreat", sum := "bb5d797d837f842c061ca164d85ba78db339744f68fb4406d0caf7582818578f", func := "arbor/arborlaw11.RiseTells", spec := "riseTells", unfollowed := true, recurses := true, apart := false }
def RiseTellsSaid : Prop := riseTellsRow.holds Tryz.pinned (OpenSpec.ofChange riseTellsSpec)

/-- ITS FALSE NEIGHBOUR: 'it returns false'. Refute it at one input. -/
def riseTellsWrong : ChangeSpec := { name := "riseTells", fn := fun _ => fun
  | [d1, d2, d3] => { results := [.lit (.bool false)], args := [d1, d2, d3] }
  | _ => none }
def RiseTellsWrongFalsely : Prop := riseTellsRow.holds Tryz.pinned (OpenSpec.ofChange riseTellsWrong)

/- THE SECOND FORM. 'bulk': how many values and letters a reading holds, each counted each time it is reached (what is shared counts as often as it is met; a slice's spare places count too). A statement '..UptoSaid' is the law's where the arguments, and the package variables that the reading takes, are together of bulk at most 1048576: NARROWER than '..Said'. Prove '..Said' where nothing that the law and all that it calls make is longer than what came in: it says more and counts as full. Else prove '..UptoSaid'. A law counts once. -/
mutual
def uptoBulk {H : Type} : DataW H → Nat
  | .lit (.string bytes) => bytes.length + 1
  | .lit _ => 1
  | .nil => 1
  | .ptr d => uptoBulk d + 1
  | .slice elems spare => uptoBulkAll elems + uptoBulkAll spare + 1
  | .agg parts => uptoBulkAll parts + 1
  | .iface _ d => uptoBulk d + 1
  | .map entries => uptoBulkEntries entries + 1
  | .held _ => 1
def uptoBulkAll {H : Type} : List (DataW H) → Nat
  | [] => 0
  | d :: r => uptoBulk d + uptoBulkAll r
def uptoBulkEntries {H : Type} : List (Lit × DataW H) → Nat
  | [] => 0
  | x :: r => uptoBulkEntry x + uptoBulkEntries r
def uptoBulkEntry {H : Type} : Lit × DataW H → Nat
  | (.string bytes, d) => bytes.length + uptoBulk d + 1
  | (_, d) => uptoBulk d + 1
 end
def uptoSmall : (H : Type) → List (DataW H) → Bool := fun _ ds => decide (uptoBulkAll ds ≤ 1048576)
def OpenSpec.upto (s : _root_.Go.ChangeSpec) : _root_.Go.OpenSpec := { _root_.Go.OpenSpec.ofChange s with cond := some uptoSmall }

/-- 'arborlaw12.ForestShifts', WHERE WHAT IT READS IS OF BULK AT MOST 1048576: true; the input reads as it did. -/
def forestShiftsUptoRow : OpenClaim := { program := "ytneeknlhlkpnpaagreat", sum := "bb5d797d837f842c061ca164d85ba78db339744f68fb4406d0caf7582818578f", func := "arbor/arborlaw12.ForestShifts", spec := "forestShifts", unfollowed := true, recurses := true, apart := false, narrowed := true }
def ForestShiftsUptoSaid : Prop := forestShiftsUptoRow.holds Tryz.pinned (OpenSpec.upto forestShiftsSpec)

/-- 'arborlaw11.RiseFlat', WHERE WHAT IT READS IS OF BULK AT MOST 1048576: true; the input reads as it did. -/
def riseFlatUptoRow : OpenClaim := { program := "ytneeknlhlkpnpaagreat", sum := "bb5d797d837f842c061ca164d85ba78db339744f68fb4406d0caf7582818578f", func := "arbor/arborlaw11.RiseFlat", spec := "riseFlat", unfollowed := true, recurses := true, apart := false, narrowed := true }
def RiseFlatUptoSaid : Prop := riseFlatUptoRow.holds Tryz.pinned (OpenSpec.upto riseFlatSpec)

/-- 'arborlaw11.RiseBack', WHERE WHAT IT READS IS OF BULK AT MOST 1048576: true; the input reads as it did. -/
def riseBackUptoRow : OpenClaim := { program := "ytneeknlhlkpnpaagreat", sum := "bb5d797d837f842c061ca164d85ba78db339744f68fb4406d0caf7582818578f", func := "arbor/arborlaw11.RiseBack", spec := "riseBack", unfollowed := true, recurses := true, apart := false, narrowed := true }
def RiseBackUptoSaid : Prop := riseBackUptoRow.holds Tryz.pinned (OpenSpec.upto riseBackSpec)

/-- 'arborlaw11.RiseTells', WHERE WHAT IT READS IS OF BULK AT MOST 1048576: true; the input reads as it did. -/
def riseTellsUptoRow : OpenClaim := { program := "ytneeknlhlkpnpaagreat", sum := "bb5d797d837f842c061ca164d85ba78db339744f68fb4406d0caf7582818578f", func := "arbor/arborlaw11.RiseTells", spec := "riseTells", unfollowed := true, recurses := true, apart := false, narrowed := true }
def RiseTellsUptoSaid : Prop := riseTellsUptoRow.holds Tryz.pinned (OpenSpec.upto riseTellsSpec)

end Rows
end Go.Proofs.YtneeknlhlkpnpaaGreat
