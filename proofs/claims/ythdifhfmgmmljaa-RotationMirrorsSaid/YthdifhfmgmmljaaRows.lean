/-
  No cell of these rows narrows 'for every input' (looked for: loops, veiled, ifaces, maps, wideKeys, modest, calm, conditions, laid).
  DERIVED. THE GIVEN ROWS OF THIS SEAT. 7 by the template 'for every input the law returns true; each argument reads behind the call as it read before'; 0 by the template 'total and deterministic' (their statements: YthdifhfmgmmljaaTotals.lean).
  GIVEN WITH THE SEED: the statements are not yours to turn. If you find one false, say at which input.
  Laid BY PROGRAM, IN A SANDBOX (cutbox-rows.mjs): the forced cells as the released guide's own fill.sh prints them over the translation f2568656226e11f2… (all of the seat's roots in one cut). By AI agents, Wed Nov 11 2026. No macro, syntax, notation, axiom, sorry.
-/
import Derived.Test.YthdifhfmgmmljaaChecked
import GoSem.Claim
import GoSem.ClaimJoined
import GoSem.ClaimMapViews
import Derived.JoinedTies
import Derived.KernelRfl
namespace Go.Proofs.Ythdifhfmgmmljaa
/- THE CELL 'sum', in the pinned program and in every row, IS THE sha256 OF THE DUMP (.gsa) THAT YthdifhfmgmmljaaProg.lean LOADS. Nothing in Lean hashes anything: it is a label: what it is worth is what the hold of that sum in a sandbox is worth. -/
noncomputable def Try.pinned : Pinned := { name := "ythdifhfmgmmljaa", sum := "f2568656226e11f277b8f395d9d39629fa10db0a969cc35852beb211edf54f53", checked := Try.checked }
namespace Rows
def none {H : Type} : Left H := { results := [], args := [] }

/-- 'arborlaw03.ReachGood': WHATEVER THE INPUT: true; the input reads as it did. -/
def reachGoodSpec : ChangeSpec := { name := "reachGood", fn := fun _ => fun
  | [d] => { results := [.lit (.bool true)], args := [d] }
  | _ => none }
def reachGoodRow : OpenClaim := { program := "ythdifhfmgmmljaa", sum := "f2568656226e11f277b8f395d9d39629fa10db0a969cc35852beb211edf54f53", func := "arbor/arborlaw03.ReachGood", spec := "reachGood", unfollowed := true, recurses := true, apart := false }
def ReachGoodSaid : Prop := reachGoodRow.holds Try.pinned (OpenSpec.ofChange reachGoodSpec)

/-- ITS FALSE NEIGHBOUR: 'it returns false'. Refute it at one input. -/
def reachGoodWrong : ChangeSpec := { name := "reachGood", fn := fun _ => fun
  | [d] => { results := [.lit (.bool false)], args := [d] }
  | _ => none }
def ReachGoodWrongFalsely : Prop := reachGoodRow.holds Try.pinned (OpenSpec.ofChange reachGoodWrong)

/-- 'arborlaw03.ReachGrows': WHATEVER THE INPUT: true; the input reads as it did. -/
def reachGrowsSpec : ChangeSpec := { name := "reachGrows", fn := fun _ => fun
  | [d1, d2, d3] => { results := [.lit (.bool true)], args := [d1, d2, d3] }
  | _ => none }
def reachGrowsRow : OpenClaim := { program := "ythdifhfmgmmljaa", sum := "f2568656226e11f277b8f395d9d39629fa10db0a969cc35852beb211edf54f53", func := "arbor/arborlaw03.ReachGrows", spec := "reachGrows", unfollowed := true, recurses := true, apart := false }
def ReachGrowsSaid : Prop := reachGrowsRow.holds Try.pinned (OpenSpec.ofChange reachGrowsSpec)

/-- ITS FALSE NEIGHBOUR: 'it returns false'. Refute it at one input. -/
def reachGrowsWrong : ChangeSpec := { name := "reachGrows", fn := fun _ => fun
  | [d1, d2, d3] => { results := [.lit (.bool false)], args := [d1, d2, d3] }
  | _ => none }
def ReachGrowsWrongFalsely : Prop := reachGrowsRow.holds Try.pinned (OpenSpec.ofChange reachGrowsWrong)

/-- 'arborlaw03.ReachTells': WHATEVER THE INPUT: true; the input reads as it did. -/
def reachTellsSpec : ChangeSpec := { name := "reachTells", fn := fun _ => fun
  | [d1, d2] => { results := [.lit (.bool true)], args := [d1, d2] }
  | _ => none }
def reachTellsRow : OpenClaim := { program := "ythdifhfmgmmljaa", sum := "f2568656226e11f277b8f395d9d39629fa10db0a969cc35852beb211edf54f53", func := "arbor/arborlaw03.ReachTells", spec := "reachTells", unfollowed := true, recurses := true, apart := false }
def ReachTellsSaid : Prop := reachTellsRow.holds Try.pinned (OpenSpec.ofChange reachTellsSpec)

/-- ITS FALSE NEIGHBOUR: 'it returns false'. Refute it at one input. -/
def reachTellsWrong : ChangeSpec := { name := "reachTells", fn := fun _ => fun
  | [d1, d2] => { results := [.lit (.bool false)], args := [d1, d2] }
  | _ => none }
def ReachTellsWrongFalsely : Prop := reachTellsRow.holds Try.pinned (OpenSpec.ofChange reachTellsWrong)

/-- 'arborlaw05.RotationSame': WHATEVER THE INPUT: true; the input reads as it did. -/
def rotationSameSpec : ChangeSpec := { name := "rotationSame", fn := fun _ => fun
  | [d1, d2] => { results := [.lit (.bool true)], args := [d1, d2] }
  | _ => none }
def rotationSameRow : OpenClaim := { program := "ythdifhfmgmmljaa", sum := "f2568656226e11f277b8f395d9d39629fa10db0a969cc35852beb211edf54f53", func := "arbor/arborlaw05.RotationSame", spec := "rotationSame", unfollowed := true, recurses := true, apart := false }
def RotationSameSaid : Prop := rotationSameRow.holds Try.pinned (OpenSpec.ofChange rotationSameSpec)

/-- ITS FALSE NEIGHBOUR: 'it returns false'. Refute it at one input. -/
def rotationSameWrong : ChangeSpec := { name := "rotationSame", fn := fun _ => fun
  | [d1, d2] => { results := [.lit (.bool false)], args := [d1, d2] }
  | _ => none }
def RotationSameWrongFalsely : Prop := rotationSameRow.holds Try.pinned (OpenSpec.ofChange rotationSameWrong)

/-- 'arborlaw05.RotationTells': WHATEVER THE INPUT: true; the input reads as it did. -/
def rotationTellsSpec : ChangeSpec := { name := "rotationTells", fn := fun _ => fun
  | [d1, d2] => { results := [.lit (.bool true)], args := [d1, d2] }
  | _ => none }
def rotationTellsRow : OpenClaim := { program := "ythdifhfmgmmljaa", sum := "f2568656226e11f277b8f395d9d39629fa10db0a969cc35852beb211edf54f53", func := "arbor/arborlaw05.RotationTells", spec := "rotationTells", unfollowed := true, recurses := true, apart := false }
def RotationTellsSaid : Prop := rotationTellsRow.holds Try.pinned (OpenSpec.ofChange rotationTellsSpec)

/-- ITS FALSE NEIGHBOUR: 'it returns false'. Refute it at one input. -/
def rotationTellsWrong : ChangeSpec := { name := "rotationTells", fn := fun _ => fun
  | [d1, d2] => { results := [.lit (.bool false)], args := [d1, d2] }
  | _ => none }
def RotationTellsWrongFalsely : Prop := rotationTellsRow.holds Try.pinned (OpenSpec.ofChange rotationTellsWrong)

/-- 'arborlaw05.RotationSwaps': WHATEVER THE INPUT: true; the input reads as it did. -/
def rotationSwapsSpec : ChangeSpec := { name := "rotationSwaps", fn := fun _ => fun
  | [d1, d2, d3, d4] => { results := [.lit (.bool true)], args := [d1, d2, d3, d4] }
  | _ => none }
def rotationSwapsRow : OpenClaim := { program := "ythdifhfmgmmljaa", sum := "f2568656226e11f277b8f395d9d39629fa10db0a969cc35852beb211edf54f53", func := "arbor/arborlaw05.RotationSwaps", spec := "rotationSwaps", unfollowed := true, recurses := true, apart := false }
def RotationSwapsSaid : Prop := rotationSwapsRow.holds Try.pinned (OpenSpec.ofChange rotationSwapsSpec)

/-- ITS FALSE NEIGHBOUR: 'it returns false'. Refute it at one input. -/
def rotationSwapsWrong : ChangeSpec := { name := "rotationSwaps", fn := fun _ => fun
  | [d1, d2, d3, d4] => { results := [.lit (.bool false)], args := [d1, d2, d3, d4] }
  | _ => none }
def RotationSwapsWrongFalsely : Prop := rotationSwapsRow.holds Try.pinned (OpenSpec.ofChange rotationSwapsWrong)

/-- 'arborlaw05.RotationMirrors': WHATEVER THE INPUT: true; the input reads as it did. -/
def rotationMirrorsSpec : ChangeSpec := { name := "rotationMirrors", fn := fun _ => fun
  | [d1, d2, d3] => { results := [.lit (.bool true)], args := [d1, d2, d3] }
  | _ => none }
def rotationMirrorsRow : OpenClaim := { program := "ythdifhfmgmmljaa", sum := "f2568656226e11f277b8f395d9d39629fa10db0a969cc35852beb211edf54f53", func := "arbor/arborlaw05.RotationMirrors", spec := "rotationMirrors", unfollowed := true, recurses := true, apart := false }
def RotationMirrorsSaid : Prop := rotationMirrorsRow.holds Try.pinned (OpenSpec.ofChange rotationMirrorsSpec)

/-- ITS FALSE NEIGHBOUR: 'it returns false'. Refute it at one input. -/
def rotationMirrorsWrong : ChangeSpec := { name := "rotationMirrors", fn := fun _ => fun
  | [d1, d2, d3] => { results := [.lit (.bool false)], args := [d1, d2, d3] }
  | _ => none }
def RotationMirrorsWrongFalsely : Prop := rotationMirrorsRow.holds Try.pinned (OpenSpec.ofChange rotationMirrorsWrong)

/- THE SECOND FORM. 'bulk': how many values and letters a reading holds, each counted each time it is reached (what is shared counts as often as it is met; a slice's spare places count too). A statement '..UptoSaid' is the law's where the arguments, and the package variables that the reading takes, are together of bulk at most 1048576: NARROWER than '..Said'. Prove '..Said' where nothing that the law and all that it calls make is longer than what came in: it says more and counts as full. Else prove '..UptoSaid'. A law counts once. -/
mutual
def uptoBulk {H : Type} : DataW H → Nat
  | .lit (.string bytes) => bytes.length + 1
  | .lit _ => 1
  | .nil => 1
  | .ptr d => uptoBulk d + 1
  | .slice elems spare => uptoBulkAll elems + uptoBulkAll spare + 1
  | .agg parts => uptoBulkAll parts + 1
  | .iface _ d => uptoBulk d + 1
  | .map entries => uptoBulkEntries entries + 1
  | .held _ => 1
def uptoBulkAll {H : Type} : List (DataW H) → Nat
  | [] => 0
  | d :: r => uptoBulk d + uptoBulkAll r
def uptoBulkEntries {H : Type} : List (Lit × DataW H) → Nat
  | [] => 0
  | x :: r => uptoBulkEntry x + uptoBulkEntries r
def uptoBulkEntry {H : Type} : Lit × DataW H → Nat
  | (.string bytes, d) => bytes.length + uptoBulk d + 1
  | (_, d) => uptoBulk d + 1
 end
def uptoSmall : (H : Type) → List (DataW H) → Bool := fun _ ds => decide (uptoBulkAll ds ≤ 1048576)
def OpenSpec.upto (s : _root_.Go.ChangeSpec) : _root_.Go.OpenSpec := { _root_.Go.OpenSpec.ofChange s with cond := some uptoSmall }

/-- 'arborlaw03.ReachGood', WHERE WHAT IT READS IS OF BULK AT MOST 1048576: true; the input reads as it did. -/
def reachGoodUptoRow : OpenClaim := { program := "ythdifhfmgmmljaa", sum := "f2568656226e11f277b8f395d9d39629fa10db0a969cc35852beb211edf54f53", func := "arbor/arborlaw03.ReachGood", spec := "reachGood", unfollowed := true, recurses := true, apart := false, narrowed := true }
def ReachGoodUptoSaid : Prop := reachGoodUptoRow.holds Try.pinned (OpenSpec.upto reachGoodSpec)

/-- 'arborlaw03.ReachGrows', WHERE WHAT IT READS IS OF BULK AT MOST 1048576: true; the input reads as it did. -/
def reachGrowsUptoRow : OpenClaim := { program := "ythdifhfmgmmljaa", sum := "f2568656226e11f277b8f395d9d39629fa10db0a969cc35852beb211edf54f53", func := "arbor/arborlaw03.ReachGrows", spec := "reachGrows", unfollowed := true, recurses := true, apart := false, narrowed := true }
def ReachGrowsUptoSaid : Prop := reachGrowsUptoRow.holds Try.pinned (OpenSpec.upto reachGrowsSpec)

/-- 'arborlaw03.ReachTells', WHERE WHAT IT READS IS OF BULK AT MOST 1048576: true; the input reads as it did. -/
def reachTellsUptoRow : OpenClaim := { program := "ythdifhfmgmmljaa", sum := "f2568656226e11f277b8f395d9d39629fa10db0a969cc35852beb211edf54f53", func := "arbor/arborlaw03.ReachTells", spec := "reachTells", unfollowed := true, recurses := true, apart := false, narrowed := true }
def ReachTellsUptoSaid : Prop := reachTellsUptoRow.holds Try.pinned (OpenSpec.upto reachTellsSpec)

/-- 'arborlaw05.RotationSame', WHERE WHAT IT READS IS OF BULK AT MOST 1048576: true; the input reads as it did. -/
def rotationSameUptoRow : OpenClaim := { program := "ythdifhfmgmmljaa", sum := "f2568656226e11f277b8f395d9d39629fa10db0a969cc35852beb211edf54f53", func := "arbor/arborlaw05.RotationSame", spec := "rotationSame", unfollowed := true, recurses := true, apart := false, narrowed := true }
def RotationSameUptoSaid : Prop := rotationSameUptoRow.holds Try.pinned (OpenSpec.upto rotationSameSpec)

/-- 'arborlaw05.RotationTells', WHERE WHAT IT READS IS OF BULK AT MOST 1048576: true; the input reads as it did. -/
def rotationTellsUptoRow : OpenClaim := { program := "ythdifhfmgmmljaa", sum := "f2568656226e11f277b8f395d9d39629fa10db0a969cc35852beb211edf54f53", func := "arbor/arborlaw05.RotationTells", spec := "rotationTells", unfollowed := true, recurses := true, apart := false, narrowed := true }
def RotationTellsUptoSaid : Prop := rotationTellsUptoRow.holds Try.pinned (OpenSpec.upto rotationTellsSpec)

/-- 'arborlaw05.RotationSwaps', WHERE WHAT IT READS IS OF BULK AT MOST 1048576: true; the input reads as it did. -/
def rotationSwapsUptoRow : OpenClaim := { program := "ythdifhfmgmmljaa", sum := "f2568656226e11f277b8f395d9d39629fa10db0a969cc35852beb211edf54f53", func := "arbor/arborlaw05.RotationSwaps", spec := "rotationSwaps", unfollowed := true, recurses := true, apart := false, narrowed := true }
def RotationSwapsUptoSaid : Prop := rotationSwapsUptoRow.holds Try.pinned (OpenSpec.upto rotationSwapsSpec)

/-- 'arborlaw05.RotationMirrors', WHERE WHAT IT READS IS OF BULK AT MOST 1048576: true; the input reads as it did. -/
def rotationMirrorsUptoRow : OpenClaim := { program := "ythdifhfmgmmljaa", sum := "f2568656226e11f277b8f395d9d39629fa10db0a969cc35852beb211edf54f53", func := "arbor/arborlaw05.RotationMirrors", spec := "rotationMirrors", unfollowed := true, recurses := true, apart := false, narrowed := true }
def RotationMirrorsUptoSaid : Prop := rotationMirrorsUptoRow.holds Try.pinned (OpenSpec.upto rotationMirrorsSpec)

end Rows
end Go.Proofs.Ythdifhfmgmmljaa
