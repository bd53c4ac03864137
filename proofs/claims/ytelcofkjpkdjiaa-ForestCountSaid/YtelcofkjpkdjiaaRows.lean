/-
  No cell of these rows narrows 'for every input' (looked for: loops, veiled, ifaces, maps, wideKeys, modest, calm, conditions, laid).
  DERIVED. THE GIVEN ROWS OF THIS SEAT. 6 by the template 'for every input the law returns true; each argument reads behind the call as it read before'; 0 by the template 'total and deterministic' (their statements: YtelcofkjpkdjiaaTotals.lean).
  GIVEN WITH THE SEED: the statements are not yours to turn. If you find one false, say at which input.
  Laid BY PROGRAM, IN A SANDBOX (cutbox-rows.mjs): the forced cells as the released guide's own fill.sh prints them over the translation f19e269f4551a7c5… (all of the seat's roots in one cut). By AI agents, Wed Nov 11 2026. No macro, syntax, notation, axiom, sorry.
-/
import Derived.Test.YtelcofkjpkdjiaaChecked
import GoSem.Claim
import GoSem.ClaimJoined
import GoSem.ClaimMapViews
import Derived.JoinedTies
import Derived.KernelRfl
namespace Go.Proofs.Ytelcofkjpkdjiaa
/- THE CELL 'sum', in the pinned program and in every row, IS THE sha256 OF THE DUMP (.gsa) THAT YtelcofkjpkdjiaaProg.lean LOADS. Nothing in Lean hashes anything: it is a label: what it is worth is what the hold of that sum in a sandbox is worth. -/
noncomputable def Try.pinned : Pinned := { name := "ytelcofkjpkdjiaa", sum := "f19e269f4551a7c51bcc982f097b69e19aebbdda2376354a460c6d447c0e25ba", checked := Try.checked }
namespace Rows
def none {H : Type} : Left H := { results := [], args := [] }

/-- 'arborlaw06.AngleTells': WHATEVER THE INPUT: true; the input reads as it did. -/
def angleTellsSpec : ChangeSpec := { name := "angleTells", fn := fun _ => fun
  | [d1, d2] => { results := [.lit (.bool true)], args := [d1, d2] }
  | _ => none }
def angleTellsRow : OpenClaim := { program := "ytelcofkjpkdjiaa", sum := "f19e269f4551a7c51bcc982f097b69e19aebbdda2376354a460c6d447c0e25ba", func := "arbor/arborlaw06.AngleTells", spec := "angleTells", unfollowed := true, recurses := true, apart := false }
def AngleTellsSaid : Prop := angleTellsRow.holds Try.pinned (OpenSpec.ofChange angleTellsSpec)

/-- ITS FALSE NEIGHBOUR: 'it returns false'. Refute it at one input. -/
def angleTellsWrong : ChangeSpec := { name := "angleTells", fn := fun _ => fun
  | [d1, d2] => { results := [.lit (.bool false)], args := [d1, d2] }
  | _ => none }
def AngleTellsWrongFalsely : Prop := angleTellsRow.holds Try.pinned (OpenSpec.ofChange angleTellsWrong)

/-- 'arborlaw06.AngleFits': WHATEVER THE INPUT: true; the input reads as it did. -/
def angleFitsSpec : ChangeSpec := { name := "angleFits", fn := fun _ => fun
  | [d1, d2] => { results := [.lit (.bool true)], args := [d1, d2] }
  | _ => none }
def angleFitsRow : OpenClaim := { program := "ytelcofkjpkdjiaa", sum := "f19e269f4551a7c51bcc982f097b69e19aebbdda2376354a460c6d447c0e25ba", func := "arbor/arborlaw06.AngleFits", spec := "angleFits", unfollowed := true, recurses := true, apart := false }
def AngleFitsSaid : Prop := angleFitsRow.holds Try.pinned (OpenSpec.ofChange angleFitsSpec)

/-- ITS FALSE NEIGHBOUR: 'it returns false'. Refute it at one input. -/
def angleFitsWrong : ChangeSpec := { name := "angleFits", fn := fun _ => fun
  | [d1, d2] => { results := [.lit (.bool false)], args := [d1, d2] }
  | _ => none }
def AngleFitsWrongFalsely : Prop := angleFitsRow.holds Try.pinned (OpenSpec.ofChange angleFitsWrong)

/-- 'arborlaw06.AngleSwitches': WHATEVER THE INPUT: true; the input reads as it did. -/
def angleSwitchesSpec : ChangeSpec := { name := "angleSwitches", fn := fun _ => fun
  | [d1, d2] => { results := [.lit (.bool true)], args := [d1, d2] }
  | _ => none }
def angleSwitchesRow : OpenClaim := { program := "ytelcofkjpkdjiaa", sum := "f19e269f4551a7c51bcc982f097b69e19aebbdda2376354a460c6d447c0e25ba", func := "arbor/arborlaw06.AngleSwitches", spec := "angleSwitches", unfollowed := true, recurses := true, apart := false }
def AngleSwitchesSaid : Prop := angleSwitchesRow.holds Try.pinned (OpenSpec.ofChange angleSwitchesSpec)

/-- ITS FALSE NEIGHBOUR: 'it returns false'. Refute it at one input. -/
def angleSwitchesWrong : ChangeSpec := { name := "angleSwitches", fn := fun _ => fun
  | [d1, d2] => { results := [.lit (.bool false)], args := [d1, d2] }
  | _ => none }
def AngleSwitchesWrongFalsely : Prop := angleSwitchesRow.holds Try.pinned (OpenSpec.ofChange angleSwitchesWrong)

/-- 'arborlaw06.AngleMirrors': WHATEVER THE INPUT: true; the input reads as it did. -/
def angleMirrorsSpec : ChangeSpec := { name := "angleMirrors", fn := fun _ => fun
  | [d1, d2] => { results := [.lit (.bool true)], args := [d1, d2] }
  | _ => none }
def angleMirrorsRow : OpenClaim := { program := "ytelcofkjpkdjiaa", sum := "f19e269f4551a7c51bcc982f097b69e19aebbdda2376354a460c6d447c0e25ba", func := "arbor/arborlaw06.AngleMirrors", spec := "angleMirrors", unfollowed := true, recurses := true, apart := false }
def AngleMirrorsSaid : Prop := angleMirrorsRow.holds Try.pinned (OpenSpec.ofChange angleMirrorsSpec)

/-- ITS FALSE NEIGHBOUR: 'it returns false'. Refute it at one input. -/
def angleMirrorsWrong : ChangeSpec := { name := "angleMirrors", fn := fun _ => fun
  | [d1, d2] => { results := [.lit (.bool false)], args := [d1, d2] }
  | _ => none }
def AngleMirrorsWrongFalsely : Prop := angleMirrorsRow.holds Try.pinned (OpenSpec.ofChange angleMirrorsWrong)

/-- 'arborlaw12.ForestParts': WHATEVER THE INPUT: true; the input reads as it did. -/
def forestPartsSpec : ChangeSpec := { name := "forestParts", fn := fun _ => fun
  | [d1, d2] => { results := [.lit (.bool true)], args := [d1, d2] }
  | _ => none }
def forestPartsRow : OpenClaim := { program := "ytelcofkjpkdjiaa", sum := "f19e269f4551a7c51bcc982f097b69e19aebbdda2376354a460c6d447c0e25ba", func := "arbor/arborlaw12.ForestParts", spec := "forestParts", unfollowed := true, recurses := true, apart := false }
def ForestPartsSaid : Prop := forestPartsRow.holds Try.pinned (OpenSpec.ofChange forestPartsSpec)

/-- ITS FALSE NEIGHBOUR: 'it returns false'. Refute it at one input. -/
def forestPartsWrong : ChangeSpec := { name := "forestParts", fn := fun _ => fun
  | [d1, d2] => { results := [.lit (.bool false)], args := [d1, d2] }
  | _ => none }
def ForestPartsWrongFalsely : Prop := forestPartsRow.holds Try.pinned (OpenSpec.ofChange forestPartsWrong)

/-- 'arborlaw12.ForestCount': WHATEVER THE INPUT: true; the input reads as it did. -/
def forestCountSpec : ChangeSpec := { name := "forestCount", fn := fun _ => fun
  | [d1, d2] => { results := [.lit (.bool true)], args := [d1, d2] }
  | _ => none }
def forestCountRow : OpenClaim := { program := "ytelcofkjpkdjiaa", sum := "f19e269f4551a7c51bcc982f097b69e19aebbdda2376354a460c6d447c0e25ba", func := "arbor/arborlaw12.ForestCount", spec := "forestCount", unfollowed := true, recurses := true, apart := false }
def ForestCountSaid : Prop := forestCountRow.holds Try.pinned (OpenSpec.ofChange forestCountSpec)

/-- ITS FALSE NEIGHBOUR: 'it returns false'. Refute it at one input. -/
def forestCountWrong : ChangeSpec := { name := "forestCount", fn := fun _ => fun
  | [d1, d2] => { results := [.lit (.bool false)], args := [d1, d2] }
  | _ => none }
def ForestCountWrongFalsely : Prop := forestCountRow.holds Try.pinned (OpenSpec.ofChange forestCountWrong)

/- THE SECOND FORM. 'bulk': how many values and letters a reading holds, each counted each time it is reached (what is shared counts as often as it is met; a slice's spare places count too). A statement '..UptoSaid' is the law's where the arguments, and the package variables that the reading takes, are together of bulk at most 1048576: NARROWER than '..Said'. Prove '..Said' where nothing that the law and all that it calls make is longer than what came in: it says more and counts as full. Else prove '..UptoSaid'. A law counts once. -/
mutual
def uptoBulk {H : Type} : DataW H → Nat
  | .lit (.string bytes) => bytes.length + 1
  | .lit _ => 1
  | .nil => 1
  | .ptr d => uptoBulk d + 1
  | .slice elems spare => uptoBulkAll elems + uptoBulkAll spare + 1
  | .agg parts => uptoBulkAll parts + 1
  | .iface _ d => uptoBulk d + 1
  | .map entries => uptoBulkEntries entries + 1
  | .held _ => 1
def uptoBulkAll {H : Type} : List (DataW H) → Nat
  | [] => 0
  | d :: r => uptoBulk d + uptoBulkAll r
def uptoBulkEntries {H : Type} : List (Lit × DataW H) → Nat
  | [] => 0
  | x :: r => uptoBulkEntry x + uptoBulkEntries r
def uptoBulkEntry {H : Type} : Lit × DataW H → Nat
  | (.string bytes, d) => bytes.length + uptoBulk d + 1
  | (_, d) => uptoBulk d + 1
 end
def uptoSmall : (H : Type) → List (DataW H) → Bool := fun _ ds => decide (uptoBulkAll ds ≤ 1048576)
def OpenSpec.upto (s : _root_.Go.ChangeSpec) : _root_.Go.OpenSpec := { _root_.Go.OpenSpec.ofChange s with cond := some uptoSmall }

/-- 'arborlaw06.AngleTells', WHERE WHAT IT READS IS OF BULK AT MOST 1048576: true; the input reads as it did. -/
def angleTellsUptoRow : OpenClaim := { program := "ytelcofkjpkdjiaa", sum := "f19e269f4551a7c51bcc982f097b69e19aebbdda2376354a460c6d447c0e25ba", func := "arbor/arborlaw06.AngleTells", spec := "angleTells", unfollowed := true, recurses := true, apart := false, narrowed := true }
def AngleTellsUptoSaid : Prop := angleTellsUptoRow.holds Try.pinned (OpenSpec.upto angleTellsSpec)

/-- 'arborlaw06.AngleFits', WHERE WHAT IT READS IS OF BULK AT MOST 1048576: true; the input reads as it did. -/
def angleFitsUptoRow : OpenClaim := { program := "ytelcofkjpkdjiaa", sum := "f19e269f4551a7c51bcc982f097b69e19aebbdda2376354a460c6d447c0e25ba", func := "arbor/arborlaw06.AngleFits", spec := "angleFits", unfollowed := true, recurses := true, apart := false, narrowed := true }
def AngleFitsUptoSaid : Prop := angleFitsUptoRow.holds Try.pinned (OpenSpec.upto angleFitsSpec)

/-- 'arborlaw06.AngleSwitches', WHERE WHAT IT READS IS OF BULK AT MOST 1048576: true; the input reads as it did. -/
def angleSwitchesUptoRow : OpenClaim := { program := "ytelcofkjpkdjiaa", sum := "f19e269f4551a7c51bcc982f097b69e19aebbdda2376354a460c6d447c0e25ba", func := "arbor/arborlaw06.AngleSwitches", spec := "angleSwitches", unfollowed := true, recurses := true, apart := false, narrowed := true }
def AngleSwitchesUptoSaid : Prop := angleSwitchesUptoRow.holds Try.pinned (OpenSpec.upto angleSwitchesSpec)

/-- 'arborlaw06.AngleMirrors', WHERE WHAT IT READS IS OF BULK AT MOST 1048576: true; the input reads as it did. -/
def angleMirrorsUptoRow : OpenClaim := { program := "ytelcofkjpkdjiaa", sum := "f19e269f4551a7c51bcc982f097b69e19aebbdda2376354a460c6d447c0e25ba", func := "arbor/arborlaw06.AngleMirrors", spec := "angleMirrors", unfollowed := true, recurses := true, apart := false, narrowed := true }
def AngleMirrorsUptoSaid : Prop := angleMirrorsUptoRow.holds Try.pinned (OpenSpec.upto angleMirrorsSpec)

/-- 'arborlaw12.ForestParts', WHERE WHAT IT READS IS OF BULK AT MOST 1048576: true; the input reads as it did. -/
def forestPartsUptoRow : OpenClaim := { program := "ytelcofkjpkdjiaa", sum := "f19e269f4551a7c51bcc982f097b69e19aebbdda2376354a460c6d447c0e25ba", func := "arbor/arborlaw12.ForestParts", spec := "forestParts", unfollowed := true, recurses := true, apart := false, narrowed := true }
def ForestPartsUptoSaid : Prop := forestPartsUptoRow.holds Try.pinned (OpenSpec.upto forestPartsSpec)

/-- 'arborlaw12.ForestCount', WHERE WHAT IT READS IS OF BULK AT MOST 1048576: true; the input reads as it did. -/
def forestCountUptoRow : OpenClaim := { program := "ytelcofkjpkdjiaa", sum := "f19e269f4551a7c51bcc982f097b69e19aebbdda2376354a460c6d447c0e25ba", func := "arbor/arborlaw12.ForestCount", spec := "forestCount", unfollowed := true, recurses := true, apart := false, narrowed := true }
def ForestCountUptoSaid : Prop := forestCountUptoRow.holds Try.pinned (OpenSpec.upto forestCountSpec)

end Rows
end Go.Proofs.Ytelcofkjpkdjiaa
