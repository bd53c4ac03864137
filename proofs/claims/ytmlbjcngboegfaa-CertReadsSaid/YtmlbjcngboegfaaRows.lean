/-
  No cell of these rows narrows 'for every input' (looked for: loops, veiled, ifaces, maps, wideKeys, modest, calm, conditions, laid).
  DERIVED. THE GIVEN ROWS OF THIS SEAT. 4 by the template 'for every input the law returns true; each argument reads behind the call as it read before'; 0 by the template 'total and deterministic' (their statements: YtmlbjcngboegfaaTotals.lean).
  GIVEN WITH THE SEED: the statements are not yours to turn. If you find one false, say at which input.
  Laid BY PROGRAM, IN A SANDBOX (cutbox-rows.mjs): the forced cells as the released guide's own fill.sh prints them over the translation ab708231b55a428f… (all of the seat's roots in one cut). By AI agents, Wed Nov 11 2026. No macro, syntax, notation, axiom, sorry.
-/
import Derived.Test.YtmlbjcngboegfaaChecked
import GoSem.Claim
import GoSem.ClaimJoined
import GoSem.ClaimMapViews
import Derived.JoinedTies
import Derived.KernelRfl
namespace Go.Proofs.Ytmlbjcngboegfaa
/- THE CELL 'sum', in the pinned program and in every row, IS THE sha256 OF THE DUMP (.gsa) THAT YtmlbjcngboegfaaProg.lean LOADS. Nothing in Lean hashes anything: it is a label: what it is worth is what the hold of that sum in a sandbox is worth. -/
noncomputable def Try.pinned : Pinned := { name := "ytmlbjcngboegfaa", sum := "ab708231b55a428f4b1248d75ca42d84af8a8f0675f66b4de216e2a76c98c235", checked := Try.checked }
namespace Rows
def none {H : Type} : Left H := { results := [], args := [] }

/-- 'arborlaw25.CertBytes': WHATEVER THE INPUT: true; the input reads as it did. -/
def certBytesSpec : ChangeSpec := { name := "certBytes", fn := fun _ => fun
  | [d] => { results := [.lit (.bool true)], args := [d] }
  | _ => none }
def certBytesRow : OpenClaim := { program := "ytmlbjcngboegfaa", sum := "ab708231b55a428f4b1248d75ca42d84af8a8f0675f66b4de216e2a76c98c235", func := "arbor/arborlaw25.CertBytes", spec := "certBytes", unfollowed := true, recurses := true, apart := false }
def CertBytesSaid : Prop := certBytesRow.holds Try.pinned (OpenSpec.ofChange certBytesSpec)

/-- ITS FALSE NEIGHBOUR: 'it returns false'. Refute it at one input. -/
def certBytesWrong : ChangeSpec := { name := "certBytes", fn := fun _ => fun
  | [d] => { results := [.lit (.bool false)], args := [d] }
  | _ => none }
def CertBytesWrongFalsely : Prop := certBytesRow.holds Try.pinned (OpenSpec.ofChange certBytesWrong)

/-- 'arborlaw25.CertReads': WHATEVER THE INPUT: true; the input reads as it did. -/
def certReadsSpec : ChangeSpec := { name := "certReads", fn := fun _ => fun
  | [d] => { results := [.lit (.bool true)], args := [d] }
  | _ => none }
def certReadsRow : OpenClaim := { program := "ytmlbjcngboegfaa", sum := "ab708231b55a428f4b1248d75ca42d84af8a8f0675f66b4de216e2a76c98c235", func := "arbor/arborlaw25.CertReads", spec := "certReads", unfollowed := true, recurses := true, apart := false }
def CertReadsSaid : Prop := certReadsRow.holds Try.pinned (OpenSpec.ofChange certReadsSpec)

/-- ITS FALSE NEIGHBOUR: 'it returns false'. Refute it at one input. -/
def certReadsWrong : ChangeSpec := { name := "certReads", fn := fun _ => fun
  | [d] => { results := [.lit (.bool false)], args := [d] }
  | _ => none }
def CertReadsWrongFalsely : Prop := certReadsRow.holds Try.pinned (OpenSpec.ofChange certReadsWrong)

/-- 'arborlaw25.CertCuts': WHATEVER THE INPUT: true; the input reads as it did. -/
def certCutsSpec : ChangeSpec := { name := "certCuts", fn := fun _ => fun
  | [d1, d2, d3] => { results := [.lit (.bool true)], args := [d1, d2, d3] }
  | _ => none }
def certCutsRow : OpenClaim := { program := "ytmlbjcngboegfaa", sum := "ab708231b55a428f4b1248d75ca42d84af8a8f0675f66b4de216e2a76c98c235", func := "arbor/arborlaw25.CertCuts", spec := "certCuts", unfollowed := true, recurses := true, apart := false }
def CertCutsSaid : Prop := certCutsRow.holds Try.pinned (OpenSpec.ofChange certCutsSpec)

/-- ITS FALSE NEIGHBOUR: 'it returns false'. Refute it at one input. -/
def certCutsWrong : ChangeSpec := { name := "certCuts", fn := fun _ => fun
  | [d1, d2, d3] => { results := [.lit (.bool false)], args := [d1, d2, d3] }
  | _ => none }
def CertCutsWrongFalsely : Prop := certCutsRow.holds Try.pinned (OpenSpec.ofChange certCutsWrong)

/-- 'arborlaw25.CertUnlike': WHATEVER THE INPUT: true; the input reads as it did. -/
def certUnlikeSpec : ChangeSpec := { name := "certUnlike", fn := fun _ => fun
  | [d1, d2] => { results := [.lit (.bool true)], args := [d1, d2] }
  | _ => none }
def certUnlikeRow : OpenClaim := { program := "ytmlbjcngboegfaa", sum := "ab708231b55a428f4b1248d75ca42d84af8a8f0675f66b4de216e2a76c98c235", func := "arbor/arborlaw25.CertUnlike", spec := "certUnlike", unfollowed := true, recurses := true, apart := false }
def CertUnlikeSaid : Prop := certUnlikeRow.holds Try.pinned (OpenSpec.ofChange certUnlikeSpec)

/-- ITS FALSE NEIGHBOUR: 'it returns false'. Refute it at one input. -/
def certUnlikeWrong : ChangeSpec := { name := "certUnlike", fn := fun _ => fun
  | [d1, d2] => { results := [.lit (.bool false)], args := [d1, d2] }
  | _ => none }
def CertUnlikeWrongFalsely : Prop := certUnlikeRow.holds Try.pinned (OpenSpec.ofChange certUnlikeWrong)

/- THE SECOND FORM. 'bulk': how many values and letters a reading holds, each counted each time it is reached (what is shared counts as often as it is met; a slice's spare places count too). A statement '..UptoSaid' is the law's where the arguments, and the package variables that the reading takes, are together of bulk at most 1048576: NARROWER than '..Said'. Prove '..Said' where nothing that the law and all that it calls make is longer than what came in: it says more and counts as full. Else prove '..UptoSaid'. A law counts once. -/
mutual
def uptoBulk {H : Type} : DataW H → Nat
  | .lit (.string bytes) => bytes.length + 1
  | .lit _ => 1
  | .nil => 1
  | .ptr d => uptoBulk d + 1
  | .slice elems spare => uptoBulkAll elems + uptoBulkAll spare + 1
  | .agg parts => uptoBulkAll parts + 1
  | .iface _ d => uptoBulk d + 1
  | .map entries => uptoBulkEntries entries + 1
  | .held _ => 1
def uptoBulkAll {H : Type} : List (DataW H) → Nat
  | [] => 0
  | d :: r => uptoBulk d + uptoBulkAll r
def uptoBulkEntries {H : Type} : List (Lit × DataW H) → Nat
  | [] => 0
  | x :: r => uptoBulkEntry x + uptoBulkEntries r
def uptoBulkEntry {H : Type} : Lit × DataW H → Nat
  | (.string bytes, d) => bytes.length + uptoBulk d + 1
  | (_, d) => uptoBulk d + 1
 end
def uptoSmall : (H : Type) → List (DataW H) → Bool := fun _ ds => decide (uptoBulkAll ds ≤ 1048576)
def OpenSpec.upto (s : _root_.Go.ChangeSpec) : _root_.Go.OpenSpec := { _root_.Go.OpenSpec.ofChange s with cond := some uptoSmall }

/-- 'arborlaw25.CertBytes', WHERE WHAT IT READS IS OF BULK AT MOST 1048576: true; the input reads as it did. -/
def certBytesUptoRow : OpenClaim := { program := "ytmlbjcngboegfaa", sum := "ab708231b55a428f4b1248d75ca42d84af8a8f0675f66b4de216e2a76c98c235", func := "arbor/arborlaw25.CertBytes", spec := "certBytes", unfollowed := true, recurses := true, apart := false, narrowed := true }
def CertBytesUptoSaid : Prop := certBytesUptoRow.holds Try.pinned (OpenSpec.upto certBytesSpec)

/-- 'arborlaw25.CertReads', WHERE WHAT IT READS IS OF BULK AT MOST 1048576: true; the input reads as it did. -/
def certReadsUptoRow : OpenClaim := { program := "ytmlbjcngboegfaa", sum := "ab708231b55a428f4b1248d75ca42d84af8a8f0675f66b4de216e2a76c98c235", func := "arbor/arborlaw25.CertReads", spec := "certReads", unfollowed := true, recurses := true, apart := false, narrowed := true }
def CertReadsUptoSaid : Prop := certReadsUptoRow.holds Try.pinned (OpenSpec.upto certReadsSpec)

/-- 'arborlaw25.CertCuts', WHERE WHAT IT READS IS OF BULK AT MOST 1048576: true; the input reads as it did. -/
def certCutsUptoRow : OpenClaim := { program := "ytmlbjcngboegfaa", sum := "ab708231b55a428f4b1248d75ca42d84af8a8f0675f66b4de216e2a76c98c235", func := "arbor/arborlaw25.CertCuts", spec := "certCuts", unfollowed := true, recurses := true, apart := false, narrowed := true }
def CertCutsUptoSaid : Prop := certCutsUptoRow.holds Try.pinned (OpenSpec.upto certCutsSpec)

/-- 'arborlaw25.CertUnlike', WHERE WHAT IT READS IS OF BULK AT MOST 1048576: true; the input reads as it did. -/
def certUnlikeUptoRow : OpenClaim := { program := "ytmlbjcngboegfaa", sum := "ab708231b55a428f4b1248d75ca42d84af8a8f0675f66b4de216e2a76c98c235", func := "arbor/arborlaw25.CertUnlike", spec := "certUnlike", unfollowed := true, recurses := true, apart := false, narrowed := true }
def CertUnlikeUptoSaid : Prop := certUnlikeUptoRow.holds Try.pinned (OpenSpec.upto certUnlikeSpec)

end Rows
end Go.Proofs.Ytmlbjcngboegfaa
