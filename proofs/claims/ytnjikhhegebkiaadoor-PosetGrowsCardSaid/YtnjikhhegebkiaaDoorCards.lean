/-
  DERIVED. GIVEN WITH THE SEED: THE CARDS: each row of YtnjikhhegebkiaaDoorRows.lean that lists a variable, with what it lists TIED to the program's text (the seventh form; the later family's looks); each row that meets fmt, with fmt's text TOLD by the authors' own Lean function (tested against real Go, not proved from fmt's source: count such statements apart). THE CARD IS WHAT COUNTS. Prove the row's statement (the work); the ties are given (YtnjikhhegebkiaaDoorTie.lean); close each card by the builder's one call (the guide's Derived/Test/ToyasCard.lean, 'card_holds'). Laid BY PROGRAM, IN A SANDBOX (cutbox-door.mjs). By AI agents, Wed Nov 11 2026. No macro, syntax, notation, axiom, sorry.
-/
import Derived.Test.YtnjikhhegebkiaaDoorRows
import GoSem.ClaimSeven
namespace Go.Proofs.YtnjikhhegebkiaaDoor
namespace Rows

/-- THE TIED CARD OF 'arborlaw17.PosetDilworth'. -/
def posetDilworthCard : Claim7 := { stood := { row := posetDilworthRow, standIns := [], harness := (true, "fd85f60cd3d04530cc501a1a44e17aeabca9dce94c4bc21fb29065b1a79ebaaa"), looks := false }, kinds := [], alts := [], laidByText := true, laidKinds := [.data], laidTests := true, laidLooks := .later }
def PosetDilworthCardSaid : Prop := Claim7.holds Tryd.pinned (.plain (OpenSpec.ofChange posetDilworthSpec)) posetDilworthCard

/-- THE TIED CARD OF 'arborlaw17.PosetWidth'. -/
def posetWidthCard : Claim7 := { stood := { row := posetWidthRow, standIns := [], harness := (true, "fd85f60cd3d04530cc501a1a44e17aeabca9dce94c4bc21fb29065b1a79ebaaa"), looks := false }, kinds := [], alts := [], laidByText := true, laidKinds := [.data], laidTests := true, laidLooks := .later }
def PosetWidthCardSaid : Prop := Claim7.holds Tryd.pinned (.plain (OpenSpec.ofChange posetWidthSpec)) posetWidthCard

/-- THE TIED CARD OF 'arborlaw17.PosetGrows'. -/
def posetGrowsCard : Claim7 := { stood := { row := posetGrowsRow, standIns := [], harness := (true, "fd85f60cd3d04530cc501a1a44e17aeabca9dce94c4bc21fb29065b1a79ebaaa"), looks := false }, kinds := [], alts := [], laidByText := true, laidKinds := [.data], laidTests := true, laidLooks := .later }
def PosetGrowsCardSaid : Prop := Claim7.holds Tryd.pinned (.plain (OpenSpec.ofChange posetGrowsSpec)) posetGrowsCard

/-- THE TIED CARD OF 'arborlaw17.PosetLevels'. -/
def posetLevelsCard : Claim7 := { stood := { row := posetLevelsRow, standIns := [], harness := (true, "fd85f60cd3d04530cc501a1a44e17aeabca9dce94c4bc21fb29065b1a79ebaaa"), looks := false }, kinds := [], alts := [], laidByText := true, laidKinds := [.data], laidTests := true, laidLooks := .later }
def PosetLevelsCardSaid : Prop := Claim7.holds Tryd.pinned (.plain (OpenSpec.ofChange posetLevelsSpec)) posetLevelsCard

/-- THE TIED CARD OF 'arborlaw17.PosetMirsky'. -/
def posetMirskyCard : Claim7 := { stood := { row := posetMirskyRow, standIns := [], harness := (true, "fd85f60cd3d04530cc501a1a44e17aeabca9dce94c4bc21fb29065b1a79ebaaa"), looks := false }, kinds := [], alts := [], laidByText := true, laidKinds := [.data], laidTests := true, laidLooks := .later }
def PosetMirskyCardSaid : Prop := Claim7.holds Tryd.pinned (.plain (OpenSpec.ofChange posetMirskySpec)) posetMirskyCard

/-- THE SECOND FORM's CARD OF 'arborlaw17.PosetDilworth'. -/
def posetDilworthUptoCard : Claim7 := { stood := { row := posetDilworthUptoRow, standIns := [], harness := (true, "fd85f60cd3d04530cc501a1a44e17aeabca9dce94c4bc21fb29065b1a79ebaaa"), looks := false }, kinds := [], alts := [], laidByText := true, laidKinds := [.data], laidTests := true, laidLooks := .later }
def PosetDilworthUptoCardSaid : Prop := Claim7.holds Tryd.pinned (.plain (OpenSpec.upto posetDilworthSpec)) posetDilworthUptoCard

/-- THE SECOND FORM's CARD OF 'arborlaw17.PosetWidth'. -/
def posetWidthUptoCard : Claim7 := { stood := { row := posetWidthUptoRow, standIns := [], harness := (true, "fd85f60cd3d04530cc501a1a44e17aeabca9dce94c4bc21fb29065b1a79ebaaa"), looks := false }, kinds := [], alts := [], laidByText := true, laidKinds := [.data], laidTests := true, laidLooks := .later }
def PosetWidthUptoCardSaid : Prop := Claim7.holds Tryd.pinned (.plain (OpenSpec.upto posetWidthSpec)) posetWidthUptoCard

/-- THE SECOND FORM's CARD OF 'arborlaw17.PosetGrows'. -/
def posetGrowsUptoCard : Claim7 := { stood := { row := posetGrowsUptoRow, standIns := [], harness := (true, "fd85f60cd3d04530cc501a1a44e17aeabca9dce94c4bc21fb29065b1a79ebaaa"), looks := false }, kinds := [], alts := [], laidByText := true, laidKinds := [.data], laidTests := true, laidLooks := .later }
def PosetGrowsUptoCardSaid : Prop := Claim7.holds Tryd.pinned (.plain (OpenSpec.upto posetGrowsSpec)) posetGrowsUptoCard

/-- THE SECOND FORM's CARD OF 'arborlaw17.PosetLevels'. -/
def posetLevelsUptoCard : Claim7 := { stood := { row := posetLevelsUptoRow, standIns := [], harness := (true, "fd85f60cd3d04530cc501a1a44e17aeabca9dce94c4bc21fb29065b1a79ebaaa"), looks := false }, kinds := [], alts := [], laidByText := true, laidKinds := [.data], laidTests := true, laidLooks := .later }
def PosetLevelsUptoCardSaid : Prop := Claim7.holds Tryd.pinned (.plain (OpenSpec.upto posetLevelsSpec)) posetLevelsUptoCard

/-- THE SECOND FORM's CARD OF 'arborlaw17.PosetMirsky'. -/
def posetMirskyUptoCard : Claim7 := { stood := { row := posetMirskyUptoRow, standIns := [], harness := (true, "fd85f60cd3d04530cc501a1a44e17aeabca9dce94c4bc21fb29065b1a79ebaaa"), looks := false }, kinds := [], alts := [], laidByText := true, laidKinds := [.data], laidTests := true, laidLooks := .later }
def PosetMirskyUptoCardSaid : Prop := Claim7.holds Tryd.pinned (.plain (OpenSpec.upto posetMirskySpec)) posetMirskyUptoCard
end Rows
end Go.Proofs.YtnjikhhegebkiaaDoor
