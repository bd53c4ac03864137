import Derived.Test.YtneeknlhlkpnpaaGreatZAsg
import Derived.Test.YtneeknlhlkpnpaaGreatZAng1
import Derived.Test.YtneeknlhlkpnpaaGreatZAng0
/-
 The reference's Rooms and Try: what they compute. Written by an AI agent.
-/
namespace Go.Proofs.YtneeknlhlkpnpaaGreat
open Go.RowKit
def RoomPost (l : List Int) (w : World) (e : Ending) (w' : World) : Prop := ∃ g, e = .returned (.slice (some ⟨g, 0, none⟩) l.length l.length) ∧ Below w.heap.size w w' ∧ Blk w' g 3 (intCells l).toArray ∧ w.heap.size ≤ g
noncomputable def roomE (n : Int) (es : List (Int × Int)) (rs : List (List Int)) (f0 : Nat) : List Int := roomT (angF n es rs) (angK es rs) (facesOf n es rs).length f0 (2 * es.length)
end Go.Proofs.YtneeknlhlkpnpaaGreat
namespace Go.Proofs.YtneeknlhlkpnpaaGreat
open Go.RowKit
end Go.Proofs.YtneeknlhlkpnpaaGreat
namespace Go.Proofs.YtneeknlhlkpnpaaGreat
open Go.RowKit
end Go.Proofs.YtneeknlhlkpnpaaGreat
namespace Go.Proofs.YtneeknlhlkpnpaaGreat
open Go.RowKit
end Go.Proofs.YtneeknlhlkpnpaaGreat
namespace Go.Proofs.YtneeknlhlkpnpaaGreat
open Go.RowKit
section
variable {es : List (Int × Int)} {N : Nat}
theorem vtx_even (hin : InN N es) {i : Nat} (hi : i < es.length) : (vtx es (2 * i) : Int) = (es.getD i (0, 0)).1 := by
 have h := atE_vtx hin (h := 2 * i) (by omega)
 rw [← h]
 unfold atE
 rw [show 2 * i / 2 = i by omega]
 simp
theorem vtx_odd (hin : InN N es) {i : Nat} (hi : i < es.length) : (vtx es (2 * i + 1) : Int) = (es.getD i (0, 0)).2 := by
 have h := atE_vtx hin (h := 2 * i + 1) (by omega)
 rw [← h]
 unfold atE
 rw [show (2 * i + 1) / 2 = i by omega]
 simp
end
end Go.Proofs.YtneeknlhlkpnpaaGreat
namespace Go.Proofs.YtneeknlhlkpnpaaGreat
open Go.RowKit
section
variable {V Fc : Nat → Nat} {n M : Nat} {rm : List Int}
end
section
variable {V Fc Kd : Nat → Nat} {n M F f0 : Nat} {E : List Nat}
end
section
variable {n : Int} {es : List (Int × Int)} {rs : List (List Int)}
end
end Go.Proofs.YtneeknlhlkpnpaaGreat
