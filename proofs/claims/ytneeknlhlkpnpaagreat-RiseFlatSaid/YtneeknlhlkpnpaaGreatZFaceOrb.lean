import Derived.Test.YtneeknlhlkpnpaaGreatZAng0
import Derived.Test.YtneeknlhlkpnpaaGreatZEul
import Derived.Test.YtneeknlhlkpnpaaGreatZFits
/-
 Faces as orbits of half edges; a face's room. Written by an AI agent.
-/
namespace Go.Proofs.YtneeknlhlkpnpaaGreat
open Go.RowKit
section
variable {n : Int} {es : List (Int × Int)} {rs : List (List Int)}
theorem face_row (hR : RightP n es rs) {f : Nat} (hf : f < (facesOf n es rs).length) : ∃ c, c < 2 * es.length ∧ ∀ x : Nat, (x : Int) ∈ (facesOf n es rs).getD f [] ↔ Orb (nxf es rs) c x := by
 rw [faces_rows hR] at hf ⊢
 obtain ⟨c, hc, _, e, _⟩ := rows_get (nxf es rs) (2 * es.length) hf
 refine ⟨c, hc, fun x => ?_⟩
 rw [e]
 exact row_mem (nxf_perm hR) hc x
theorem angF_orb (hR : RightP n es rs) {h k : Nat} (hh : h < 2 * es.length) (hk : k < 2 * es.length) : angF n es rs h = angF n es rs k ↔ Orb (nxf es rs) (ot h) (ot k) := by
 obtain ⟨hf, hm⟩ := angF_spec hR hh
 obtain ⟨c, hc, hrow⟩ := face_row hR hf
 have h1 := (hrow _).1 hm
 have hP := nxf_perm hR
 constructor
 ·intro e
  have h2 := (angF_spec hR hk).2
  rw [← e] at h2
  exact (h1.symm hP hc).trans ((hrow _).1 h2)
 ·intro o
  exact ((angF_iff hR hk hf).2 ((hrow _).2 (h1.trans o))).symm
end
section
variable {Fc Kd : Nat → Nat}
theorem roomT_getD {F f0 k f : Nat} (hf : f < F) : (roomT Fc Kd F f0 k).getD f 0 = (if f = f0 then (1 : Int) else -1) + (((List.range k).countP fun h => decide (Kd h = 2) && decide (Fc h = f) : Nat) : Int) := by
 unfold roomT
 rw [List.getD_eq_getElem?_getD, List.getElem?_map, List.getElem?_range hf]
 rfl
end
end Go.Proofs.YtneeknlhlkpnpaaGreat
