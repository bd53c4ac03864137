import Derived.Test.YtneeknlhlkpnpaaGreatZRotL
import Derived.Test.YtneeknlhlkpnpaaGreatZNorm
import Derived.Test.YtneeknlhlkpnpaaGreatZMir
import Derived.Test.YtneeknlhlkpnpaaGreatZFlat3
import Derived.Test.YtneeknlhlkpnpaaGreatZRRf
import Derived.Test.YtneeknlhlkpnpaaGreatZOuts
import Derived.Test.YtneeknlhlkpnpaaGreatZEul
import Derived.Test.YtneeknlhlkpnpaaGreatZAng0
import Derived.Test.YtneeknlhlkpnpaaGreatZFits
/-
 Plain law: lists begun elsewhere tell the same faces, angles, kinds. Written by an AI agent.
-/
namespace Go.Proofs.YtneeknlhlkpnpaaGreat
open Go.RowKit
def TurnsTo (rs ts : List (List Int)) : Prop := ts.length = rs.length ∧ ∀ x, x < rs.length → ∃ i, rot (rs.getD x []) i = ts.getD x []
theorem same_turns {rs ts : List (List Int)} (h : sameB rs ts = true) : TurnsTo rs ts := by
 unfold sameB at h
 simp only [Bool.and_eq_true, decide_eq_true_eq, List.all_eq_true] at h
 refine ⟨h.1.symm, fun x hx => ?_⟩
 have h1 := h.2 x (List.mem_range.2 hx)
 unfold turnedB at h1
 simp only [Bool.or_eq_true, Bool.and_eq_true, decide_eq_true_eq, List.any_eq_true] at h1
 rcases h1 with ⟨i, _, h2⟩ | ⟨h2, h3⟩
 ·exact ⟨i, h2⟩
 ·refine ⟨0, ?_⟩
  rw [rot_zero, List.length_eq_zero_iff.1 h2, List.length_eq_zero_iff.1 h3]
theorem turned_of {a b : List Int} {i : Nat} (h : rot a i = b) : turnedB a b = true := by
 by_cases h0 : a.length = 0
 ·have e := List.length_eq_zero_iff.1 h0
  subst e
  have : b = [] := by rw [← h]; unfold rot; simp
  subst this
  rfl
 ·by_cases hi : i < a.length
  ·exact turned_yes hi h
  ·rw [rot_over (by omega)] at h
   exact turned_yes (i := 0) (by omega) (by rw [rot_zero]; exact h)
theorem turns_same {rs ts : List (List Int)} (h : TurnsTo rs ts) : sameB rs ts = true :=
 sameB_of h.1.symm fun x h1 h2 => by
  obtain ⟨i, e⟩ := h.2 x h1
  rw [getD_row h1, getD_row h2] at e
  exact turned_of e
theorem TurnsTo.symm {rs ts : List (List Int)} (h : TurnsTo rs ts) : TurnsTo ts rs := ⟨h.1.symm, fun x hx => by
 obtain ⟨i, e⟩ := h.2 x (by rw [← h.1]; exact hx)
 obtain ⟨j, e2⟩ := rot_back (rs.getD x []) i
 exact ⟨j, by rw [← e, e2]⟩⟩
theorem TurnsTo.trans {rs ts us : List (List Int)} (h : TurnsTo rs ts) (k : TurnsTo ts us) : TurnsTo rs us := ⟨k.1.trans h.1, fun x hx => by
 obtain ⟨i, e⟩ := h.2 x hx
 obtain ⟨j, e2⟩ := k.2 x (by rw [h.1]; exact hx)
 rw [← e] at e2
 obtain ⟨t, e3⟩ := rot_rot (rs.getD x []) i j
 exact ⟨t, by rw [← e3, e2]⟩⟩
section
variable {n : Int} {es : List (Int × Int)} {rs ts : List (List Int)}
theorem TurnsTo.right (h : TurnsTo rs ts) (hR : RightP n es rs) : RightP n es ts := by
 have hr : ∀ x (hx : x < ts.length), ∃ (hx' : x < rs.length), ∃ i, ts[x] = rot rs[x] i := fun x hx => by
  have hx' : x < rs.length := by rw [← h.1]; exact hx
  obtain ⟨i, e⟩ := h.2 x hx'
  rw [getD_row hx', getD_row hx] at e
  exact ⟨hx', i, e.symm⟩
 refine ⟨hR.may, by rw [h.1]; exact hR.len, fun x hx a ha => ?_, fun x hx => ?_, fun d hd => ?_⟩
 ·obtain ⟨hx', i, e⟩ := hr x hx
  rw [e, rot_mem] at ha
  exact hR.at_ x hx' a ha
 ·obtain ⟨hx', i, e⟩ := hr x hx
  rw [e]
  unfold rot
  have := hR.nd x hx'
  rw [← List.take_append_drop i rs[x]] at this
  exact (List.perm_append_comm.nodup_iff).1 this
 ·obtain ⟨x, hx, hm⟩ := hR.cov d hd
  have hx' : x < ts.length := by rw [h.1]; exact hx
  obtain ⟨_, i, e⟩ := hr x hx'
  exact ⟨x, hx', by rw [e, rot_mem]; exact hm⟩
theorem TurnsTo.nexts (h : TurnsTo rs ts) (hR : RightP n es rs) : nextsL es.length ts = nextsL es.length rs := by
 have hT := h.right hR
 apply List.ext_getElem
 ·unfold nextsL; rw [nAll_length, nAll_length]
 ·intro d h1 h2
  have hd : d < 2 * es.length := by unfold nextsL at h1; rw [nAll_length] at h1; exact h1
  obtain ⟨y, j, hy, hj, e, hv⟩ := hT.pos (d := ot d) (ot_lt hd)
  have hy' : y < rs.length := by rw [← h.1]; exact hy
  obtain ⟨i, er⟩ := h.2 y hy'
  rw [getD_row hy', getD_row hy] at er
  have e1 := nexts_at hT hy hj
  rw [e, Int.toNat_natCast, ot_ot] at e1
  have hlen : rs[y].length = ts[y].length := by rw [← er, rot_length]
  obtain ⟨i', hi', er'⟩ : ∃ i', i' < rs[y].length ∧ rot rs[y] i' = ts[y] := by
   by_cases hi : i < rs[y].length
   ·exact ⟨i, hi, er⟩
   ·exact ⟨0, by omega, by rw [rot_zero, ← er, rot_over (by omega)]⟩
  have hg : ∀ k (hk : k < ts[y].length), ts[y][k] = rs[y][(i' + k) % rs[y].length]'(Nat.mod_lt _ (by omega)) := fun k hk => by
   rw [← rot_get hi' (by omega)]
   simp only [er']
  have e3 := hg j hj
  have e2 := nexts_at hR hy' (i := (i' + j) % rs[y].length) (Nat.mod_lt _ (by omega))
  rw [← e3, e, Int.toNat_natCast, ot_ot] at e2
  rw [List.getD_eq_getElem?_getD, List.getElem?_eq_getElem h1, Option.getD_some] at e1
  rw [List.getD_eq_getElem?_getD, List.getElem?_eq_getElem h2, Option.getD_some] at e2
  rw [e1, e2, hg _ (Nat.mod_lt _ (by omega))]
  have e4 : (i' + (j + 1) % ts[y].length) % rs[y].length = ((i' + j) % rs[y].length + 1) % rs[y].length := by
   rw [← hlen, Nat.add_mod, Nat.mod_mod, ← Nat.add_mod, Nat.add_mod ((i' + j) % rs[y].length), Nat.mod_mod, ← Nat.add_mod, Nat.add_assoc]
  simp only [e4]
theorem TurnsTo.faces (h : TurnsTo rs ts) (hR : RightP n es rs) : facesOf n es ts = facesOf n es rs := by
 unfold facesOf
 rw [if_pos (right_iff.2 hR), if_pos (right_iff.2 (h.right hR)), h.nexts hR]
theorem TurnsTo.sig_e (h : TurnsTo rs ts) (hR : RightP n es rs) : sig es ts = sig es rs := by
 funext d
 unfold sig nxf
 rw [h.nexts hR]
theorem TurnsTo.angK_e (h : TurnsTo rs ts) (hR : RightP n es rs) : angK es ts = angK es rs := by
 funext d
 unfold angK
 rw [h.sig_e hR]
theorem TurnsTo.gen_e (h : TurnsTo rs ts) (hR : RightP n es rs) : gen n es ts = gen n es rs := by
 have hi : iso ts = iso rs := by
  unfold iso
  rw [h.1]
  apply count_congr
  intro x hx
  obtain ⟨i, e⟩ := h.2 x hx
  rw [← e, rot_length]
 unfold gen
 rw [h.faces hR, hi, h.1]
theorem TurnsTo.bim (h : TurnsTo rs ts) (hR : RightP n es rs) : bimB ts = bimB rs := by
 have e : (∀ x, x < ts.length → plainN es ts x ≤ 2) ↔ ∀ x, x < rs.length → plainN es rs x ≤ 2 := by
  unfold plainN
  rw [h.angK_e hR, h.1]
 rw [Bool.eq_iff_iff, bim_iff (h.right hR), bim_iff hR, e]
end
end Go.Proofs.YtneeknlhlkpnpaaGreat
