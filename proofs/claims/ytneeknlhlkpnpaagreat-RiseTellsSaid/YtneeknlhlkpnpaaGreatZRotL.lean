import Derived.Test.YtneeknlhlkpnpaaGreatZEul
import Derived.Test.YtneeknlhlkpnpaaGreatZAng0
/-
 Plain law: lists begun elsewhere. Written by an AI agent.
-/
namespace Go.Proofs.YtneeknlhlkpnpaaGreat
open Go.RowKit
theorem rot_get {l : List Int} {i k : Nat} (hi : i < l.length) (hk : k < l.length) : (rot l i)[k]'(by rw [rot_length]; exact hk) = l[(i + k) % l.length]'(Nat.mod_lt _ (by omega)) := by
 unfold rot
 rw [List.getElem_append]
 by_cases h : k < (l.drop i).length
 ·rw [dif_pos h, List.getElem_drop]
  have h2 : i + k < l.length := by rw [List.length_drop] at h; omega
  simp only [Nat.mod_eq_of_lt h2]
 ·rw [dif_neg h, List.getElem_take]
  have h2 : (i + k) % l.length = k - (l.drop i).length := by
   rw [List.length_drop] at h ⊢
   rw [show i + k = (k - (l.length - i)) + l.length by omega, Nat.add_mod_right]
   exact Nat.mod_eq_of_lt (by omega)
  simp only [h2]
theorem rot_over {l : List Int} {i : Nat} (h : l.length ≤ i) : rot l i = l := by
 unfold rot
 rw [List.drop_eq_nil_of_le h, List.take_of_length_le h, List.nil_append]
theorem rot_zero (l : List Int) : rot l 0 = l := by unfold rot; simp
theorem rot_back (l : List Int) (i : Nat) : ∃ j, rot (rot l i) j = l := by
 by_cases hi : i ≤ l.length
 ·refine ⟨l.length - i, ?_⟩
  unfold rot
  have h1 : (l.drop i).length = l.length - i := List.length_drop
  rw [List.drop_left' h1, List.take_left' h1, List.take_append_drop]
 ·exact ⟨0, by rw [rot_zero, rot_over (by omega)]⟩
theorem rot_rot (l : List Int) (i j : Nat) : ∃ k, rot (rot l i) j = rot l k := by
 by_cases hl : l.length = 0
 ·have := List.length_eq_zero_iff.1 hl
  subst this
  exact ⟨0, by unfold rot; simp⟩
 have red : ∀ (l : List Int) (i : Nat), 0 < l.length → ∃ i', i' < l.length ∧ rot l i = rot l i' := fun l i h0 => by
  by_cases hi : i < l.length
  ·exact ⟨i, hi, rfl⟩
  ·exact ⟨0, h0, by rw [rot_over (by omega), rot_zero]⟩
 obtain ⟨i', hi, e1⟩ := red l i (by omega)
 obtain ⟨j', hj, e2⟩ := red (rot l i) j (by rw [rot_length]; omega)
 rw [e2, e1]
 rw [rot_length] at hj
 refine ⟨(i' + j') % l.length, ?_⟩
 have hm : (i' + j') % l.length < l.length := Nat.mod_lt _ (by omega)
 apply List.ext_getElem
 ·rw [rot_length, rot_length, rot_length]
 ·intro k h1 h2
  rw [rot_length, rot_length] at h1
  rw [rot_get (by rw [rot_length]; exact hj) (by rw [rot_length]; exact h1), rot_get hm h1, rot_get hi (by rw [rot_length]; exact Nat.mod_lt _ (by omega))]
  have e : (i' + (j' + k) % (rot l i').length) % l.length = ((i' + j') % l.length + k) % l.length := by
   rw [rot_length, Nat.add_mod, Nat.mod_mod, ← Nat.add_mod, Nat.add_mod ((i' + j') % l.length), Nat.mod_mod, ← Nat.add_mod, Nat.add_assoc]
  simp only [e]
theorem rot_mem {l : List Int} {i : Nat} {a : Int} : a ∈ rot l i ↔ a ∈ l := by
 unfold rot
 conv => rhs; rw [← List.take_append_drop i l]
 rw [List.mem_append, List.mem_append, or_comm]
theorem rot_map {α : Int → Int} (l : List Int) (i : Nat) : rot (l.map α) i = (rot l i).map α := by
 unfold rot
 rw [List.map_append, List.map_drop, List.map_take]
theorem rot_perm (l : List Int) (i : Nat) : (rot l i).Perm l := by
 unfold rot
 have := List.perm_append_comm (l₁ := l.drop i) (l₂ := l.take i)
 rw [List.take_append_drop] at this
 exact this
end Go.Proofs.YtneeknlhlkpnpaaGreat
