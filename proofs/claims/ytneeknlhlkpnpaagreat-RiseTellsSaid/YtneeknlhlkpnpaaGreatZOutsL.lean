import Derived.Test.YtneeknlhlkpnpaaGreatZRotL
/-
 Plain law: a vertex' ups, read from its list: those behind one that goes to it. Written by an AI agent.
-/
namespace Go.Proofs.YtneeknlhlkpnpaaGreat
open Go.RowKit
def evI (a : Int) : Bool := decide (a % 2 = 0)
def upAt (l : List Int) (i : Nat) : Bool := evI (l.getD i 0) && !evI (l.getD ((i + l.length - 1) % l.length) 0)
def outsL (l : List Int) : List Int := match (List.range l.length).find? (upAt l) with
 | none => []
 | some i => ((rot l i).takeWhile evI).map (· / 2)
def halv (l : List Int) : List Int := l.map (· / 2)
theorem evI_even (a : Nat) : evI ((2 * a : Nat) : Int) = true := by unfold evI; simp
theorem evI_odd (a : Nat) : evI ((2 * a + 1 : Nat) : Int) = false := by unfold evI; simp
theorem outsL_none {l : List Int} (h : ∀ i, i < l.length → upAt l i = false) : outsL l = [] := by
 unfold outsL
 rw [List.find?_eq_none.2 fun i hi => by rw [h i (List.mem_range.1 hi)]; simp]
theorem outsL_all {l : List Int} {b : Bool} (h : ∀ a ∈ l, evI a = b) : outsL l = [] := by
 refine outsL_none fun i hi => ?_
 have h1 := h l[i] (List.getElem_mem _)
 have h2 := h (l[(i + l.length - 1) % l.length]'(Nat.mod_lt _ (by omega))) (List.getElem_mem _)
 unfold upAt
 rw [List.getD_eq_getElem?_getD, List.getElem?_eq_getElem hi, List.getD_eq_getElem?_getD, List.getElem?_eq_getElem (Nat.mod_lt _ (by omega)), Option.getD_some, Option.getD_some, h1, h2]
 cases b <;> rfl
theorem takeWhile_two {P Q : List Nat} : (((P.map (fun a => 2 * a) ++ Q.map fun a => 2 * a + 1).map fun d : Nat => (d : Int)).takeWhile evI) = P.map fun a : Nat => ((2 * a : Nat) : Int) := by
 rw [List.map_append, List.map_map, List.map_map]
 rw [List.takeWhile_append_of_pos (fun a ha => by
  obtain ⟨b, _, rfl⟩ := List.mem_map.1 ha
  exact evI_even b)]
 have : (Q.map ((fun d : Nat => (d : Int)) ∘ fun a => 2 * a + 1)).takeWhile evI = [] := by
  cases Q with
  | nil => rfl
  | cons q Q => rw [List.map_cons, List.takeWhile_cons_of_neg (by show ¬ evI ((2 * q + 1 : Nat) : Int) = true; rw [evI_odd]; simp)]
 rw [this, List.append_nil]
 rfl
theorem half_two (P : List Nat) : (P.map fun a : Nat => ((2 * a : Nat) : Int)).map (· / 2) = P.map fun a : Nat => (a : Int) := by
 rw [List.map_map]
 apply List.map_congr_left
 intro a _
 show ((2 * a : Nat) : Int) / 2 = a
 omega
theorem outsL_norm {l : List Int} {j : Nat} {P Q : List Nat} (hj : rot l j = (P.map (fun a => 2 * a) ++ Q.map fun a => 2 * a + 1).map fun d : Nat => (d : Int)) (hP : P ≠ []) (hQ : Q ≠ []) : outsL l = P.map fun a : Nat => (a : Int) := by
 obtain ⟨D, hD⟩ : ∃ D, D = P.map (fun a => 2 * a) ++ Q.map fun a => 2 * a + 1 := ⟨_, rfl⟩
 have hDl : D.length = P.length + Q.length := by rw [hD]; simp
 have hPl := List.length_pos_iff.2 hP
 have hQl := List.length_pos_iff.2 hQ
 rw [← hD] at hj
 have hl : l.length = D.length := by rw [← rot_length l j, hj, List.length_map]
 obtain ⟨i, hi, ei⟩ : ∃ i, i < l.length ∧ rot l i = D.map fun d : Nat => (d : Int) := by
  by_cases hjl : j < l.length
  ·exact ⟨j, hjl, hj⟩
  ·exact ⟨0, by omega, by rw [rot_zero, ← hj, rot_over (by omega)]⟩
 have hev : ∀ k (hk : k < D.length), evI ((D[k] : Nat) : Int) = decide (k < P.length) := fun k hk => by
  by_cases h : k < P.length
  ·rw [decide_eq_true h]
   simp only [hD]
   rw [List.getElem_append_left (by simpa using h), List.getElem_map]
   exact evI_even _
  ·rw [decide_eq_false h]
   simp only [hD]
   rw [List.getElem_append_right (by simpa using h), List.getElem_map]
   exact evI_odd _
 have hg : ∀ k (hk : k < D.length), l.getD ((i + k) % l.length) 0 = ((D[k] : Nat) : Int) := fun k hk => by
  rw [List.getD_eq_getElem?_getD, List.getElem?_eq_getElem (Nat.mod_lt _ (by omega)), Option.getD_some, ← rot_get hi (by omega)]
  simp only [ei, List.getElem_map]
 have hat : ∀ k, k < D.length → upAt l ((i + k) % l.length) = (decide (k < P.length) && !decide ((k + D.length - 1) % D.length < P.length)) := fun k hk => by
  unfold upAt
  have e : ((i + k) % l.length + l.length - 1) % l.length = (i + (k + D.length - 1) % D.length) % l.length := by
   rw [← hl, show (i + k) % l.length + l.length - 1 = (i + k) % l.length + (l.length - 1) by omega, Nat.mod_add_mod, Nat.add_mod_mod]
   congr 1
   omega
  rw [e, hg k hk, hg _ (Nat.mod_lt _ (by omega)), hev _ hk, hev _ (Nat.mod_lt _ (by omega))]
 have hi0 : upAt l i = true := by
  have := hat 0 (by omega)
  rw [Nat.add_zero, Nat.mod_eq_of_lt hi] at this
  rw [this, decide_eq_true hPl, Nat.zero_add, Nat.mod_eq_of_lt (by omega), decide_eq_false (by omega)]
  rfl
 have hone : ∀ t, t < l.length → upAt l t = true → t = i := fun t ht h => by
  obtain ⟨k, hk, e⟩ : ∃ k, k < D.length ∧ t = (i + k) % l.length := by
   by_cases h1 : i ≤ t
   ·exact ⟨t - i, by omega, by rw [show i + (t - i) = t by omega, Nat.mod_eq_of_lt ht]⟩
   ·exact ⟨t + l.length - i, by omega, by rw [show i + (t + l.length - i) = t + l.length by omega, Nat.add_mod_right, Nat.mod_eq_of_lt ht]⟩
  rw [e, hat k hk] at h
  simp only [Bool.and_eq_true, decide_eq_true_eq, Bool.not_eq_true', decide_eq_false_iff_not] at h
  by_cases hk0 : k = 0
  ·rw [e, hk0, Nat.add_zero, Nat.mod_eq_of_lt hi]
  ·exfalso
   apply h.2
   rw [show k + D.length - 1 = (k - 1) + D.length by omega, Nat.add_mod_right, Nat.mod_eq_of_lt (by omega)]
   omega
 have hf : (List.range l.length).find? (upAt l) = some i := by
  cases hq : (List.range l.length).find? (upAt l) with
  | none =>
   have := List.find?_eq_none.1 hq i (List.mem_range.2 hi)
   exact absurd hi0 this
  | some t =>
   have h1 := List.find?_some hq
   have h2 := List.mem_range.1 (List.mem_of_find?_eq_some hq)
   rw [hone t h2 h1]
 unfold outsL
 rw [hf]
 show ((rot l i).takeWhile evI).map (· / 2) = _
 rw [ei, hD, takeWhile_two, half_two]
end Go.Proofs.YtneeknlhlkpnpaaGreat
