import Derived.Test.YtelcofkjpkdjiaaGreatZWeb
/-
  A part of the web hangs together: it has at least as many angles as faces and vertices, less one (plain law). Written by an AI agent.
-/
namespace Go.Proofs.YtelcofkjpkdjiaaGreat
open Go.RowKit

theorem snoc_ind {α : Type} {P : List α → Prop} (h0 : P []) (hs : ∀ l a, P l → P (l ++ [a])) : ∀ l, P l := fun l => by
  have : ∀ k (l : List α), l.length = k → P l := by
    intro k
    induction k with
    | zero => intro l hl; rw [List.eq_nil_of_length_eq_zero hl]; exact h0
    | succ k ih =>
      intro l hl
      have hne : l ≠ [] := fun e => by rw [e] at hl; cases hl
      rw [← List.dropLast_concat_getLast hne]
      exact hs _ _ (ih _ (by rw [List.length_dropLast, hl]; rfl))
  exact this _ l rfl
theorem countP_or2 {α : Type} (l : List α) (p q : α → Bool) (h : ∀ a ∈ l, ¬ (p a = true ∧ q a = true)) : l.countP (fun a => p a || q a) = l.countP p + l.countP q := by
  induction l with
  | nil => rfl
  | cons a r ih =>
    rw [List.countP_cons, List.countP_cons, List.countP_cons, ih fun b hb => h b (by simp [hb])]
    have := h a (by simp)
    cases hp : p a <;> cases hq : q a <;> simp_all <;> omega
section
variable {F N : Nat}
/-- the things that c leads -/
def sizeW (L : Nat) (ro : Nat → Nat) (c : Nat) : Nat := (List.range L).countP fun y => decide (ro y = c)
theorem part_conn : ∀ H : List Quad, InH F N H → ∀ c, c < F + N → roH F H c = c → sizeW (F + N) (roH F H) c ≤ partA (roH F H) H c + 1 := by
  refine snoc_ind ?_ ?_
  · intro _ c hc _
    unfold sizeW
    have : ((List.range (F + N)).countP fun y => decide (roH F [] y = c)) = (List.range (F + N)).countP fun y => decide (y = c) := rfl
    rw [this]
    have h1 := countP_less (p := fun y => decide (y = c)) (q := fun _ => false) (m := c) (by simp) (fun h => by by_cases e : h = c <;> simp [e]) (F + N)
    rw [h1]
    simp
    split <;> omega
  · intro H q ih hH c hc hcc
    have hH' : InH F N H := fun p hp => hH p (by simp [hp])
    have hl := roH_ok hH'
    obtain ⟨hq1, hq2⟩ := hH q (by simp)
    rw [roH_snoc] at hcc ⊢
    generalize hro : roH F H = ro at *
    have ih' := ih hH'
    have hp := hl.fix q.2.2.1 (by omega)
    have hp2 := hl.le q.2.2.1 (by omega)
    have hr := hl.fix (F + q.2.1) (by omega)
    have hr2 := hl.le (F + q.2.1) (by omega)
    have hJ : ∀ y, joinR ro q.2.2.1 (F + q.2.1) y = if ro y = max (ro q.2.2.1) (ro (F + q.2.1)) then min (ro q.2.2.1) (ro (F + q.2.1)) else ro y := fun _ => rfl
    obtain ⟨u, hu⟩ : ∃ u, u = ro q.2.2.1 := ⟨_, rfl⟩
    obtain ⟨v, hv⟩ : ∃ v, v = ro (F + q.2.1) := ⟨_, rfl⟩
    unfold sizeW partA at *
    rw [List.countP_append, List.countP_cons, List.countP_nil]
    rw [← hu] at hJ hp hp2
    rw [← hv] at hJ hr hr2
    by_cases huv : u = v
    · -- one part already
      have hsame : ∀ y, joinR ro q.2.2.1 (F + q.2.1) y = ro y := fun y => by
        rw [hJ, huv]
        split <;> omega
      have e1 : ((List.range (F + N)).countP fun y => decide (joinR ro q.2.2.1 (F + q.2.1) y = c)) = (List.range (F + N)).countP fun y => decide (ro y = c) := List.countP_congr fun y _ => by rw [hsame]
      have e2 : (H.countP fun p => decide (joinR ro q.2.2.1 (F + q.2.1) p.2.2.1 = c)) = H.countP fun p => decide (ro p.2.2.1 = c) := List.countP_congr fun y _ => by rw [hsame]
      rw [e1, e2]
      have := ih' c hc (by rw [hsame] at hcc; exact hcc)
      omega
    · by_cases hcm : c = min u v
      · have huL : u < F + N := by omega
        have hvL : v < F + N := by omega
        have i1 := ih' u huL hp
        have i2 := ih' v hvL hr
        have e1 : ((List.range (F + N)).countP fun y => decide (joinR ro q.2.2.1 (F + q.2.1) y = c)) = ((List.range (F + N)).countP fun y => decide (ro y = u)) + (List.range (F + N)).countP fun y => decide (ro y = v) := by
          rw [← countP_or2 _ _ _ fun y _ h => by simp at h; omega]
          refine List.countP_congr fun y _ => ?_
          rw [hJ]
          simp only [decide_eq_true_eq, Bool.or_eq_true]
          split <;> omega
        have e2 : (H.countP fun p => decide (joinR ro q.2.2.1 (F + q.2.1) p.2.2.1 = c)) = (H.countP fun p => decide (ro p.2.2.1 = u)) + H.countP fun p => decide (ro p.2.2.1 = v) := by
          rw [← countP_or2 _ _ _ fun y _ h => by simp at h; omega]
          refine List.countP_congr fun y _ => ?_
          rw [hJ]
          simp only [decide_eq_true_eq, Bool.or_eq_true]
          split <;> omega
        have e3 : decide (joinR ro q.2.2.1 (F + q.2.1) q.2.2.1 = c) = true := by
          rw [decide_eq_true_eq, hJ, ← hu]
          split <;> omega
        rw [e1, e2, e3]
        simp only [if_true]
        omega
      · have hcx : ¬ c = max u v := by
          intro e
          rw [hJ] at hcc
          have hc1 : ro c = c := by
            rcases Nat.le_total u v with h | h
            · rw [Nat.max_eq_right h] at e; rw [e]; exact hr
            · rw [Nat.max_eq_left h] at e; rw [e]; exact hp
          rw [hc1, if_pos e] at hcc
          omega
        have hc1 : ro c = c := by
          rw [hJ] at hcc
          split at hcc
          · omega
          · exact hcc
        have e1 : ((List.range (F + N)).countP fun y => decide (joinR ro q.2.2.1 (F + q.2.1) y = c)) = (List.range (F + N)).countP fun y => decide (ro y = c) := List.countP_congr fun y _ => by
          rw [hJ, decide_eq_true_eq, decide_eq_true_eq]
          split <;> omega
        have e2 : (H.countP fun p => decide (joinR ro q.2.2.1 (F + q.2.1) p.2.2.1 = c)) = H.countP fun p => decide (ro p.2.2.1 = c) := List.countP_congr fun y _ => by
          rw [hJ, decide_eq_true_eq, decide_eq_true_eq]
          split <;> omega
        rw [e1, e2]
        have := ih' c hc hc1
        omega
end
end Go.Proofs.YtelcofkjpkdjiaaGreat
