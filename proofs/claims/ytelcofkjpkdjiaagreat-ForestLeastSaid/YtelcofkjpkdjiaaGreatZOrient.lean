import Derived.Test.YtelcofkjpkdjiaaGreatZWebTree
/-
  Trees of the web: each thing but its tree's root has an angle of its own (plain law). Written by an AI agent.
-/
namespace Go.Proofs.YtelcofkjpkdjiaaGreat
open Go.RowKit

theorem orient_step {L : Nat} {ro ro' : Nat → Nat} {a b mn : Nat} (hbL : b < L) (hro' : ∀ y, ro' y = if ro y = ro a ∨ ro y = ro b then mn else ro y) (hne : ro a ≠ ro b) (hmn : mn = ro a ∨ mn = ro b)
    {rt : Nat → Nat} (hrt : ∀ c, c < L → ro' c = c → rt c < L ∧ ro' (rt c) = c) (hmnL : mn < L) (hmnf : ro' mn = mn) (hR : ro (rt mn) = ro a) :
    (∀ c, c < L → ro c = c → (if c = ro a then rt mn else if c = ro b then b else rt c) < L ∧ ro (if c = ro a then rt mn else if c = ro b then b else rt c) = c) ∧
    ∀ D : List Nat, (∀ v, v < L → D.count v = if (if ro v = ro a then rt mn else if ro v = ro b then b else rt (ro v)) = v then 0 else 1) → ∀ v, v < L → (D ++ [b]).count v = if rt (ro' v) = v then 0 else 1 := by
  refine ⟨fun c hc hf => ?_, fun D hD v hv => ?_⟩
  · by_cases h1 : c = ro a
    · rw [if_pos h1]
      exact ⟨(hrt mn hmnL hmnf).1, hR.trans h1.symm⟩
    · rw [if_neg h1]
      by_cases h2 : c = ro b
      · rw [if_pos h2]
        exact ⟨hbL, h2.symm⟩
      · rw [if_neg h2]
        have hc' : ro' c = c := by rw [hro', if_neg (by rw [hf]; rintro (h | h); exact h1 h; exact h2 h)]; exact hf
        obtain ⟨k1, k2⟩ := hrt c hc hc'
        refine ⟨k1, ?_⟩
        rw [hro'] at k2
        by_cases h3 : ro (rt c) = ro a ∨ ro (rt c) = ro b
        · rw [if_pos h3] at k2
          rcases hmn with h | h
          · exact absurd (k2.symm.trans h) h1
          · exact absurd (k2.symm.trans h) h2
        · rw [if_neg h3] at k2
          exact k2
  · rw [List.count_append, hD v hv, hro']
    by_cases h1 : ro v = ro a
    · rw [if_pos h1, if_pos (show ro v = ro a ∨ ro v = ro b from .inl h1)]
      have : v ≠ b := fun e => by subst e; exact hne h1.symm
      rw [List.count_singleton]
      have h0 : (b == v) = false := by rw [beq_eq_false_iff_ne]; exact fun e => this e.symm
      rw [h0]
      simp
    · rw [if_neg h1]
      by_cases h2 : ro v = ro b
      · rw [if_pos h2, if_pos (show ro v = ro a ∨ ro v = ro b from .inr h2)]
        have hRv : rt mn ≠ v := fun e => h1 (by rw [← e]; exact hR)
        rw [if_neg hRv, List.count_singleton]
        by_cases e : b = v
        · subst e; simp
        · have h0 : (b == v) = false := by rw [beq_eq_false_iff_ne]; exact e
          rw [if_neg e, h0]
          simp
      · rw [if_neg h2, if_neg (show ¬ (ro v = ro a ∨ ro v = ro b) from fun h => h.elim h1 h2)]
        have : v ≠ b := fun e => h2 (by rw [e])
        rw [List.count_singleton]
        have h0 : (b == v) = false := by rw [beq_eq_false_iff_ne]; exact fun e => this e.symm
        rw [h0]
        simp
/-- a web without cycles: each angle brings two parts together -/
def Forest (F N : Nat) (H : List Quad) : Prop := (List.range (F + N)).countP (fun y => decide (roH F H y = y)) + H.length = F + N
section
variable {F N : Nat}
theorem forest_ge : ∀ H : List Quad, InH F N H → F + N ≤ (List.range (F + N)).countP (fun y => decide (roH F H y = y)) + H.length :=
  snoc_ind (fun _ => by
    have : (List.range (F + N)).countP (fun y => decide (roH F [] y = y)) = F + N := by
      have h : (List.range (F + N)).countP (fun y => decide (roH F [] y = y)) = (List.range (F + N)).length := List.countP_eq_length.2 fun y _ => decide_eq_true rfl
      rw [h, List.length_range]
    rw [this]
    exact Nat.le_add_right _ _) fun K q ih hI => by
    have hK : InH F N K := fun p hp => hI p (by simp [hp])
    obtain ⟨h1, h2⟩ := hI q (by simp)
    have := join_cls (roH_ok hK) (a := q.2.2.1) (b := F + q.2.1) (by omega) (by omega)
    have ih := ih hK
    rw [roH_snoc, List.length_append, List.length_singleton]
    split at this <;> omega
theorem forest_snoc {K : List Quad} {q : Quad} (hI : InH F N (K ++ [q])) (h : Forest F N (K ++ [q])) : Forest F N K ∧ roH F K q.2.2.1 ≠ roH F K (F + q.2.1) := by
  have hK : InH F N K := fun p hp => hI p (by simp [hp])
  obtain ⟨h1, h2⟩ := hI q (by simp)
  have hj := join_cls (roH_ok hK) (a := q.2.2.1) (b := F + q.2.1) (by omega) (by omega)
  have hge := forest_ge K hK
  unfold Forest at h ⊢
  rw [roH_snoc, List.length_append, List.length_singleton] at h
  by_cases e : roH F K q.2.2.1 = roH F K (F + q.2.1)
  · rw [if_pos e] at hj
    omega
  · rw [if_neg e] at hj
    exact ⟨by omega, e⟩
/-- with a root in each part: an angle for each thing but the roots, by which it hangs at its part -/
theorem orient : ∀ H : List Quad, InH F N H → Forest F N H → ∀ rt : Nat → Nat, (∀ c, c < F + N → roH F H c = c → rt c < F + N ∧ roH F H (rt c) = c) →
    ∃ D : List Nat, D.length = H.length ∧ (∀ i (h1 : i < D.length) (h2 : i < H.length), D[i] = H[i].2.2.1 ∨ D[i] = F + H[i].2.1) ∧ ∀ v, v < F + N → D.count v = if rt (roH F H v) = v then 0 else 1 :=
  snoc_ind (fun _ _ rt hrt => ⟨[], rfl, fun i h1 => absurd h1 (Nat.not_lt_zero _), fun v hv => by
    have := (hrt v hv rfl).2
    have e : rt v = v := this
    show 0 = if rt v = v then 0 else 1
    rw [if_pos e]⟩) fun K q ih hI hF rt hrt => by
    have hK : InH F N K := fun p hp => hI p (by simp [hp])
    obtain ⟨h1, h2⟩ := hI q (by simp)
    obtain ⟨hFK, hne⟩ := forest_snoc hI hF
    have hL := roH_ok hK
    have ha : q.2.2.1 < F + N := by omega
    have hb : F + q.2.1 < F + N := by omega
    have la := hL.le _ ha
    have lb := hL.le _ hb
    have fa := hL.fix _ ha
    have fb := hL.fix _ hb
    rw [roH_snoc] at hrt ⊢
    have hro' : ∀ y, joinR (roH F K) q.2.2.1 (F + q.2.1) y = if roH F K y = roH F K q.2.2.1 ∨ roH F K y = roH F K (F + q.2.1) then min (roH F K q.2.2.1) (roH F K (F + q.2.1)) else roH F K y := fun y => by
      unfold joinR
      by_cases e1 : roH F K y = max (roH F K q.2.2.1) (roH F K (F + q.2.1))
      · rw [if_pos e1, if_pos (by omega)]
      · rw [if_neg e1]
        by_cases e2 : roH F K y = roH F K q.2.2.1 ∨ roH F K y = roH F K (F + q.2.1)
        · rw [if_pos e2]; omega
        · rw [if_neg e2]
    have hmn : min (roH F K q.2.2.1) (roH F K (F + q.2.1)) = roH F K q.2.2.1 ∨ min (roH F K q.2.2.1) (roH F K (F + q.2.1)) = roH F K (F + q.2.1) := by omega
    have hmnL : min (roH F K q.2.2.1) (roH F K (F + q.2.1)) < F + N := by omega
    have hmnf : joinR (roH F K) q.2.2.1 (F + q.2.1) (min (roH F K q.2.2.1) (roH F K (F + q.2.1))) = min (roH F K q.2.2.1) (roH F K (F + q.2.1)) := by
      rw [hro']
      rcases hmn with h | h
      · rw [h, fa, if_pos (.inl rfl)]
      · rw [h, fb, if_pos (.inr rfl)]
    obtain ⟨k1, k2⟩ := hrt _ hmnL hmnf
    rw [hro'] at k2
    generalize hm : min (roH F K q.2.2.1) (roH F K (F + q.2.1)) = mn at *
    have hRab : roH F K (rt mn) = roH F K q.2.2.1 ∨ roH F K (rt mn) = roH F K (F + q.2.1) := by
      by_cases e : roH F K (rt mn) = roH F K q.2.2.1 ∨ roH F K (rt mn) = roH F K (F + q.2.1)
      · exact e
      · rw [if_neg e] at k2
        rcases hmn with h | h
        · exact .inl (k2.trans h)
        · exact .inr (k2.trans h)
    rcases hRab with hR | hR
    · obtain ⟨s1, s2⟩ := orient_step hb hro' hne hmn hrt hmnL hmnf hR
      obtain ⟨D, d1, d2, d3⟩ := ih hK hFK _ s1
      refine ⟨D ++ [F + q.2.1], by simp [d1], fun i h1 h2 => ?_, s2 D d3⟩
      by_cases hi : i < D.length
      · rw [List.getElem_append_left hi, List.getElem_append_left (by omega)]
        exact d2 i hi (by omega)
      · have hi2 : i = D.length := by simp at h1; omega
        subst hi2
        right
        rw [List.getElem_append_right (Nat.le_refl _), List.getElem_append_right (by omega)]
        simp [d1]
    · have hro2 : ∀ y, joinR (roH F K) q.2.2.1 (F + q.2.1) y = if roH F K y = roH F K (F + q.2.1) ∨ roH F K y = roH F K q.2.2.1 then mn else roH F K y := fun y => by
        rw [hro' y]
        by_cases e : roH F K y = roH F K q.2.2.1 ∨ roH F K y = roH F K (F + q.2.1)
        · rw [if_pos e, if_pos e.symm]
        · rw [if_neg e, if_neg fun h => e h.symm]
      obtain ⟨s1, s2⟩ := orient_step ha hro2 (fun e => hne e.symm) hmn.symm hrt hmnL hmnf hR
      obtain ⟨D, d1, d2, d3⟩ := ih hK hFK _ s1
      refine ⟨D ++ [q.2.2.1], by simp [d1], fun i h1 h2 => ?_, s2 D d3⟩
      by_cases hi : i < D.length
      · rw [List.getElem_append_left hi, List.getElem_append_left (by omega)]
        exact d2 i hi (by omega)
      · have hi2 : i = D.length := by simp at h1; omega
        subst hi2
        left
        rw [List.getElem_append_right (Nat.le_refl _), List.getElem_append_right (by omega)]
        simp [d1]
end
end Go.Proofs.YtelcofkjpkdjiaaGreat
