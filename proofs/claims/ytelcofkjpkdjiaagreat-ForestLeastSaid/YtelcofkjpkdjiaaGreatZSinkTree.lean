import Derived.Test.YtelcofkjpkdjiaaGreatZOuts
import Derived.Test.YtelcofkjpkdjiaaGreatZEulerP
import Derived.Test.YtelcofkjpkdjiaaGreatZFaceOrb
/-
  A part of the web whose vertices are sinks alone is a tree (plain law). Written by an AI agent.
-/
namespace Go.Proofs.YtelcofkjpkdjiaaGreat
open Go.RowKit

section
variable {n : Int} {es : List (Int × Int)} {rs : List (List Int)}
/-- the half edges at vertices of X are let alone -/
noncomputable def cutS (es : List (Int × Int)) (rs : List (List Int)) (X : Nat → Prop) (h : Nat) : Nat := if tst (X (vtx es h)) = true then h else sig es rs h
theorem cutS_in {X : Nat → Prop} {h : Nat} (hx : X (vtx es h)) : cutS es rs X h = h := by unfold cutS; rw [if_pos (tst_iff.2 hx)]
theorem cutS_out {X : Nat → Prop} {h : Nat} (hx : ¬ X (vtx es h)) : cutS es rs X h = sig es rs h := by unfold cutS; rw [if_neg (by rw [tst_iff]; exact hx)]
theorem cutS_vtx (hR : RightP n es rs) (X : Nat → Prop) {h : Nat} (hh : h < 2 * es.length) : cutS es rs X h < 2 * es.length ∧ vtx es (cutS es rs X h) = vtx es h := by
  by_cases hx : X (vtx es h)
  · rw [cutS_in hx]; exact ⟨hh, rfl⟩
  · rw [cutS_out hx]; exact vtx_sig hR hh
theorem cutS_perm (hR : RightP n es rs) (X : Nat → Prop) : Perm (2 * es.length) (cutS es rs X) := by
  refine ⟨fun h hh => (cutS_vtx hR X hh).1, fun a b ha hb e => ?_⟩
  have hv : vtx es a = vtx es b := by rw [← (cutS_vtx hR X ha).2, ← (cutS_vtx hR X hb).2, e]
  by_cases hx : X (vtx es a)
  · rw [cutS_in hx, cutS_in (hv ▸ hx)] at e
    exact e
  · rw [cutS_out hx, cutS_out (hv ▸ hx)] at e
    exact (sig_perm hR).inj a b ha hb e
theorem cutS_orb_in (X : Nat → Prop) {a b : Nat} (hx : X (vtx es a)) (o : Orb (cutS es rs X) a b) : b = a := by
  obtain ⟨i, rfl⟩ := o
  induction i with
  | zero => rfl
  | succ i ih =>
    show iter (cutS es rs X) i (cutS es rs X a) = a
    rw [cutS_in hx]
    exact ih
theorem cutS_orb_out (hR : RightP n es rs) (X : Nat → Prop) : ∀ (i a : Nat), a < 2 * es.length → ¬ X (vtx es a) → iter (cutS es rs X) i a = iter (sig es rs) i a
  | 0, _, _, _ => rfl
  | i + 1, a, ha, hx => by
    show iter (cutS es rs X) i (cutS es rs X a) = iter (sig es rs) i (sig es rs a)
    rw [cutS_out hx]
    have := vtx_sig hR ha
    exact cutS_orb_out hR X i _ this.1 (by rw [this.2]; exact hx)
/-- orbits behind the cut: as many more as half edges at X, less the vertices of X -/
theorem cutS_cls (hR : RightP n es rs) (hin : InN rs.length es) (ht : ∀ x, x < rs.length → ∃ h, h < 2 * es.length ∧ vtx es h = x) (X : Nat → Prop) :
    cls (Orb (cutS es rs X)) (2 * es.length) + (List.range rs.length).countP (fun x => tst (X x)) = cls (Orb (sig es rs)) (2 * es.length) + (List.range (2 * es.length)).countP (fun h => tst (X (vtx es h))) := by
  have e1 : cls (Orb (cutS es rs X)) (2 * es.length) = (List.range (2 * es.length)).countP (fun h => tst (∀ k, k < h → vtx es k ≠ vtx es h) && !tst (X (vtx es h))) + (List.range (2 * es.length)).countP (fun h => tst (X (vtx es h))) := by
    unfold cls
    rw [countP_split _ (fun h => tst (∀ k, k < h → ¬ Orb (cutS es rs X) k h)) (fun h => tst (X (vtx es h))), Nat.add_comm]
    congr 1
    · refine count_congr fun h hh => ?_
      by_cases hx : X (vtx es h)
      · rw [tst_iff.2 hx]; simp
      · rw [tst_not.2 hx]
        simp only [Bool.not_false, Bool.and_true]
        rw [Bool.eq_iff_iff, tst_iff, tst_iff]
        constructor
        · intro H k hk e
          refine H k hk ?_
          have hkl : k < 2 * es.length := by omega
          obtain ⟨i, hi⟩ := (orb_sig hR hkl hh).2 e
          exact ⟨i, by rw [cutS_orb_out hR X i k hkl (by rw [e]; exact hx)]; exact hi⟩
        · rintro H k hk ⟨i, hi⟩
          have hkl : k < 2 * es.length := by omega
          refine H k hk ?_
          have : ∀ (i a : Nat), a < 2 * es.length → vtx es (iter (cutS es rs X) i a) = vtx es a := by
            intro i
            induction i with
            | zero => intro a _; rfl
            | succ i ih =>
              intro a ha
              show vtx es (iter (cutS es rs X) i (cutS es rs X a)) = vtx es a
              rw [ih _ (cutS_vtx hR X ha).1, (cutS_vtx hR X ha).2]
          rw [← this i k hkl, hi]
    · refine count_congr fun h hh => ?_
      by_cases hx : X (vtx es h)
      · rw [tst_iff.2 hx, Bool.and_true, tst_iff]
        intro k hk o
        have hkl : k < 2 * es.length := by omega
        have := cutS_orb_in X (a := h) hx (o.symm (cutS_perm hR X) hkl)
        omega
      · rw [tst_not.2 hx]; simp
  have e2 : cls (Orb (sig es rs)) (2 * es.length) = (List.range (2 * es.length)).countP (fun h => tst (∀ k, k < h → vtx es k ≠ vtx es h) && !tst (X (vtx es h))) + (List.range (2 * es.length)).countP (fun h => tst (∀ k, k < h → vtx es k ≠ vtx es h) && tst (X (vtx es h))) := by
    unfold cls
    have : ((List.range (2 * es.length)).countP fun h => tst (∀ k, k < h → ¬ Orb (sig es rs) k h)) = (List.range (2 * es.length)).countP fun h => tst (∀ k, k < h → vtx es k ≠ vtx es h) := count_congr fun h hh => by
      rw [Bool.eq_iff_iff, tst_iff, tst_iff]
      exact ⟨fun H k hk e => H k hk ((orb_sig hR (by omega) hh).2 e), fun H k hk o => H k hk ((orb_sig hR (by omega) hh).1 o)⟩
    rw [this, countP_split _ _ (fun h => tst (X (vtx es h))), Nat.add_comm]
  have e3 : (List.range (2 * es.length)).countP (fun h => tst (∀ k, k < h → vtx es k ≠ vtx es h) && tst (X (vtx es h))) = (List.range rs.length).countP (fun x => tst (X x)) := by
    rw [count_fiber (v := vtx es) (M := rs.length) _ (2 * es.length) (fun k hk => vtx_lt hin hk), ← sum_count]
    refine sum_congr fun x hx => ?_
    by_cases hX : X x
    · rw [if_pos (tst_iff.2 hX)]
      obtain ⟨h0, hh0, hv0⟩ := ht x hx
      obtain ⟨l, hl0, hvl, hmin⟩ := least_of (P := fun h => vtx es h = x) hv0
      have : ((List.range (2 * es.length)).countP fun k => decide (vtx es k = x) && (tst (∀ k', k' < k → vtx es k' ≠ vtx es k) && tst (X (vtx es k)))) = (List.range (2 * es.length)).countP fun k => decide (k = l) := count_congr fun k hk => by
        rw [Bool.eq_iff_iff, Bool.and_eq_true, Bool.and_eq_true, decide_eq_true_eq, tst_iff, tst_iff, decide_eq_true_eq]
        constructor
        · rintro ⟨h1, h2, _⟩
          rcases Nat.lt_trichotomy k l with h | h | h
          · exact absurd h1 (hmin k h)
          · exact h
          · exact absurd (hvl.trans h1.symm) (h2 l h)
        · rintro rfl
          exact ⟨hvl, fun k' hk' e => hmin k' hk' (e.trans hvl), by rw [hvl]; exact hX⟩
      rw [this]
      have h1 := countP_less (p := fun y => decide (y = l)) (q := fun _ => false) (m := l) (by simp) (fun h => by by_cases e : h = l <;> simp [e]) (2 * es.length)
      rw [h1, if_pos (by omega)]
      simp
    · rw [if_neg (by rw [tst_iff]; exact hX), List.countP_eq_zero]
      intro k _
      simp only [Bool.and_eq_true, decide_eq_true_eq, tst_iff, not_and]
      intro h1 _ h2
      rw [h1] at h2
      exact hX h2
  rw [e1, e2, e3]
  omega
end
end Go.Proofs.YtelcofkjpkdjiaaGreat
