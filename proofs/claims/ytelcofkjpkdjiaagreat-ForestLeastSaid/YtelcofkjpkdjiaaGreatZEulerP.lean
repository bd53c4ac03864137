import Derived.Test.YtelcofkjpkdjiaaGreatZEul
/-
  Euler's inequality for any permutation and the pairs of half edges (plain law). Written by an AI agent.
-/
namespace Go.Proofs.YtelcofkjpkdjiaaGreat
open Go.RowKit

/-- s, where the first k pairs are changed beforehand -/
def ppk (s : Nat → Nat) : Nat → Nat → Nat
  | 0 => s
  | k + 1 => fun z => ppk s k (swp (2 * k) (2 * k + 1) z)
/-- what hangs together by s and the first k pairs -/
def ppR (s : Nat → Nat) : Nat → Nat → Nat → Prop
  | 0 => Orb s
  | k + 1 => Merge (ppR s k) (2 * k) (2 * k + 1)
theorem merge_equ {N : Nat} {R : Nat → Nat → Prop} (hR : Equ N R) {a b : Nat} (ha : a < N) (hb : b < N) : Equ N (Merge R a b) := by
  refine ⟨fun x hx => .inl (hR.refl x hx), fun x y hx hy h => ?_, fun x y z hx hy hz h k => ?_⟩
  · rcases h with h | ⟨h1, h2⟩ | ⟨h1, h2⟩
    · exact .inl (hR.symm _ _ hx hy h)
    · exact .inr (.inr ⟨hR.symm _ _ hb hy h2, hR.symm _ _ hx ha h1⟩)
    · exact .inr (.inl ⟨hR.symm _ _ ha hy h2, hR.symm _ _ hx hb h1⟩)
  · rcases h with h | ⟨h1, h2⟩ | ⟨h1, h2⟩
    · rcases k with k | ⟨k1, k2⟩ | ⟨k1, k2⟩
      · exact .inl (hR.trans _ _ _ hx hy hz h k)
      · exact .inr (.inl ⟨hR.trans _ _ _ hx hy ha h k1, k2⟩)
      · exact .inr (.inr ⟨hR.trans _ _ _ hx hy hb h k1, k2⟩)
    · rcases k with k | ⟨k1, k2⟩ | ⟨k1, k2⟩
      · exact .inr (.inl ⟨h1, hR.trans _ _ _ hb hy hz h2 k⟩)
      · exact .inr (.inl ⟨h1, k2⟩)
      · exact .inl (hR.trans _ _ _ hx ha hz h1 k2)
    · rcases k with k | ⟨k1, k2⟩ | ⟨k1, k2⟩
      · exact .inr (.inr ⟨h1, hR.trans _ _ _ ha hy hz h2 k⟩)
      · exact .inl (hR.trans _ _ _ hx hb hz h1 k2)
      · exact .inr (.inr ⟨h1, k2⟩)
section
variable {s : Nat → Nat} {m : Nat}
theorem ppk_perm (hs : Perm (2 * m) s) : ∀ k, k ≤ m → Perm (2 * m) (ppk s k)
  | 0, _ => hs
  | k + 1, hk => (ppk_perm hs k (by omega)).swp (by omega) (by omega)
theorem ppR_equ (hs : Perm (2 * m) s) : ∀ k, k ≤ m → Equ (2 * m) (ppR s k)
  | 0, _ => hs.equ
  | k + 1, hk => merge_equ (ppR_equ hs k (by omega)) (by omega) (by omega)
theorem ppk_R (hs : Perm (2 * m) s) : ∀ k, k ≤ m → ∀ x y, x < 2 * m → y < 2 * m → Orb (ppk s k) x y → ppR s k x y
  | 0, _, _, _, _, _, o => o
  | k + 1, hk, x, y, hx, hy, o => by
    have ih := ppk_R hs k (by omega)
    have hP := ppk_perm hs k (by omega)
    have hE := ppR_equ hs k (by omega)
    have h2a : 2 * k < 2 * m := by omega
    have h2b : 2 * k + 1 < 2 * m := by omega
    by_cases ho : Orb (ppk s k) (2 * k) (2 * k + 1)
    · -- a part of it
      have hstep : ∀ z, z < 2 * m → Orb (ppk s k) z (ppk s k (swp (2 * k) (2 * k + 1) z)) := fun z hz => by
        have h1 : Orb (ppk s k) z (swp (2 * k) (2 * k + 1) z) := by
          unfold swp
          split
          · rename_i e; rw [e]; exact ho
          · split
            · rename_i e; rw [e]; exact ho.symm hP h2a
            · exact Orb.refl _ _
        exact h1.trans (Orb.step _ _)
      obtain ⟨i, hi⟩ := o
      have : ∀ (i z : Nat), z < 2 * m → Orb (ppk s k) z (iter (ppk s (k + 1)) i z) := by
        intro i
        induction i with
        | zero => intro z _; exact Orb.refl _ _
        | succ i ihi =>
          intro z hz
          have h1 := hstep z hz
          exact h1.trans (ihi _ ((ppk_perm hs (k + 1) hk).lt z hz))
      have h2 := this i x hx
      rw [hi] at h2
      exact .inl (ih x y hx hy h2)
    · have h1 := (orb_merge hP h2a h2b ho hx hy).1 o
      rcases h1 with h | ⟨h1, h2⟩ | ⟨h1, h2⟩
      · exact .inl (ih _ _ hx hy h)
      · exact .inr (.inl ⟨ih _ _ hx h2a h1, ih _ _ h2b hy h2⟩)
      · exact .inr (.inr ⟨ih _ _ hx h2b h1, ih _ _ h2a hy h2⟩)
theorem eulerP (hs : Perm (2 * m) s) : ∀ k, k ≤ m → ∃ g : Nat, 2 * cls (ppR s k) (2 * m) + k = cls (Orb s) (2 * m) + cls (Orb (ppk s k)) (2 * m) + 2 * g
  | 0, _ => ⟨0, by show 2 * cls (Orb s) (2 * m) + 0 = cls (Orb s) (2 * m) + cls (Orb s) (2 * m) + 2 * 0; omega⟩
  | k + 1, hk => by
    obtain ⟨g, hg⟩ := eulerP hs k (by omega)
    have hP := ppk_perm hs k (by omega)
    have hE := ppR_equ hs k (by omega)
    have h2a : 2 * k < 2 * m := by omega
    have h2b : 2 * k + 1 < 2 * m := by omega
    show ∃ g, 2 * cls (Merge (ppR s k) (2 * k) (2 * k + 1)) (2 * m) + (k + 1) = cls (Orb s) (2 * m) + cls (Orb fun z => ppk s k (swp (2 * k) (2 * k + 1) z)) (2 * m) + 2 * g
    by_cases ho : Orb (ppk s k) (2 * k) (2 * k + 1)
    · have e1 := cls_joined hP h2a h2b (by omega) ho
      have e2 := cls_same hE h2a h2b (ppk_R hs k (by omega) _ _ h2a h2b ho)
      exact ⟨g, by omega⟩
    · have e1 := cls_apart hP h2a h2b ho
      by_cases hq : ppR s k (2 * k) (2 * k + 1)
      · have e2 := cls_same hE h2a h2b hq
        exact ⟨g + 1, by omega⟩
      · have e2 := cls_merge hE h2a h2b hq
        exact ⟨g, by omega⟩
/-- all pairs changed: s behind the other half -/
theorem ppk_all : ∀ k x, ppk s k x = s (if x < 2 * k then ot x else x)
  | 0, x => by rw [if_neg (by omega)]; rfl
  | k + 1, x => by
    show ppk s k (swp (2 * k) (2 * k + 1) x) = _
    rw [ppk_all k]
    congr 1
    unfold swp ot
    by_cases h1 : x = 2 * k
    · subst h1
      rw [if_pos rfl, if_neg (by omega), if_pos (by omega), if_pos (by omega)]
    · rw [if_neg h1]
      by_cases h2 : x = 2 * k + 1
      · subst h2
        rw [if_pos rfl, if_neg (by omega), if_pos (by omega), if_neg (by omega)]
        omega
      · rw [if_neg h2]
        by_cases h3 : x < 2 * k
        · have h4 : x < 2 * (k + 1) := by omega
          simp only [h3, h4, if_true]
        · have h4 : ¬ x < 2 * (k + 1) := by omega
          simp only [h3, h4, if_false]
end
end Go.Proofs.YtelcofkjpkdjiaaGreat
