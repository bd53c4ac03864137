/-
  Plain law: the faces that the program walks are the orbits. Written by an AI agent.
-/
import Derived.Test.YthdifhfmgmmljaaFacesW
import Derived.Test.YthdifhfmgmmljaaEuler
namespace Go.Proofs.Ythdifhfmgmmljaa
open Go.RowKit

open Classical in
/-- after how many steps one is back -/
noncomputable def per (f : Nat → Nat) (h : Nat) : Nat := if H : ∃ p, (0 < p ∧ iter f p h = h) ∧ ∀ q, q < p → ¬ (0 < q ∧ iter f q h = h) then Classical.choose H else 0
theorem per_spec {N : Nat} {f : Nat → Nat} (hf : Perm N f) {h : Nat} (hh : h < N) : 0 < per f h ∧ per f h ≤ N ∧ iter f (per f h) h = h ∧ ∀ q, 0 < q → q < per f h → iter f q h ≠ h := by
  obtain ⟨p, hp, hpN, hpe⟩ := hf.period hh
  obtain ⟨m, hmp, hm, hl⟩ := least_of (P := fun p => 0 < p ∧ iter f p h = h) ⟨hp, hpe⟩
  have H : ∃ p, (0 < p ∧ iter f p h = h) ∧ ∀ q, q < p → ¬ (0 < q ∧ iter f q h = h) := ⟨m, hm, hl⟩
  have e : per f h = Classical.choose H := by unfold per; rw [dif_pos H]
  obtain ⟨⟨c1, c2⟩, c3⟩ := Classical.choose_spec H
  rw [e]
  refine ⟨c1, ?_, c2, fun q h1 h2 h3 => c3 q h2 ⟨h1, h3⟩⟩
  rcases Nat.lt_or_ge N (Classical.choose H) with h4 | h4
  · exact absurd hm (c3 m (by omega))
  · exact h4
theorem per_inj {N : Nat} {f : Nat → Nat} (hf : Perm N f) {h : Nat} (hh : h < N) {i j : Nat} (hij : i < j) (hj : j < per f h) : iter f i h ≠ iter f j h := by
  intro e
  have e2 : iter f i h = iter f i (iter f (j - i) h) := by
    rw [← iter_add f (j - i) i h, show j - i + i = j by omega]; exact e
  exact (per_spec hf hh).2.2.2 (j - i) (by omega) (by omega) (hf.iter_inj i hh (hf.iter_lt _ hh) e2).symm
theorem orb_per {N : Nat} {f : Nat → Nat} (hf : Perm N f) {h : Nat} (hh : h < N) (x : Nat) : Orb f h x ↔ ∃ i, i < per f h ∧ iter f i h = x := by
  obtain ⟨h1, _, h3, _⟩ := per_spec hf hh
  constructor
  · rintro ⟨i, rfl⟩
    refine ⟨i % per f h, Nat.mod_lt _ h1, ?_⟩
    conv => rhs; rw [← Nat.div_add_mod i (per f h), iter_add, iter_mul h3]
  · rintro ⟨i, _, e⟩; exact ⟨i, e⟩
noncomputable def rowOf (f : Nat → Nat) (h : Nat) : List Int := (List.range (per f h)).map fun i => ((iter f i h : Nat) : Int)
noncomputable def leastB (f : Nat → Nat) (h : Nat) : Bool := tst (∀ j, j < h → ¬ Orb f j h)
noncomputable def rowsUpto (f : Nat → Nat) (k : Nat) : List (List Int) := ((List.range k).filter (leastB f)).map (rowOf f)
theorem rowsUpto_succ (f : Nat → Nat) (k : Nat) : rowsUpto f (k + 1) = rowsUpto f k ++ if leastB f k = true then [rowOf f k] else [] := by
  unfold rowsUpto
  rw [List.range_succ, List.filter_append, List.map_append]
  by_cases h : leastB f k = true <;> simp [h]
theorem rowsUpto_length (f : Nat → Nat) (N : Nat) : (rowsUpto f N).length = cls (Orb f) N := by
  unfold rowsUpto cls
  rw [List.length_map, List.countP_eq_length_filter]
  rfl

section
variable {N : Nat} {f : Nat → Nat} {nx : List Int}
theorem fWalk_orb (hf : Perm N f) (hl : nx.length = N) (hnx : ∀ h, h < N → nx.getD h 0 = (f h : Nat)) {k : Nat} (hk : k < N) {seen0 : List Bool} (h0 : ∀ i, seen0.getD (iter f i k) false = false) : ∀ (d i fuel : Nat) (seen : List Bool) (face : List Int), i + d = per f k → d < fuel → seen.length = N →
    (∀ h, seen.getD h false = true ↔ seen0.getD h false = true ∨ ∃ j, j < i ∧ iter f j k = h) →
    ∃ seen' : List Bool, fWalk nx fuel seen (iter f i k) face = (seen', face ++ (List.range' i d).map fun j => ((iter f j k : Nat) : Int)) ∧ seen'.length = N ∧ ∀ h, seen'.getD h false = true ↔ seen0.getD h false = true ∨ ∃ j, j < per f k ∧ iter f j k = h
  | 0, i, fuel, seen, face, hi, hfu, hsl, hs => by
    have hi : i = per f k := by omega
    obtain ⟨h1, _, h3, _⟩ := per_spec hf hk
    have : seen.getD (iter f i k) false = true := (hs _).2 (.inr ⟨0, by omega, by rw [hi, h3]; rfl⟩)
    refine ⟨seen, by rw [fWalk_stop this]; simp, hsl, fun h => by rw [hs h, hi]⟩
  | d + 1, i, fuel, seen, face, hi, hfu, hsl, hs => by
    obtain ⟨fu, rfl⟩ : ∃ fu, fuel = fu + 1 := ⟨fuel - 1, by omega⟩
    have hlt := hf.iter_lt i hk
    have hno : seen.getD (iter f i k) false = false := by
      rw [← Bool.not_eq_true, hs]
      rintro (h | ⟨j, hj, e⟩)
      · rw [h0] at h; cases h
      · exact per_inj hf hk hj (by omega) e
    rw [fWalk_go hno, hnx _ hlt, show ((f (iter f i k) : Nat) : Int).toNat = iter f (i + 1) k by rw [iter_succ]; rfl]
    obtain ⟨seen', e1, e2, e3⟩ := fWalk_orb hf hl hnx hk h0 d (i + 1) fu (seen.set (iter f i k) true) (face ++ [((iter f i k : Nat) : Int)]) (by omega) (by omega) (by simp [hsl]) (fun h => by
      rw [getD_setT _ _ _ (by omega), Bool.or_eq_true, decide_eq_true_eq, hs h]
      constructor
      · rintro (h1 | h1 | ⟨j, hj, e⟩)
        · exact .inr ⟨i, by omega, h1.symm⟩
        · exact .inl h1
        · exact .inr ⟨j, by omega, e⟩
      · rintro (h1 | ⟨j, hj, e⟩)
        · exact .inr (.inl h1)
        · by_cases hji : j = i
          · subst hji; exact .inl e.symm
          · exact .inr (.inr ⟨j, by omega, e⟩))
    refine ⟨seen', ?_, e2, e3⟩
    rw [e1, List.range'_succ, List.map_cons, List.append_assoc]
    rfl
theorem fAll_orb (hf : Perm N f) (hl : nx.length = N) (hnx : ∀ h, h < N → nx.getD h 0 = (f h : Nat)) : ∀ k, k ≤ N → (∀ h, (fAll nx k).1.getD h false = true ↔ h < N ∧ ∃ j, j < k ∧ Orb f j h) ∧ (fAll nx k).2 = rowsUpto f k
  | 0, _ => by
    refine ⟨fun h => ?_, rfl⟩
    have : (fAll nx 0).1.getD h false = false := by
      show (List.replicate nx.length false).getD h false = false
      rw [List.getD_eq_getElem?_getD, List.getElem?_replicate]
      split <;> rfl
    rw [this]
    exact ⟨fun h => (by cases h), fun ⟨_, j, hj, _⟩ => (by omega)⟩
  | k + 1, hk => by
    obtain ⟨h1, h2⟩ := fAll_orb hf hl hnx k (by omega)
    have hkN : k < N := by omega
    have hsl : (fAll nx k).1.length = N := (fAll_seen nx k).trans hl
    rw [fAll_succ, rowsUpto_succ]
    unfold fStep
    have hlk : leastB f k = true ↔ ¬ ∃ j, j < k ∧ Orb f j k := by
      unfold leastB
      rw [tst_iff]
      exact ⟨fun g ⟨j, hj, o⟩ => g j hj o, fun g j hj o => g ⟨j, hj, o⟩⟩
    by_cases hs : (fAll nx k).1.getD k false = true
    · have hex : ∃ j, j < k ∧ Orb f j k := ((h1 k).1 hs).2
      rw [fWalk_stop hs, if_neg (fun h => hlk.1 h hex)]
      simp only [List.length_nil, Nat.lt_irrefl, if_false, List.append_nil]
      refine ⟨fun h => ?_, h2⟩
      rw [h1 h]
      constructor
      · rintro ⟨hh, j, hj, o⟩; exact ⟨hh, j, by omega, o⟩
      · rintro ⟨hh, j, hj, o⟩
        refine ⟨hh, ?_⟩
        by_cases hjk : j = k
        · subst hjk
          obtain ⟨j', hj', o'⟩ := hex
          exact ⟨j', hj', o'.trans o⟩
        · exact ⟨j, by omega, o⟩
    · have hno : ¬ ∃ j, j < k ∧ Orb f j k := fun h => hs ((h1 k).2 ⟨hkN, h⟩)
      have h0 : ∀ i, (fAll nx k).1.getD (iter f i k) false = false := fun i => by
        rw [← Bool.not_eq_true, h1]
        rintro ⟨_, j, hj, o⟩
        exact hno ⟨j, hj, o.trans (Orb.symm hf hkN ⟨i, rfl⟩)⟩
      obtain ⟨p1, p2, _, _⟩ := per_spec hf hkN
      obtain ⟨seen', e1, _, e3⟩ := fWalk_orb hf hl hnx hkN h0 (per f k) 0 (nx.length + 1) (fAll nx k).1 [] (by omega) (by omega) hsl (fun h => ⟨.inl, fun g => g.resolve_right fun ⟨j, hj, _⟩ => by omega⟩)
      rw [show iter f 0 k = k from rfl] at e1
      rw [e1, if_pos (hlk.2 hno)]
      simp only [List.nil_append]
      have er : (List.range' 0 (per f k)).map (fun j => ((iter f j k : Nat) : Int)) = rowOf f k := by
        unfold rowOf; rw [List.range_eq_range']
      rw [er]
      have hlen : 0 < (rowOf f k).length := by unfold rowOf; simpa using p1
      rw [if_pos hlen]
      refine ⟨fun h => ?_, by rw [h2]⟩
      rw [e3 h, h1 h, ← orb_per hf hkN]
      constructor
      · rintro (⟨hh, j, hj, o⟩ | o)
        · exact ⟨hh, j, by omega, o⟩
        · exact ⟨o.lt hf hkN, k, by omega, o⟩
      · rintro ⟨hh, j, hj, o⟩
        by_cases hjk : j = k
        · subst hjk; exact .inr o
        · exact .inl ⟨hh, j, by omega, o⟩
end
theorem nxf_perm {n : Int} {es : List (Int × Int)} {rs : List (List Int)} (h : RightP n es rs) : Perm (2 * es.length) (nxf es rs) :=
  ⟨fun x hx => by rw [← phik_all hx]; exact (phik_perm h _ (Nat.le_refl _)).lt x hx, fun x y hx hy e => (phik_perm h _ (Nat.le_refl _)).inj x y hx hy (by rw [phik_all hx, phik_all hy, e])⟩
theorem nxf_at {n : Int} {es : List (Int × Int)} {rs : List (List Int)} (h : RightP n es rs) {d : Nat} (hd : d < 2 * es.length) : (nextsL es.length rs).getD d 0 = (nxf es rs d : Nat) := by
  obtain ⟨v, hv, _⟩ := nextsL_at (m := es.length) (k := d) hd (fun l hl a ha => by
    obtain ⟨x, hx, rfl⟩ := List.mem_iff_getElem.1 hl
    exact ⟨(h.at_ x hx a ha).1, (h.at_ x hx a ha).2.1⟩)
  unfold nxf
  rw [hv]; rfl
theorem faces_rows {n : Int} {es : List (Int × Int)} {rs : List (List Int)} (h : RightP n es rs) : facesOf n es rs = rowsUpto (nxf es rs) (2 * es.length) := by
  unfold facesOf facesL
  rw [if_pos (right_iff.2 h)]
  have hl : (nextsL es.length rs).length = 2 * es.length := nAll_length _ _ _
  rw [hl]
  exact (fAll_orb (nxf_perm h) hl (fun d hd => nxf_at h hd) _ (Nat.le_refl _)).2
theorem orb_congr {N : Nat} {f g : Nat → Nat} (hf : Perm N f) (e : ∀ x, x < N → f x = g x) {x y : Nat} (hx : x < N) : Orb f x y ↔ Orb g x y := by
  have key : ∀ i x, x < N → iter f i x = iter g i x := by
    intro i
    induction i with
    | zero => exact fun _ _ => rfl
    | succ i ih => intro x hx; show iter f i (f x) = iter g i (g x); rw [ih _ (hf.lt x hx), e x hx]
  exact ⟨fun ⟨i, h⟩ => ⟨i, by rw [← key i x hx]; exact h⟩, fun ⟨i, h⟩ => ⟨i, by rw [key i x hx]; exact h⟩⟩
/-- EULER, as the program reckons -/
theorem euler_all {n : Int} {es : List (Int × Int)} {rs : List (List Int)} (h : RightP n es rs) (hin : InN rs.length es) :
    ∃ g : Nat, 2 * cls (Q es es.length) rs.length + es.length = rs.length + iso rs + (facesOf n es rs).length + 2 * g := by
  obtain ⟨g, hg⟩ := euler h hin es.length (Nat.le_refl _)
  refine ⟨g, ?_⟩
  rw [faces_rows h, rowsUpto_length, cls_congr (fun x y hx _ => orb_congr (nxf_perm h) (fun d hd => (phik_all hd).symm) hx)]
  exact hg
end Go.Proofs.Ythdifhfmgmmljaa
