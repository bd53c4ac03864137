/-
  Plain law: what a rotation is. Written by an AI agent.
-/
import Derived.Test.YthdifhfmgmmljaaFaces
namespace Go.Proofs.Ythdifhfmgmmljaa
open Go.RowKit

/-- lists that are a rotation -/
structure RightP (n : Int) (es : List (Int × Int)) (rs : List (List Int)) : Prop where
  may : mayB n es = true
  len : (rs.length : Int) = n
  at_ : ∀ x (hx : x < rs.length), ∀ a ∈ rs[x], 0 ≤ a ∧ a < 2 * (es.length : Int) ∧ atE es a.toNat = (x : Int)
  nd : ∀ x (hx : x < rs.length), rs[x].Nodup
  cov : ∀ h, h < 2 * es.length → ∃ x, ∃ hx : x < rs.length, (h : Int) ∈ rs[x]

theorem getD_setT (s : List Bool) (i j : Nat) (hi : i < s.length) : (s.set i true).getD j false = (decide (j = i) || s.getD j false) := by
  rw [List.getD_eq_getElem?_getD, List.getElem?_set, List.getD_eq_getElem?_getD]
  by_cases h : i = j
  · subst h; simp [hi]
  · simp [h, Ne.symm h]
theorem rRow_ok {es : List (Int × Int)} {x : Nat} : ∀ (l : List Int) (s s' : List Bool), rRow es x (some s) l = some s' → s.length = 2 * es.length →
    l.Nodup ∧ (∀ a ∈ l, 0 ≤ a ∧ a < 2 * (es.length : Int) ∧ atE es a.toNat = (x : Int) ∧ s.getD a.toNat false = false) ∧ ∀ h : Nat, (s'.getD h false = true ↔ s.getD h false = true ∨ (h : Int) ∈ l)
  | [], s, s', h, _ => by
    injection h with h
    subst h
    exact ⟨List.nodup_nil, fun a ha => absurd ha (by simp), fun h => by simp⟩
  | a :: r, s, s', h, hs => by
    have h' : rRow es x (rStep es x (some s) a) r = some s' := h
    cases hq : rStep es x (some s) a with
    | none => rw [hq, rRow_none] at h'; cases h'
    | some t =>
      rw [hq] at h'
      unfold rStep at hq
      simp only at hq
      split at hq
      · cases hq
      · rename_i h1
        split at hq
        · cases hq
        · rename_i h2
          split at hq
          · cases hq
          · rename_i h3
            injection hq with hq
            subst hq
            have h1 : 0 ≤ a ∧ a < 2 * (es.length : Int) := by rw [hs] at h1; omega
            have h2 : s.getD a.toNat false = false := by simpa using h2
            have h3 : atE es a.toNat = (x : Int) := by simpa using h3
            have hlt : a.toNat < s.length := by omega
            obtain ⟨i1, i2, i3⟩ := rRow_ok r (s.set a.toNat true) s' h' (by simp [hs])
            have hne : ∀ b ∈ r, b ≠ a := fun b hb e => by
              have := (i2 b hb).2.2.2
              rw [e, getD_setT _ _ _ hlt] at this
              simp at this
            refine ⟨List.nodup_cons.2 ⟨fun hm => hne a hm rfl, i1⟩, fun b hb => ?_, fun k => ?_⟩
            · rcases List.mem_cons.1 hb with rfl | hb
              · exact ⟨h1.1, h1.2, h3, h2⟩
              · obtain ⟨j1, j2, j3, j4⟩ := i2 b hb
                rw [getD_setT _ _ _ hlt, Bool.or_eq_false_iff] at j4
                exact ⟨j1, j2, j3, j4.2⟩
            · rw [i3 k, getD_setT _ _ _ hlt, Bool.or_eq_true, decide_eq_true_eq, List.mem_cons]
              constructor
              · rintro ((h | h) | h)
                · exact .inr (.inl (by omega))
                · exact .inl h
                · exact .inr (.inr h)
              · rintro (h | h | h)
                · exact .inl (.inr h)
                · exact .inl (.inl (by omega))
                · exact .inr h
theorem rRow_total {es : List (Int × Int)} {x : Nat} : ∀ (l : List Int) (s : List Bool), s.length = 2 * es.length → l.Nodup → (∀ a ∈ l, 0 ≤ a ∧ a < 2 * (es.length : Int) ∧ atE es a.toNat = (x : Int) ∧ s.getD a.toNat false = false) → ∃ s', rRow es x (some s) l = some s'
  | [], s, _, _, _ => ⟨s, rfl⟩
  | a :: r, s, hs, hnd, h => by
    obtain ⟨h1, h2, h3, h4⟩ := h a (List.mem_cons_self ..)
    have e : rStep es x (some s) a = some (s.set a.toNat true) := by
      unfold rStep
      simp only
      rw [if_neg (by rw [hs]; omega), if_neg (by rw [h4]; simp), if_neg (by simp [h3])]
    obtain ⟨s', hs'⟩ := rRow_total (es := es) (x := x) r (s.set a.toNat true) (by simp [hs]) (List.nodup_cons.1 hnd).2 (fun b hb => by
      obtain ⟨j1, j2, j3, j4⟩ := h b (List.mem_cons_of_mem _ hb)
      refine ⟨j1, j2, j3, ?_⟩
      rw [getD_setT _ _ _ (by omega), j4, Bool.or_false, decide_eq_false_iff_not]
      intro e2
      have : b = a := by omega
      exact (List.nodup_cons.1 hnd).1 (this ▸ hb))
    exact ⟨s', by show rRow es x (rStep es x (some s) a) r = _; rw [e]; exact hs'⟩
theorem rAll_ok {es : List (Int × Int)} {rs : List (List Int)} : ∀ (k : Nat) (s : List Bool), k ≤ rs.length → rAll es rs k = some s →
    (∀ x (hx : x < rs.length), x < k → rs[x].Nodup ∧ ∀ a ∈ rs[x], 0 ≤ a ∧ a < 2 * (es.length : Int) ∧ atE es a.toNat = (x : Int)) ∧ ∀ h : Nat, (s.getD h false = true ↔ ∃ x, ∃ hx : x < rs.length, x < k ∧ (h : Int) ∈ rs[x])
  | 0, s, _, h => by
    injection h with h
    subst h
    refine ⟨fun x _ hx => absurd hx (by omega), fun h => ?_⟩
    rw [List.getD_eq_getElem?_getD, List.getElem?_replicate]
    constructor
    · intro h2
      split at h2 <;> cases h2
    · rintro ⟨x, _, hx, _⟩; omega
  | k + 1, s, hk, h => by
    rw [rAll_succ] at h
    cases hq : rAll es rs k with
    | none => rw [hq, rRow_none] at h; cases h
    | some t =>
      rw [hq] at h
      have hkl : k < rs.length := by omega
      have e : rs.getD k [] = rs[k] := by rw [List.getD_eq_getElem?_getD, List.getElem?_eq_getElem hkl]; rfl
      rw [e] at h
      obtain ⟨i1, i2⟩ := rAll_ok k t (by omega) hq
      obtain ⟨j1, j2, j3⟩ := rRow_ok _ _ _ h (rAll_len hq)
      refine ⟨fun x hx hxk => ?_, fun a => ?_⟩
      · by_cases hxe : x = k
        · subst hxe; exact ⟨j1, fun a ha => ⟨(j2 a ha).1, (j2 a ha).2.1, (j2 a ha).2.2.1⟩⟩
        · exact i1 x hx (by omega)
      · rw [j3 a, i2 a]
        constructor
        · rintro (⟨x, hx, hxk, hm⟩ | hm)
          · exact ⟨x, hx, by omega, hm⟩
          · exact ⟨k, hkl, by omega, hm⟩
        · rintro ⟨x, hx, hxk, hm⟩
          by_cases hxe : x = k
          · subst hxe; exact .inr hm
          · exact .inl ⟨x, hx, by omega, hm⟩
theorem right_iff {n : Int} {es : List (Int × Int)} {rs : List (List Int)} : rightB n es rs = true ↔ RightP n es rs := by
  constructor
  · intro h
    have hm := right_may h
    unfold rightB at h
    rw [hm, Bool.true_and, Bool.and_eq_true, decide_eq_true_eq] at h
    obtain ⟨hl, h⟩ := h
    cases hq : rAll es rs rs.length with
    | none => rw [hq] at h; cases h
    | some s =>
      rw [hq] at h
      have hs := rAll_len hq
      obtain ⟨h1, h2⟩ := rAll_ok _ _ (Nat.le_refl _) hq
      refine ⟨hm, hl, fun x hx => (h1 x hx hx).2, fun x hx => (h1 x hx hx).1, fun k hk => ?_⟩
      have : s.getD k false = true := by
        cases hb : s.getD k false with
        | true => rfl
        | false =>
          have : false ∈ s := by
            rw [List.getD_eq_getElem?_getD, List.getElem?_eq_getElem (show k < s.length by omega)] at hb
            rw [← show s[k] = false from hb]
            exact List.getElem_mem _
          simp [this] at h
      obtain ⟨x, hx, _, hm⟩ := (h2 k).1 this
      exact ⟨x, hx, hm⟩
  · intro h
    have tot : ∀ k, k ≤ rs.length → ∃ s, rAll es rs k = some s := by
      intro k
      induction k with
      | zero => exact fun _ => ⟨_, rfl⟩
      | succ k ih =>
        intro hk
        obtain ⟨s, hs⟩ := ih (by omega)
        have hkl : k < rs.length := by omega
        obtain ⟨_, h2⟩ := rAll_ok k s (by omega) hs
        obtain ⟨s', hs'⟩ := rRow_total (es := es) (x := k) rs[k] s (rAll_len hs) (h.nd k hkl) (fun a ha => by
          obtain ⟨a1, a2, a3⟩ := h.at_ k hkl a ha
          refine ⟨a1, a2, a3, ?_⟩
          rw [← Bool.not_eq_true, h2]
          rintro ⟨x, hx, hxk, hm⟩
          have := (h.at_ x hx _ hm).2.2
          rw [show ((a.toNat : Nat) : Int).toNat = a.toNat from rfl, a3] at this
          omega)
        refine ⟨s', ?_⟩
        rw [rAll_succ, hs, List.getD_eq_getElem?_getD, List.getElem?_eq_getElem hkl]
        exact hs'
    obtain ⟨s, hs⟩ := tot _ (Nat.le_refl _)
    obtain ⟨_, h2⟩ := rAll_ok _ s (Nat.le_refl _) hs
    unfold rightB
    rw [h.may, decide_eq_true h.len, hs]
    have : false ∉ s := fun hm => by
      obtain ⟨k, hk, he⟩ := List.mem_iff_getElem.1 hm
      obtain ⟨x, hx, hmx⟩ := h.cov k (by rw [rAll_len hs] at hk; exact hk)
      have := (h2 k).2 ⟨x, hx, hx, hmx⟩
      rw [List.getD_eq_getElem?_getD, List.getElem?_eq_getElem hk, he] at this
      cases this
    simp [this]

/-- what nexts lays: behind a half edge's other half comes its list's next one -/
theorem getD_setI (s : List Int) (i j : Nat) (v : Int) (hi : i < s.length) : (s.set i v).getD j 0 = if j = i then v else s.getD j 0 := by
  rw [List.getD_eq_getElem?_getD, List.getElem?_set, List.getD_eq_getElem?_getD]
  by_cases h : i = j
  · subst h; simp [hi]
  · simp [h, Ne.symm h]
theorem nodup_inj {l : List Int} (h : l.Nodup) {i j : Nat} (hi : i < l.length) (hj : j < l.length) (e : l[i] = l[j]) : i = j := by
  have h := List.pairwise_iff_getElem.1 (List.nodup_iff_pairwise_ne.1 h)
  rcases Nat.lt_trichotomy i j with h1 | h1 | h1
  · exact absurd e (h i j hi hj h1)
  · exact h1
  · exact absurd e.symm (h j i hj hi h1)
theorem ot_inj {a b : Nat} (h : ot a = ot b) : a = b := by rw [← ot_ot a, h, ot_ot]
theorem nRow_at {l o : List Int} {m : Nat} (hm : o.length = 2 * m) (hnd : l.Nodup) (hin : ∀ a ∈ l, 0 ≤ a ∧ a < 2 * (m : Int)) : ∀ k, k ≤ l.length →
    (∀ i (hi : i < l.length), i < k → (nRow l o k).getD (ot l[i].toNat) 0 = l.getD ((i + 1) % l.length) 0) ∧ ∀ p, (∀ a ∈ l, p ≠ ot a.toNat) → (nRow l o k).getD p 0 = o.getD p 0
  | 0, _ => ⟨fun i _ hi => absurd hi (by omega), fun p _ => rfl⟩
  | k + 1, hk => by
    obtain ⟨h1, h2⟩ := nRow_at hm hnd hin k (by omega)
    have hkl : k < l.length := by omega
    have e : l.getD k 0 = l[k] := by rw [List.getD_eq_getElem?_getD, List.getElem?_eq_getElem hkl]; rfl
    obtain ⟨b1, b2⟩ := hin _ (List.getElem_mem hkl)
    have hlt : ot l[k].toNat < (nRow l o k).length := by rw [nRow_length, hm]; exact ot_lt (by omega)
    rw [nRow_succ]
    unfold nStep
    rw [e]
    refine ⟨fun i hi hik => ?_, fun p hp => ?_⟩
    · rw [getD_setI _ _ _ _ hlt]
      by_cases hie : i = k
      · subst hie; rw [if_pos rfl]
      · rw [if_neg]
        · exact h1 i hi (by omega)
        · intro he
          have he := ot_inj he
          obtain ⟨c1, c2⟩ := hin _ (List.getElem_mem hi)
          have : l[i] = l[k] := by omega
          exact hie (nodup_inj hnd hi hkl this)
    · rw [getD_setI _ _ _ _ hlt, if_neg (hp _ (List.getElem_mem hkl))]
      exact h2 p hp
theorem nexts_at {n : Int} {es : List (Int × Int)} {rs : List (List Int)} (h : RightP n es rs) {x i : Nat} (hx : x < rs.length) (hi : i < rs[x].length) :
    (nextsL es.length rs).getD (ot rs[x][i].toNat) 0 = rs[x][(i + 1) % rs[x].length]'(Nat.mod_lt _ (by omega)) := by
  have key : ∀ k, k ≤ rs.length → ∀ x (hx : x < rs.length), x < k → ∀ i (hi : i < rs[x].length), (nAll es.length rs k).getD (ot rs[x][i].toNat) 0 = rs[x].getD ((i + 1) % rs[x].length) 0 := by
    intro k
    induction k with
    | zero => exact fun _ x _ hx => absurd hx (by omega)
    | succ k ih =>
      intro hk x hx hxk i hi
      have hkl : k < rs.length := by omega
      obtain ⟨h1, h2⟩ := nRow_at (o := nAll es.length rs k) (nAll_length _ _ _) (h.nd k hkl) (fun a ha => ⟨(h.at_ k hkl a ha).1, (h.at_ k hkl a ha).2.1⟩) rs[k].length (Nat.le_refl _)
      rw [nAll_succ, List.getD_eq_getElem?_getD (l := rs), List.getElem?_eq_getElem hkl]
      show (nRow rs[k] (nAll es.length rs k) rs[k].length).getD _ 0 = _
      by_cases hxe : x = k
      · subst hxe; exact h1 i hi hi
      · rw [h2 _ (fun a ha he => ?_)]
        · exact ih (by omega) x hx (by omega) i hi
        · have he := ot_inj he
          have a1 := (h.at_ k hkl a ha).2.2
          have a2 := (h.at_ x hx _ (List.getElem_mem hi)).2.2
          rw [← he, a2] at a1
          omega
  have := key rs.length (Nat.le_refl _) x hx hx i hi
  unfold nextsL
  rw [this, List.getD_eq_getElem?_getD, List.getElem?_eq_getElem (Nat.mod_lt _ (by omega))]
  rfl
end Go.Proofs.Ythdifhfmgmmljaa
