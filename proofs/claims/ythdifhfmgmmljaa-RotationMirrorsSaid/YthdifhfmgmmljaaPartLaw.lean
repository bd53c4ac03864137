/-
  Plain law of chapter 3: the parts that the program tells are the document's. Written by an AI agent.
-/
import Derived.Test.YthdifhfmgmmljaaReachLaw
namespace Go.Proofs.Ythdifhfmgmmljaa
open Go.RowKit

theorem from_tells {n : Nat} {es : List (Int × Int)} {T : List Nat} (hin : InN n es) (hn : n ≤ 64) (hT : Grown1 false (fun _ => true) n es T) {x y : Nat} (hx : x < n) (hy : y < n) :
    setHas (T.getD x 0) y = (goAll false (List.replicate es.length true) es n x).getD y false := by
  obtain ⟨_, h1⟩ := grown_iff hin hT
  rw [setHas_bit hy hn, Bool.eq_iff_iff, h1 x hx, goAll_iff hin hx]
  exact Star.congr fun i hi => by simp [hi]

theorem grown_lt {both : Bool} {cnt : Nat → Bool} {n : Nat} {es : List (Int × Int)} {T : List Nat} (hin : InN n es) (hT : Grown1 both cnt n es T) {x y : Nat} (hx : x < n) (h : (T.getD x 0).testBit y = true) : y < n := by
  obtain ⟨_, h1⟩ := grown_iff hin hT
  rw [h1 x hx] at h
  exact Star.inv (P := fun z => z < n) (fun _ _ e _ => (e.lt hin).2) h hx
theorem grown_small {both : Bool} {cnt : Nat → Bool} {n : Nat} {es : List (Int × Int)} {T : List Nat} (hin : InN n es) (hT : Grown1 both cnt n es T) {x : Nat} (hx : x < n) : T.getD x 0 < 2 ^ n :=
  Nat.lt_pow_two_of_testBit _ fun i hi => by
    cases h : (T.getD x 0).testBit i with
    | false => rfl
    | true => exact absurd (grown_lt hin hT hx h) (by omega)

theorem lst_spec (seen : List Bool) (n j : Nat) (hj : j ≤ n) : (∃ y : Nat, n - j ≤ y ∧ y < n ∧ seen.getD y false = true ∧ lst seen true n j = y ∧ ∀ z, n - j ≤ z → z < y → seen.getD z false = false) ∨ (lst seen true n j = -1 ∧ ∀ z, n - j ≤ z → z < n → seen.getD z false = false) := by
  induction j with
  | zero => exact .inr ⟨rfl, fun z h1 h2 => by omega⟩
  | succ j ih =>
    have e : n - 1 - j = n - (j + 1) := by omega
    cases hs : seen.getD (n - (j + 1)) false with
    | true =>
      refine .inl ⟨n - (j + 1), Nat.le_refl _, by omega, hs, ?_, fun z h1 h2 => by omega⟩
      unfold lst; rw [e, hs]; rfl
    | false =>
      have e2 : lst seen true n (j + 1) = lst seen true n j := by
        conv => lhs; unfold lst
        rw [e, hs]; rfl
      rw [e2]
      rcases ih (by omega) with ⟨y, h1, h2, h3, h4, h5⟩ | ⟨h1, h2⟩
      · refine .inl ⟨y, by omega, h2, h3, h4, fun z g1 g2 => ?_⟩
        by_cases hz : z = n - (j + 1)
        · rw [hz]; exact hs
        · exact h5 z (by omega) g2
      · refine .inr ⟨h1, fun z g1 g2 => ?_⟩
        by_cases hz : z = n - (j + 1)
        · rw [hz]; exact hs
        · exact h2 z (by omega) g2
theorem lst_no (seen : List Bool) (n j : Nat) : lst seen false n j = -1 := by
  induction j with
  | zero => rfl
  | succ j ih => unfold lst; simp [ih]

section
variable {n : Nat} {es : List (Int × Int)} {wo : Nat} {woL : List Bool}

/-- of one part -/
def Kin (wo : Nat) (es : List (Int × Int)) : Nat → Nat → Prop := Star (Edge1 true (withoutB wo es) es)
theorem Edge1.symm {cnt : Nat → Bool} {x y : Nat} (h : Edge1 true cnt es x y) : Edge1 true cnt es y x := by
  obtain ⟨i, hi, hc, h⟩ := h
  exact ⟨i, hi, hc, h.elim (fun e => .inr ⟨rfl, e⟩) (fun e => .inl e.2)⟩
theorem Kin.symm {x y : Nat} (h : Kin wo es x y) : Kin wo es y x := Star.sym (fun _ _ e => e.symm) h
theorem edge_wo (hin : InN n es) (hn : n ≤ 64) {x y : Nat} (h : Edge1 true (withoutB wo es) es x y) : wo.testBit x = false ∧ wo.testBit y = false := by
  obtain ⟨i, hi, hc, h⟩ := h
  obtain ⟨t, u, e, ht, hu⟩ := hin.at_ hi
  have e0 : es.getD i (0, 0) = ((t : Int), (u : Int)) := by simp [hi, e]
  unfold withoutB at hc
  rw [e0] at hc
  simp only [Bool.and_eq_true, Bool.not_eq_true', setHas_bit ht hn, setHas_bit hu hn] at hc
  rw [e] at h
  rcases h with h | ⟨_, h⟩ <;> simp only [Prod.mk.injEq] at h
  · obtain rfl : t = x := by omega
    obtain rfl : u = y := by omega
    exact hc
  · obtain rfl : t = y := by omega
    obtain rfl : u = x := by omega
    exact ⟨hc.2, hc.1⟩
/-- who is without is alone -/
theorem kin_wo (hin : InN n es) (hn : n ≤ 64) {x y : Nat} (h : Kin wo es x y) (hx : wo.testBit x = true) : x = y := by
  cases h with
  | refl => rfl
  | head e _ => have := (edge_wo hin hn e).1; rw [hx] at this; cases this

theorem done_iff {T : List Nat} (hin : InN n es) (hn : n ≤ 64) (hT : Grown1 true (withoutB wo es) n es T) (x : Nat) (hx : x ≤ n) (y : Nat) (hy : y < n) :
    setHas (partsUpto T wo x).2 y = true ↔ wo.testBit y = true ∨ ∃ z, z < x ∧ wo.testBit z = false ∧ Kin wo es z y := by
  obtain ⟨_, h1⟩ := grown_iff hin hT
  induction x with
  | zero =>
    rw [setHas_bit hy hn]
    exact ⟨.inl, fun h => h.resolve_right fun ⟨z, hz, _⟩ => by omega⟩
  | succ x ih =>
    have ih := ih (by omega)
    have ihx : setHas (partsUpto T wo x).2 x = true ↔ wo.testBit x = true ∨ ∃ z, z < x ∧ wo.testBit z = false ∧ Kin wo es z x := by
      clear ih
      -- the same at x: by the induction over x, at y = x
      have key : ∀ k, k ≤ x → ∀ y, y < n → (setHas (partsUpto T wo k).2 y = true ↔ wo.testBit y = true ∨ ∃ z, z < k ∧ wo.testBit z = false ∧ Kin wo es z y) := by
        intro k
        induction k with
        | zero =>
          intro _ y hy
          rw [setHas_bit hy hn]
          exact ⟨.inl, fun h => h.resolve_right fun ⟨z, hz, _⟩ => by omega⟩
        | succ k ihk =>
          intro hk y hy
          have a1 := ihk (by omega) y hy
          have a2 := ihk (by omega) k (by omega)
          rw [partsUpto_succ']
          by_cases hd : setHas (partsUpto T wo k).2 k = true
          · rw [if_pos hd]
            refine a1.trans ⟨fun h => h.imp id fun ⟨z, hz, r⟩ => ⟨z, by omega, r⟩, fun h => ?_⟩
            rcases h with h | ⟨z, hz, hw, hk2⟩
            · exact .inl h
            · by_cases hzk : z = k
              · subst hzk
                rcases a2.1 hd with h3 | ⟨z', hz', hw', hk'⟩
                · rw [hw] at h3; cases h3
                · exact .inr ⟨z', hz', hw', hk'.trans hk2⟩
              · exact .inr ⟨z, by omega, hw, hk2⟩
          · rw [if_neg hd]
            have hb : setHas ((partsUpto T wo k).2 ||| T.getD k 0) y = (setHas (partsUpto T wo k).2 y || (T.getD k 0).testBit y) := by
              rw [setHas_bit hy hn, setHas_bit hy hn, Nat.testBit_or]
            simp only [hb, Bool.or_eq_true, h1 k (by omega)]
            constructor
            · rintro (h | h)
              · exact (a1.1 h).imp id fun ⟨z, hz, r⟩ => ⟨z, by omega, r⟩
              · refine .inr ⟨k, by omega, ?_, h⟩
                cases hwk : wo.testBit k with
                | false => rfl
                | true => exact absurd (a2.2 (.inl hwk)) hd
            · rintro (h | ⟨z, hz, hw, hk2⟩)
              · exact .inl (a1.2 (.inl h))
              · by_cases hzk : z = k
                · subst hzk; exact .inr hk2
                · exact .inl (a1.2 (.inr ⟨z, by omega, hw, hk2⟩))
      exact key x (Nat.le_refl _) x (by omega)
    rw [partsUpto_succ']
    by_cases hd : setHas (partsUpto T wo x).2 x = true
    · rw [if_pos hd]
      refine ih.trans ⟨fun h => h.imp id fun ⟨z, hz, r⟩ => ⟨z, by omega, r⟩, fun h => ?_⟩
      rcases h with h | ⟨z, hz, hw, hk2⟩
      · exact .inl h
      · by_cases hzk : z = x
        · subst hzk
          rcases ihx.1 hd with h3 | ⟨z', hz', hw', hk'⟩
          · rw [hw] at h3; cases h3
          · exact .inr ⟨z', hz', hw', hk'.trans hk2⟩
        · exact .inr ⟨z, by omega, hw, hk2⟩
    · rw [if_neg hd]
      have hb : setHas ((partsUpto T wo x).2 ||| T.getD x 0) y = (setHas (partsUpto T wo x).2 y || (T.getD x 0).testBit y) := by
        rw [setHas_bit hy hn, setHas_bit hy hn, Nat.testBit_or]
      simp only [hb, Bool.or_eq_true, h1 x (by omega)]
      constructor
      · rintro (h | h)
        · exact (ih.1 h).imp id fun ⟨z, hz, r⟩ => ⟨z, by omega, r⟩
        · refine .inr ⟨x, by omega, ?_, h⟩
          cases hwk : wo.testBit x with
          | false => rfl
          | true => exact absurd (ihx.2 (.inl hwk)) hd
      · rintro (h | ⟨z, hz, hw, hk2⟩)
        · exact .inl (ih.2 (.inl h))
        · by_cases hzk : z = x
          · subst hzk; exact .inr hk2
          · exact .inl (ih.2 (.inr ⟨z, by omega, hw, hk2⟩))

/-- the document's part of a vertex: the least of its kin -/
theorem rpart_iff (hin : InN n es) (hn : n ≤ 64) (hwl : ∀ x, x < n → woL.getD x false = wo.testBit x) {x : Nat} (hx : x < n) (z : Nat) (hz : z < n) :
    rpart woL es n x = z ↔ wo.testBit x = false ∧ Kin wo es x z ∧ ∀ y, y < z → ¬ Kin wo es x y := by
  have hseen : ∀ y, (goAll true (cntsWo woL es) es n x).getD y false = true ↔ Kin wo es x y := by
    intro y
    rw [goAll_iff hin hx]
    refine Star.congr fun i hi => ?_
    obtain ⟨t, u, e, ht, hu⟩ := hin.at_ hi
    have e0 : es.getD i (0, 0) = ((t : Int), (u : Int)) := by simp [hi, e]
    have e1 : (cntsWo woL es).getD i false = rwoB woL es i := by simp [cntsWo, hi]
    rw [e1]
    unfold rwoB withoutB
    rw [e0, setHas_bit ht hn, setHas_bit hu hn]
    show (!woL.getD t false && !woL.getD u false) = _
    rw [hwl t ht, hwl u hu]
  unfold rpart
  rw [hwl x hx]
  cases hw : wo.testBit x with
  | true =>
    rw [show (!true) = false from rfl, lst_no]
    exact ⟨fun h => by omega, fun h => by cases h.1⟩
  | false =>
    rw [show (!false) = true from rfl]
    rcases lst_spec (goAll true (cntsWo woL es) es n x) n n (Nat.le_refl _) with ⟨y, _, hy, hs, he, hmin⟩ | ⟨he, hno⟩
    · rw [he]
      constructor
      · intro h
        obtain rfl : y = z := by omega
        refine ⟨rfl, (hseen y).1 hs, fun k hk hkin => ?_⟩
        have := hmin k (by omega) hk
        rw [(hseen k).2 hkin] at this
        cases this
      · rintro ⟨_, hkin, hz2⟩
        have h1 : ¬ z < y := fun h => by
          have := hmin z (by omega) h
          rw [(hseen z).2 hkin] at this
          cases this
        have h2 : ¬ y < z := fun h => hz2 y h ((hseen y).1 hs)
        omega
    · exfalso
      have := hno x (by omega) hx
      rw [(hseen x).2 (.refl _)] at this
      cases this

/-- what the law asks of each vertex -/
theorem part_law {T : List Nat} (hin : InN n es) (hn : n ≤ 64) (hT : Grown1 true (withoutB wo es) n es T) (hwl : ∀ x, x < n → woL.getD x false = wo.testBit x) {x : Nat} (hx : x < n) :
    (rpart woL es n x = x ↔ setHas (partsUpto T wo x).2 x = false) ∧
    (rpart woL es n x = x → ∀ y : Nat, y < 64 → setHas (T.getD x 0) y = (decide (y < n) && decide (rpart woL es n y = x))) := by
  obtain ⟨_, h1⟩ := grown_iff hin hT
  have hr := rpart_iff (woL := woL) hin hn hwl hx x hx
  refine ⟨?_, fun hxx y hy => ?_⟩
  · rw [hr, ← Bool.not_eq_true (setHas _ _), done_iff hin hn hT x (by omega) x hx]
    constructor
    · rintro ⟨hw, _, hmin⟩ (h | ⟨z, hz, _, hk⟩)
      · rw [hw] at h; cases h
      · exact hmin z hz hk.symm
    · intro h
      have hw : wo.testBit x = false := by
        cases hw : wo.testBit x with
        | false => rfl
        | true => exact absurd (.inl hw) h
      refine ⟨hw, .refl _, fun z hz hk => h (.inr ⟨z, hz, ?_, hk.symm⟩)⟩
      cases hwz : wo.testBit z with
      | false => rfl
      | true => have := kin_wo hin hn hk.symm hwz; omega
  · obtain ⟨hw, _, hmin⟩ := hr.1 hxx
    have hb : setHas (T.getD x 0) y = (T.getD x 0).testBit y := by
      unfold setHas
      rw [decide_eq_true (by omega), decide_eq_true (by omega)]
      simp
    rw [hb]
    by_cases hyn : y < n
    · rw [decide_eq_true hyn, Bool.true_and, Bool.eq_iff_iff, decide_eq_true_eq, h1 x hx, rpart_iff hin hn hwl hyn x hx]
      constructor
      · intro hk
        refine ⟨?_, Kin.symm hk, fun z hz hkz => hmin z hz (Star.trans hk hkz)⟩
        cases hwy : wo.testBit y with
        | false => rfl
        | true =>
          have := kin_wo hin hn (Kin.symm hk) hwy
          subst this; rw [hw] at hwy; cases hwy
      · rintro ⟨_, hk, _⟩
        exact Kin.symm hk
    · rw [decide_eq_false hyn, Bool.false_and]
      cases hb2 : (T.getD x 0).testBit y with
      | false => rfl
      | true => exact absurd (grown_lt hin hT hx hb2) hyn

/-- the list only grows -/
theorem partsUpto_more (T : List Nat) (wo k d : Nat) : ∃ r, (partsUpto T wo (k + d)).1 = (partsUpto T wo k).1 ++ r := by
  induction d with
  | zero => exact ⟨[], by simp⟩
  | succ d ih =>
    obtain ⟨r, hr⟩ := ih
    rw [← Nat.add_assoc, partsUpto_succ']
    split
    · exact ⟨r, hr⟩
    · exact ⟨r ++ [T.getD (k + d) 0], by simp only; rw [hr, List.append_assoc]⟩
end
end Go.Proofs.Ythdifhfmgmmljaa
