/-
  Plain laws of reaching: ways along edges that count; what 'grow' leaves is what can be reached. Written by an AI agent.
-/
import Derived.Test.YtnjikhhegebkiaaDoorReach
namespace Go.Proofs.YtnjikhhegebkiaaDoor
open Go.RowKit

/-- a way of any number of steps -/
inductive Star (E : Nat → Nat → Prop) : Nat → Nat → Prop where
  | refl (x : Nat) : Star E x x
  | head {x y z : Nat} (h : E x y) (r : Star E y z) : Star E x z
theorem Star.trans {E : Nat → Nat → Prop} {x y z : Nat} (h : Star E x y) (k : Star E y z) : Star E x z := by
  induction h with
  | refl => exact k
  | head e _ ih => exact .head e (ih k)
theorem Star.one {E : Nat → Nat → Prop} {x y : Nat} (h : E x y) : Star E x y := .head h (.refl _)
theorem Star.mono {E F : Nat → Nat → Prop} (hEF : ∀ x y, E x y → F x y) {x y : Nat} (h : Star E x y) : Star F x y := by
  induction h with
  | refl => exact .refl _
  | head e _ ih => exact .head (hEF _ _ e) ih
theorem Star.sym {E : Nat → Nat → Prop} (hs : ∀ x y, E x y → E y x) {x y : Nat} (h : Star E x y) : Star E y x := by
  induction h with
  | refl => exact .refl _
  | head e _ ih => exact ih.trans (.one (hs _ _ e))
theorem Star.inv {E : Nat → Nat → Prop} {P : Nat → Prop} (hP : ∀ x y, E x y → P x → P y) {x y : Nat} (h : Star E x y) (hx : P x) : P y := by
  induction h with
  | refl => exact hx
  | head e _ ih => exact ih (hP _ _ e hx)

/-- one step along an edge that counts (both ways, or from tail to head) -/
def Edge1 (both : Bool) (cnt : Nat → Bool) (es : List (Int × Int)) (x y : Nat) : Prop :=
  ∃ i, ∃ h : i < es.length, cnt i = true ∧ (es[i] = ((x : Int), (y : Int)) ∨ both = true ∧ es[i] = ((y : Int), (x : Int)))

def InN (n : Nat) (es : List (Int × Int)) : Prop := ∀ e ∈ es, 0 ≤ e.1 ∧ e.1 < n ∧ 0 ≤ e.2 ∧ e.2 < n
theorem InN.at_ {n : Nat} {es : List (Int × Int)} (h : InN n es) {i : Nat} (hi : i < es.length) : ∃ t u : Nat, es[i] = ((t : Int), (u : Int)) ∧ t < n ∧ u < n := by
  obtain ⟨a, b, c, d⟩ := h es[i] (List.getElem_mem hi)
  refine ⟨es[i].1.toNat, es[i].2.toNat, ?_, by omega, by omega⟩
  apply Prod.ext <;> simp <;> omega
theorem Edge1.lt {both : Bool} {cnt : Nat → Bool} {n : Nat} {es : List (Int × Int)} (hin : InN n es) {x y : Nat} (h : Edge1 both cnt es x y) : x < n ∧ y < n := by
  obtain ⟨i, hi, _, h⟩ := h
  obtain ⟨t, u, e, ht, hu⟩ := hin.at_ hi
  rw [e] at h
  rcases h with h | ⟨_, h⟩ <;> simp only [Prod.mk.injEq] at h <;> omega

theorem eachL_bit (n x y : Nat) (hx : x < n) : ((eachL n).getD x 0).testBit y = decide (x = y) := by
  have e : (eachL n).getD x 0 = 2 ^ x := by simp [eachL, hx, Nat.shiftLeft_eq]
  rw [e, Nat.testBit_two_pow]

theorem getD_set_eq (U : List Nat) (t x y : Nat) (h : t < U.length) : (U.set t x).getD y 0 = if t = y then x else U.getD y 0 := by
  simp only [List.getD_eq_getElem?_getD, List.getElem?_set]
  split
  · subst_vars; simp
  · rfl

theorem grown_iff {both : Bool} {cnt : Nat → Bool} {n : Nat} {es : List (Int × Int)} {T : List Nat} (hin : InN n es) (h : Grown1 both cnt n es T) :
    T.length = n ∧ ∀ x, x < n → ∀ y, (T.getD x 0).testBit y = true ↔ Star (Edge1 both cnt es) x y := by
  obtain ⟨hok, hto, hfix⟩ := h
  have hl : T.length = n := by rw [hok.len, eachL_length]
  refine ⟨hl, ?_⟩
  have sound : T.length = n ∧ ∀ x, x < n → ((T.getD x 0).testBit x = true ∧ ∀ y, (T.getD x 0).testBit y = true → Star (Edge1 both cnt es) x y) := by
    refine hto (fun T => T.length = n ∧ ∀ x, x < n → ((T.getD x 0).testBit x = true ∧ ∀ y, (T.getD x 0).testBit y = true → Star (Edge1 both cnt es) x y)) ⟨eachL_length n, fun x hx => ?_⟩ ?_
    · rw [eachL_bit n x x hx]
      refine ⟨by simp, fun y hy => ?_⟩
      rw [eachL_bit n x y hx] at hy
      have : x = y := by simpa using hy
      subst this; exact .refl _
    · intro U i hi ⟨hUl, hU⟩
      cases hc : cnt i with
      | false => rw [growStep_skip hc]; exact ⟨hUl, hU⟩
      | true =>
        obtain ⟨t, u, e, ht, hu⟩ := hin.at_ hi
        rw [growStep_is hi hc (t := t) (h := u) (by rw [e]) (by rw [e])]
        refine ⟨by simp [hUl], fun x hx => ?_⟩
        have e1 : Edge1 both cnt es t u := ⟨i, hi, hc, .inl e⟩
        have ht' := hU t ht
        have hu' := hU u hu
        have hx' := hU x hx
        rw [getD_set_eq _ _ _ _ (by simp [hUl, hu]), getD_set_eq _ _ _ _ (by rw [hUl]; exact ht)]
        have tu : ∀ y, (U.getD t 0 ||| U.getD u 0).testBit y = true → Star (Edge1 both cnt es) t y := by
          intro y hy
          rw [Nat.testBit_or, Bool.or_eq_true] at hy
          exact hy.elim (ht'.2 y) (fun h => .head e1 (hu'.2 y h))
        by_cases hxu : u = x
        · subst hxu
          rw [if_pos rfl]
          cases both with
          | false => exact hu'
          | true =>
            simp only [if_true]
            refine ⟨by rw [Nat.testBit_or, hu'.1]; simp, fun y hy => ?_⟩
            exact .head ⟨i, hi, hc, .inr ⟨rfl, e⟩⟩ (tu y hy)
        · rw [if_neg hxu]
          by_cases hxt : t = x
          · subst hxt
            rw [if_pos rfl]
            exact ⟨by rw [Nat.testBit_or, ht'.1]; simp, tu⟩
          · rw [if_neg hxt]; exact hx'
  -- at the end each edge's head's set is within its tail's
  have sub : ∀ x y, Edge1 both cnt es x y → ∀ z, (T.getD y 0).testBit z = true → (T.getD x 0).testBit z = true := by
    intro x y ⟨i, hi, hc, hxy⟩ z hz
    have hf := hfix i hi
    obtain ⟨t, u, e, ht, hu⟩ := hin.at_ hi
    rw [growStep_is hi hc (t := t) (h := u) (by rw [e]) (by rw [e])] at hf
    have at_ : ∀ k, (if u = k then (if both then T.getD t 0 ||| T.getD u 0 else T.getD u 0) else if t = k then T.getD t 0 ||| T.getD u 0 else T.getD k 0) = T.getD k 0 := by
      intro k
      rw [← getD_set_eq _ _ _ _ (by rw [hl]; exact ht), ← getD_set_eq _ _ _ _ (by simp [hl, hu]), hf]
    have hT : t ≠ u → T.getD t 0 ||| T.getD u 0 = T.getD t 0 := by
      intro hne
      have := at_ t
      rw [if_neg (fun h => hne h.symm), if_pos rfl] at this
      exact this
    have hTall : (T.getD u 0).testBit z = true → (T.getD t 0).testBit z = true := by
      intro h
      by_cases hne : t = u
      · subst hne; exact h
      · rw [← hT hne, Nat.testBit_or, h]; simp
    rw [e] at hxy
    rcases hxy with h | ⟨hb, h⟩
    · simp only [Prod.mk.injEq] at h
      obtain rfl : t = x := by omega
      obtain rfl : u = y := by omega
      exact hTall hz
    · simp only [Prod.mk.injEq] at h
      obtain rfl : t = y := by omega
      obtain rfl : u = x := by omega
      have := at_ u
      rw [if_pos rfl, if_pos hb] at this
      rw [← this, Nat.testBit_or, hz]; simp
  intro x hx y
  refine ⟨(sound.2 x hx).2 y, fun h => ?_⟩
  clear hto hfix
  induction h with
  | refl x => exact (sound.2 x hx).1
  | head e _ ih => exact sub _ _ e _ (ih (e.lt hin).2)
end Go.Proofs.YtnjikhhegebkiaaDoor
