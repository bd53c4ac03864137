/-
  Plain laws of chapter 3: what one edge more does. Written by an AI agent.
-/
import Derived.Test.YthdifhfmgmmljaaSpeaks
namespace Go.Proofs.Ythdifhfmgmmljaa
open Go.RowKit

theorem star_more {E F : Nat → Nat → Prop} {p q : Nat} (hF : ∀ x y, F x y ↔ E x y ∨ (x = p ∧ y = q)) (i y : Nat) : Star F i y ↔ Star E i y ∨ (Star E i p ∧ Star E q y) := by
  constructor
  · intro h
    induction h with
    | refl x => exact .inl (.refl _)
    | head e _ ih =>
      rcases (hF _ _).1 e with h1 | ⟨rfl, rfl⟩
      · rcases ih with h2 | ⟨h2, h3⟩
        · exact .inl (.head h1 h2)
        · exact .inr ⟨.head h1 h2, h3⟩
      · rcases ih with h2 | ⟨_, h3⟩
        · exact .inr ⟨.refl _, h2⟩
        · exact .inr ⟨.refl _, h3⟩
  · intro h
    have hm : ∀ x y, E x y → F x y := fun x y e => (hF x y).2 (.inl e)
    rcases h with h | ⟨h1, h2⟩
    · exact h.mono hm
    · exact (h1.mono hm).trans (.head ((hF p q).2 (.inr ⟨rfl, rfl⟩)) (h2.mono hm))

theorem edge_snoc {es : List (Int × Int)} {p q : Nat} (x y : Nat) : Edge1 false (fun _ => true) (es ++ [((p : Int), (q : Int))]) x y ↔ Edge1 false (fun _ => true) es x y ∨ (x = p ∧ y = q) := by
  constructor
  · rintro ⟨i, hi, _, h⟩
    simp only [Bool.false_eq_true, false_and, or_false] at h
    by_cases hlt : i < es.length
    · rw [List.getElem_append_left hlt] at h
      exact .inl ⟨i, hlt, rfl, .inl h⟩
    · rw [List.getElem_append_right (by omega)] at h
      simp only [List.getElem_singleton, Prod.mk.injEq] at h
      exact .inr ⟨by omega, by omega⟩
  · rintro (⟨i, hi, _, h⟩ | ⟨rfl, rfl⟩)
    · simp only [Bool.false_eq_true, false_and, or_false] at h
      exact ⟨i, by simp; omega, rfl, .inl (by rw [List.getElem_append_left hi]; exact h)⟩
    · exact ⟨es.length, by simp, rfl, .inl (by simp)⟩

theorem InN.snoc {n : Nat} {es : List (Int × Int)} (h : InN n es) {p q : Nat} (hp : p < n) (hq : q < n) : InN n (es ++ [((p : Int), (q : Int))]) := by
  intro e he
  rcases List.mem_append.1 he with h1 | h1
  · exact h e h1
  · simp only [List.mem_singleton] at h1
    subst h1
    simp only
    omega
theorem InN.may {n : Nat} {es : List (Int × Int)} (h : InN n es) (h0 : 0 < n) (h1 : n ≤ 64) (h2 : es.length ≤ 128) : mayB n es = true := by
  simp only [mayB, Bool.and_eq_true, decide_eq_true_eq, Bool.not_eq_true', anyB, List.any_eq_false, List.mem_range]
  refine ⟨⟨⟨by omega, by omega⟩, h2⟩, fun i hi => ?_⟩
  obtain ⟨a, b, c, d⟩ := h es[i] (List.getElem_mem hi)
  simp [hi, badE, outB]
  omega

theorem setHas_bit {s x n : Nat} (hx : x < n) (hn : n ≤ 64) : setHas s x = s.testBit x := by
  unfold setHas
  rw [decide_eq_true (by omega), decide_eq_true (by omega)]
  simp

theorem grows_law {n p q : Nat} {es : List (Int × Int)} {T T2 : List Nat} (hin : InN n es) (hn : n ≤ 64) (hp : p < n) (hq : q < n) (hT : Grown1 false (fun _ => true) n es T) (hT2 : Grown1 false (fun _ => true) n (es ++ [((p : Int), (q : Int))]) T2)
    {i : Nat} (hi : i < n) : T2.getD i 0 = (if setHas (T.getD i 0) p then T.getD i 0 ||| T.getD q 0 else T.getD i 0) ∧ setHas (T.getD i 0) i = true := by
  obtain ⟨_, h1⟩ := grown_iff hin hT
  obtain ⟨_, h2⟩ := grown_iff (hin.snoc hp hq) hT2
  have hself : setHas (T.getD i 0) i = true := by rw [setHas_bit hi hn, h1 i hi]; exact .refl _
  refine ⟨Nat.eq_of_testBit_eq fun y => ?_, hself⟩
  rw [Bool.eq_iff_iff, h2 i hi, star_more edge_snoc]
  rw [setHas_bit hp hn]
  by_cases hb : (T.getD i 0).testBit p = true
  · rw [if_pos hb, Nat.testBit_or, Bool.or_eq_true, h1 i hi, h1 q hq]
    rw [h1 i hi] at hb
    exact ⟨fun h => h.imp id (·.2), fun h => h.imp id fun k => ⟨hb, k⟩⟩
  · rw [if_neg hb, h1 i hi]
    rw [h1 i hi] at hb
    exact ⟨fun h => h.resolve_right fun k => hb k.1, .inl⟩
end Go.Proofs.Ythdifhfmgmmljaa
