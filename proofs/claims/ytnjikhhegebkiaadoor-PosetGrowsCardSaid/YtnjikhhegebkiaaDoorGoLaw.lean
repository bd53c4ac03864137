/-
  Plain law: the document's 'Go' finds just what can be reached. Written by an AI agent.
-/
import Derived.Test.YtnjikhhegebkiaaDoorGo
namespace Go.Proofs.YtnjikhhegebkiaaDoor
open Go.RowKit

def Leq (l l' : List Bool) : Prop := ∀ j, l.getD j false = true → l'.getD j false = true
theorem Leq.trans {a b c : List Bool} (h : Leq a b) (k : Leq b c) : Leq a c := fun j x => k j (h j x)
theorem Leq.refl (a : List Bool) : Leq a a := fun _ x => x
theorem Leq.antisymm {a b : List Bool} (h : Leq a b) (k : Leq b a) (hl : a.length = b.length) : a = b := by
  refine List.ext_getElem hl (fun j h1 h2 => ?_)
  have e1 := h j
  have e2 := k j
  simp only [List.getD_eq_getElem?_getD, List.getElem?_eq_getElem h1, List.getElem?_eq_getElem h2, Option.getD_some] at e1 e2
  cases ha : a[j] <;> cases hb : b[j] <;> simp_all
theorem count_le {l l' : List Bool} (hl : l.length = l'.length) (h : Leq l l') : l.count true ≤ l'.count true ∧ (l ≠ l' → l.count true < l'.count true) := by
  induction l generalizing l' with
  | nil => cases l' with
    | nil => simp
    | cons => simp at hl
  | cons a l ih =>
    cases l' with
    | nil => simp at hl
    | cons b l' =>
      have ih' := ih (l' := l') (by simpa using hl) (fun j x => by have := h (j + 1); simpa using this (by simpa using x))
      have h0 := h 0
      simp only [List.getD_cons_zero] at h0
      cases a <;> cases b <;> simp_all <;> omega

theorem getD_setB (U : List Bool) (t y : Nat) (x : Bool) : (U.set t x).getD y false = if t = y ∧ t < U.length then x else U.getD y false := by
  simp only [List.getD_eq_getElem?_getD, List.getElem?_set]
  by_cases h : t = y
  · subst h
    by_cases h2 : t < U.length
    · simp [h2]
    · simp [h2]
  · simp [h]

section
variable {both : Bool} {cnts : List Bool} {n : Nat} {es : List (Int × Int)}
theorem goStep_leq (U : List Bool) (i : Nat) : Leq U (goStep both cnts es U i) := by
  intro j hj
  unfold goStep
  generalize (es.getD i (0, 0)).1.toNat = t
  generalize (es.getD i (0, 0)).2.toNat = u
  split
  · rw [getD_setB]
    have e2 : (U.set u true).getD j false = true := by rw [getD_setB]; split <;> simp_all
    split
    · rename_i h; rw [h.1, e2]; rfl
    · exact e2
  · exact hj
theorem goPass_leq (U : List Bool) (k d : Nat) : Leq (goPass both cnts es U k) (goPass both cnts es U (k + d)) := by
  induction d with
  | zero => exact Leq.refl _
  | succ d ih => rw [← Nat.add_assoc, goPass_succ]; exact ih.trans (goStep_leq _ _)
theorem goPass_fix {U : List Bool} (h : goPass both cnts es U es.length = U) (i : Nat) (hi : i < es.length) : goStep both cnts es U i = U := by
  have at_ : ∀ k, k ≤ es.length → goPass both cnts es U k = U := by
    intro k hk
    refine Leq.antisymm ?_ ?_ (goPass_length ..)
    · have := goPass_leq (both := both) (cnts := cnts) (es := es) U k (es.length - k)
      rw [show k + (es.length - k) = es.length by omega, h] at this
      exact this
    · have := goPass_leq (both := both) (cnts := cnts) (es := es) U 0 k
      rw [Nat.zero_add] at this
      exact this
  have := at_ (i + 1) (by omega)
  rw [goPass_succ, at_ i (by omega)] at this
  exact this
theorem goN_fix (U : List Bool) (hU : 0 < U.count true) : goPass both cnts es (goN both cnts es U U.length) es.length = goN both cnts es U U.length := by
  have key : ∀ r, goPass both cnts es (goN both cnts es U r) es.length = goN both cnts es U r ∨ r + 1 ≤ (goN both cnts es U r).count true := by
    intro r
    induction r with
    | zero => right; exact hU
    | succ r ih =>
      rw [goN_succ]
      by_cases he : goPass both cnts es (goN both cnts es U r) es.length = goN both cnts es U r
      · left; rw [he, he]
      · right
        have h1 := ih.resolve_left he
        have h2 := (count_le (l := goN both cnts es U r) (l' := goPass both cnts es (goN both cnts es U r) es.length) (by rw [goPass_length]) (by
          have := goPass_leq (both := both) (cnts := cnts) (es := es) (goN both cnts es U r) 0 es.length
          rw [Nat.zero_add] at this; exact this)).2 (fun e => he e.symm)
        omega
  rcases key U.length with h | h
  · exact h
  · exfalso
    have := List.count_le_length (a := true) (l := goN both cnts es U U.length)
    rw [goN_length] at this
    omega

theorem goStep_sound {f : Nat} (hin : InN n es) (U : List Bool) (hU : ∀ y, U.getD y false = true → Star (Edge1 both (fun i => cnts.getD i false) es) f y) (i : Nat) (hi : i < es.length) :
    ∀ y, (goStep both cnts es U i).getD y false = true → Star (Edge1 both (fun i => cnts.getD i false) es) f y := by
  intro y hy
  obtain ⟨t, u, e, ht, hu⟩ := hin.at_ hi
  rw [goStep_is hi (t := t) (h := u) (by rw [e]) (by rw [e])] at hy
  split at hy
  · rename_i hc
    simp only [Bool.and_eq_true, Bool.or_eq_true] at hc
    obtain ⟨hc, had⟩ := hc
    have fwd : Edge1 both (fun i => cnts.getD i false) es t u := ⟨i, hi, hc, .inl e⟩
    have back : both = true → Edge1 both (fun i => cnts.getD i false) es u t := fun hb => ⟨i, hi, hc, .inr ⟨hb, e⟩⟩
    have su : Star (Edge1 both (fun i => cnts.getD i false) es) f u := by
      rcases had with ha | ⟨_, hd⟩
      · exact (hU t ha).trans (.one fwd)
      · exact hU u hd
    have hset : ∀ z, (U.set u true).getD z false = true → Star (Edge1 both (fun i => cnts.getD i false) es) f z := by
      intro z hz
      rw [getD_setB] at hz
      split at hz
      · rename_i h; rw [← h.1]; exact su
      · exact hU z hz
    rw [getD_setB] at hy
    split at hy
    · rename_i h
      rw [← h.1]
      simp only [Bool.or_eq_true] at hy
      rcases hy with hy | hb
      · exact hset t hy
      · exact su.trans (.one (back hb))
    · exact hset y hy
  · exact hU y hy

theorem goAll_iff {f : Nat} (hin : InN n es) (hf : f < n) (y : Nat) :
    (goAll both cnts es n f).getD y false = true ↔ Star (Edge1 both (fun i => cnts.getD i false) es) f y := by
  have hl0 : (goInit n f).length = n := by simp [goInit]
  have hi0 : ∀ y, (goInit n f).getD y false = true → f = y := by
    intro y h
    unfold goInit at h
    rw [getD_setB] at h
    split at h
    · rename_i h2; exact h2.1
    · rw [List.getD_eq_getElem?_getD, List.getElem?_replicate] at h
      split at h <;> simp at h
  have hf0 : (goInit n f).getD f false = true := by
    unfold goInit; rw [getD_setB, if_pos ⟨rfl, by simpa using hf⟩]
  constructor
  · have pass : ∀ U, (∀ y, U.getD y false = true → Star (Edge1 both (fun i => cnts.getD i false) es) f y) → ∀ k, k ≤ es.length → ∀ y, (goPass both cnts es U k).getD y false = true → Star (Edge1 both (fun i => cnts.getD i false) es) f y := by
      intro U hU k hk
      induction k with
      | zero => exact hU
      | succ k ih => rw [goPass_succ]; exact goStep_sound hin _ (ih (by omega)) k (by omega)
    have all : ∀ r y, (goN both cnts es (goInit n f) r).getD y false = true → Star (Edge1 both (fun i => cnts.getD i false) es) f y := by
      intro r
      induction r with
      | zero => intro y h; rw [← hi0 y h]; exact .refl _
      | succ r ih => rw [goN_succ]; exact pass _ ih _ (Nat.le_refl _)
    exact all n y
  · intro h
    have hfix := goN_fix (both := both) (cnts := cnts) (es := es) (goInit n f) (by
      rw [List.count_pos_iff]
      rw [List.getD_eq_getElem?_getD, List.getElem?_eq_getElem (by rw [hl0]; exact hf)] at hf0
      exact List.mem_of_getElem hf0)
    rw [hl0] at hfix
    have hst := fun i hi => goPass_fix hfix i hi
    have hmono : ∀ r, Leq (goInit n f) (goN both cnts es (goInit n f) r) := by
      intro r
      induction r with
      | zero => exact Leq.refl _
      | succ r ih =>
        rw [goN_succ]
        have := goPass_leq (both := both) (cnts := cnts) (es := es) (goN both cnts es (goInit n f) r) 0 es.length
        rw [Nat.zero_add] at this
        exact ih.trans this
    have hF : (goAll both cnts es n f).getD f false = true := hmono n f hf0
    have hlF : (goN both cnts es (goInit n f) n).length = n := by rw [goN_length, hl0]
    refine Star.inv (P := fun y => (goAll both cnts es n f).getD y false = true) ?_ h hF
    intro x z ⟨i, hi, hc, hxz⟩ hx
    replace hc : cnts.getD i false = true := hc
    have hs := hst i hi
    obtain ⟨t, u, e, ht, hu⟩ := hin.at_ hi
    rw [goStep_is hi (t := t) (h := u) (by rw [e]) (by rw [e])] at hs
    unfold goAll at hx ⊢
    generalize goN both cnts es (goInit n f) n = V at *
    rw [e] at hxz
    rcases hxz with h1 | ⟨hb, h1⟩
    · simp only [Prod.mk.injEq] at h1
      obtain rfl : t = x := by omega
      obtain rfl : u = z := by omega
      rw [if_pos (by rw [hc, hx]; rfl)] at hs
      rw [← hs, getD_setB]
      have e2 : (V.set u true).getD u false = true := by rw [getD_setB, if_pos ⟨rfl, by omega⟩]
      split
      · rename_i h; rw [h.1, e2]; rfl
      · exact e2
    · simp only [Prod.mk.injEq] at h1
      obtain rfl : t = z := by omega
      obtain rfl : u = x := by omega
      rw [if_pos (by rw [hc, hx, hb]; simp)] at hs
      rw [← hs, getD_setB, if_pos ⟨rfl, by simp; omega⟩, hb]
      simp
end
end Go.Proofs.YtnjikhhegebkiaaDoor
