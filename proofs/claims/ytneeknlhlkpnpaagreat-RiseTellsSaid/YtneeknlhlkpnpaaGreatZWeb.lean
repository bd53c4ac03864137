import Derived.Test.YtneeknlhlkpnpaaGreatZAng0
import Derived.Test.YtneeknlhlkpnpaaGreatZFit2
import Derived.Laws.IdiomCopy
import Derived.Lib.SliceRun
import Derived.Test.YtneeknlhlkpnpaaGreatZChks
import Derived.Test.YtneeknlhlkpnpaaGreatZOrdm
/-
 Leaders: finding with halved ways, and joining (plain law). Written by an AI agent.
-/
namespace Go.Proofs.YtneeknlhlkpnpaaGreat
open Go.RowKit
section
variable {l : List Int}
end
end Go.Proofs.YtneeknlhlkpnpaaGreat
namespace Go.Proofs.YtneeknlhlkpnpaaGreat
open Go.RowKit
end Go.Proofs.YtneeknlhlkpnpaaGreat
namespace Go.Proofs.YtneeknlhlkpnpaaGreat
open Go.RowKit
end Go.Proofs.YtneeknlhlkpnpaaGreat
namespace Go.Proofs.YtneeknlhlkpnpaaGreat
open Go.RowKit
abbrev Quad := Nat × Nat × Nat × Nat
end Go.Proofs.YtneeknlhlkpnpaaGreat
namespace Go.Proofs.YtneeknlhlkpnpaaGreat
open Go.RowKit
section
variable {L : Nat} {ro : Nat → Nat} {a b : Nat}
end
section
variable {F N : Nat} {H : List Quad}
def leads (ro : Nat → Nat) (F : Nat) : List Nat := (List.range F).filter fun f => decide (ro f = f)
end
end Go.Proofs.YtneeknlhlkpnpaaGreat
namespace Go.Proofs.YtneeknlhlkpnpaaGreat
open Go.RowKit
noncomputable def faskB (n : Int) (es : List (Int × Int)) (rs : List (List Int)) : Bool := goodB n es && (rightB n es rs && decide (gen n es rs = 0))
end Go.Proofs.YtneeknlhlkpnpaaGreat
namespace Go.Proofs.YtneeknlhlkpnpaaGreat
open Go.RowKit
theorem good_conn {N : Nat} {es : List (Int × Int)} (h : GoodP N es) : ∃ s, s < N ∧ ∀ x, x < N → Q es es.length s x := by
 have hin := may_inN h.may
 have ho := h.ord
 rw [Int.toNat_natCast] at ho
 obtain ⟨L, hL⟩ := rank_of_ord hin ho
 have hs := h.src
 rw [Int.toNat_natCast] at hs
 have key : ∀ k x, x < N → L x = k → ∃ s, s ∈ bareV N es Prod.snd ∧ Q es es.length s x := by
  intro k
  induction k using Nat.strongRecOn with
  | _ k ih =>
   intro x hx hk
   by_cases hb : x ∈ bareV N es Prod.snd
   ·exact ⟨x, hb, Star.refl _⟩
   ·rw [mem_bareV] at hb
    have : ∃ i, i < es.length ∧ (es.getD i (0, 0)).2 = (x : Int) := Classical.byContradiction fun hno => hb ⟨hx, fun i hi e => hno ⟨i, hi, e⟩⟩
    obtain ⟨i, hi, he⟩ := this
    have hm := getD_mem hi
    have hbd := hin _ hm
    have hr := hL _ hm
    obtain ⟨t, ht⟩ := Int.eq_ofNat_of_zero_le hbd.1
    rw [he, ht, Int.toNat_natCast, Int.toNat_natCast] at hr
    obtain ⟨s, hs1, hs2⟩ := ih (L t) (by omega) t (by omega) rfl
    refine ⟨s, hs1, Star.trans hs2 (Star.one ⟨i, hi, by simpa using hi, .inl ?_⟩)⟩
    have : es[i] = es.getD i (0, 0) := by rw [List.getD_eq_getElem?_getD, List.getElem?_eq_getElem hi]; rfl
    rw [this]
    exact Prod.ext ht he
 have h0 : 0 < N := by have := (may_parts h.may).1; omega
 obtain ⟨s, hs1, _⟩ := key _ 0 h0 rfl
 refine ⟨s, (mem_bareV.1 hs1).1, fun x hx => ?_⟩
 obtain ⟨s', hs2, hq⟩ := key _ x hx rfl
 have : s' = s := by
  obtain ⟨i, hi, ei⟩ := List.getElem_of_mem hs1
  obtain ⟨j, hj, ej⟩ := List.getElem_of_mem hs2
  have e1 : i = j := by omega
  subst e1
  rw [← ei, ← ej]
 rw [← this]
 exact hq
theorem fask_ask {n : Int} {es : List (Int × Int)} {rs : List (List Int)} (h : faskB n es rs = true) : askA n es rs = true := by
 unfold faskB at h
 simp only [Bool.and_eq_true, decide_eq_true_eq] at h
 obtain ⟨hg, hr, hz⟩ := h
 have hG : GoodP n es := tst_iff.1 hg
 have hP := right_iff.1 hr
 have hn : n = (rs.length : Int) := hP.len.symm
 rw [hn] at hG
 obtain ⟨s, hs, hq⟩ := good_conn hG
 have h0 : 0 < rs.length := by omega
 unfold askA
 simp only [Bool.and_eq_true, decide_eq_true_eq]
 have ho := hG.ord
 rw [Int.toNat_natCast] at ho
 exact ⟨hr, hz, ho, one_cls h0 fun x hx => Star.trans (Q.symm (hq 0 h0)) (hq x hx)⟩
end Go.Proofs.YtneeknlhlkpnpaaGreat
namespace Go.Proofs.YtneeknlhlkpnpaaGreat
open Go.RowKit
end Go.Proofs.YtneeknlhlkpnpaaGreat
