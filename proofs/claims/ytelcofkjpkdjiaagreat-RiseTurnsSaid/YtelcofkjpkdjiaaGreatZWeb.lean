import Derived.Test.YtelcofkjpkdjiaaGreatZAng0
import Derived.Test.YtelcofkjpkdjiaaGreatZFit2
import Derived.Laws.IdiomCopy
import Derived.Lib.SliceRun
import Derived.Test.YtelcofkjpkdjiaaGreatZChks
import Derived.Test.YtelcofkjpkdjiaaGreatZOrdm
/-
  Leaders: finding with halved ways, and joining (plain law). Written by an AI agent.
-/
namespace Go.Proofs.YtelcofkjpkdjiaaGreat
open Go.RowKit

def ldr (l : List Int) (x : Nat) : Nat := (l.getD x 0).toNat
structure WebP (l : List Int) : Prop where
  nn : ∀ x, x < l.length → 0 ≤ l.getD x 0
  le : ∀ x, x < l.length → ldr l x ≤ x
def rootN (l : List Int) : Nat → Nat → Nat
  | 0, x => x
  | f + 1, x => if ldr l x = x then x else rootN l f (ldr l x)
/-- the leader of x's part -/
def rootF (l : List Int) (x : Nat) : Nat := rootN l x x
section
variable {l : List Int}
end
end Go.Proofs.YtelcofkjpkdjiaaGreat
/-
  (*web).find, join: what they compute. Written by an AI agent.
-/
namespace Go.Proofs.YtelcofkjpkdjiaaGreat
open Go.RowKit

/-- the web lies at gw; R is who leads whom -/
structure WebAt (w : World) (gw g len cap F : Nat) (R : Array Value) (ro : Nat → Nat) (l : List Int) : Prop where
  b : Blk w gw 107 #[.slice (some ⟨g, 0, none⟩) len cap, .int .i64 F]
  c : Blk w g 3 ((intCells l).toArray ++ R)
  ll : l.length = len
  web : WebP l
  root : ∀ y, y < len → rootF l y = ro y
  ne : gw ≠ g
def WebE (w : World) (gw g len cap F : Nat) (R : Array Value) (ro : Nat → Nat) : Prop := ∃ l, WebAt w gw g len cap F R ro l
theorem WebE.keep {w w' : World} {gw g len cap F : Nat} {R : Array Value} {ro : Nat → Nat} (h : WebE w gw g len cap F R ro) {B : Nat} (hb : Below B w w') (hB : w.heap.size ≤ B) : WebE w' gw g len cap F R ro := by
  obtain ⟨l, h⟩ := h
  exact ⟨l, h.b.below hb (Nat.lt_of_lt_of_le h.b.lt hB), h.c.below hb (Nat.lt_of_lt_of_le h.c.lt hB), h.ll, h.web, h.root, h.ne⟩
end Go.Proofs.YtelcofkjpkdjiaaGreat
/-
  angle.Angles: the block in which they lie. (Printed by angs3.py.) Written by an AI agent.
-/
namespace Go.Proofs.YtelcofkjpkdjiaaGreat
open Go.RowKit

end Go.Proofs.YtelcofkjpkdjiaaGreat
/-
  slices.DeleteFunc over angles: those that are High, to the front. Written by an AI agent.
-/
namespace Go.Proofs.YtelcofkjpkdjiaaGreat
open Go.RowKit

abbrev Quad := Nat × Nat × Nat × Nat
def hiQ (q : Quad) : Bool := decide (q.2.2.2 = 2)
end Go.Proofs.YtelcofkjpkdjiaaGreat
/-
  The web's parts: who leads whom behind all joins (plain law). Written by an AI agent.
-/
namespace Go.Proofs.YtelcofkjpkdjiaaGreat
open Go.RowKit

/-- each thing has a leader that is no greater, and leads itself -/
structure LeadP (L : Nat) (ro : Nat → Nat) : Prop where
  le : ∀ y, y < L → ro y ≤ y
  fix : ∀ y, y < L → ro (ro y) = ro y
theorem LeadP.id (L : Nat) : LeadP L id := ⟨fun _ _ => Nat.le_refl _, fun _ _ => rfl⟩
section
variable {L : Nat} {ro : Nat → Nat} {a b : Nat}
end
section
variable {F N : Nat} {H : List Quad}
def leads (ro : Nat → Nat) (F : Nat) : List Nat := (List.range F).filter fun f => decide (ro f = f)
end
end Go.Proofs.YtelcofkjpkdjiaaGreat
/-
  Which rotations the web is asked of: the program and the reference. Written by an AI agent.
-/
namespace Go.Proofs.YtelcofkjpkdjiaaGreat
open Go.RowKit

noncomputable def faskB (n : Int) (es : List (Int × Int)) (rs : List (List Int)) : Bool := goodB n es && (rightB n es rs && decide (gen n es rs = 0))
end Go.Proofs.YtelcofkjpkdjiaaGreat
/-
  A good graph hangs together: so what the web is asked of, the angles are (plain law). Written by an AI agent.
-/
namespace Go.Proofs.YtelcofkjpkdjiaaGreat
open Go.RowKit

theorem good_conn {N : Nat} {es : List (Int × Int)} (h : GoodP N es) : ∃ s, s < N ∧ ∀ x, x < N → Q es es.length s x := by
  have hin := may_inN h.may
  have ho := h.ord
  rw [Int.toNat_natCast] at ho
  obtain ⟨L, hL⟩ := rank_of_ord hin ho
  have hs := h.src
  rw [Int.toNat_natCast] at hs
  have key : ∀ k x, x < N → L x = k → ∃ s, s ∈ bareV N es Prod.snd ∧ Q es es.length s x := by
    intro k
    induction k using Nat.strongRecOn with
    | _ k ih =>
      intro x hx hk
      by_cases hb : x ∈ bareV N es Prod.snd
      · exact ⟨x, hb, Star.refl _⟩
      · rw [mem_bareV] at hb
        have : ∃ i, i < es.length ∧ (es.getD i (0, 0)).2 = (x : Int) := Classical.byContradiction fun hno => hb ⟨hx, fun i hi e => hno ⟨i, hi, e⟩⟩
        obtain ⟨i, hi, he⟩ := this
        have hm := getD_mem hi
        have hbd := hin _ hm
        have hr := hL _ hm
        obtain ⟨t, ht⟩ := Int.eq_ofNat_of_zero_le hbd.1
        rw [he, ht, Int.toNat_natCast, Int.toNat_natCast] at hr
        obtain ⟨s, hs1, hs2⟩ := ih (L t) (by omega) t (by omega) rfl
        refine ⟨s, hs1, Star.trans hs2 (Star.one ⟨i, hi, by simpa using hi, .inl ?_⟩)⟩
        have : es[i] = es.getD i (0, 0) := by rw [List.getD_eq_getElem?_getD, List.getElem?_eq_getElem hi]; rfl
        rw [this]
        exact Prod.ext ht he
  have h0 : 0 < N := by have := (may_parts h.may).1; omega
  obtain ⟨s, hs1, _⟩ := key _ 0 h0 rfl
  refine ⟨s, (mem_bareV.1 hs1).1, fun x hx => ?_⟩
  obtain ⟨s', hs2, hq⟩ := key _ x hx rfl
  have : s' = s := by
    obtain ⟨i, hi, ei⟩ := List.getElem_of_mem hs1
    obtain ⟨j, hj, ej⟩ := List.getElem_of_mem hs2
    have e1 : i = j := by omega
    subst e1
    rw [← ei, ← ej]
  rw [← this]
  exact hq
theorem fask_ask {n : Int} {es : List (Int × Int)} {rs : List (List Int)} (h : faskB n es rs = true) : askA n es rs = true := by
  unfold faskB at h
  simp only [Bool.and_eq_true, decide_eq_true_eq] at h
  obtain ⟨hg, hr, hz⟩ := h
  have hG : GoodP n es := tst_iff.1 hg
  have hP := right_iff.1 hr
  have hn : n = (rs.length : Int) := hP.len.symm
  rw [hn] at hG
  obtain ⟨s, hs, hq⟩ := good_conn hG
  have h0 : 0 < rs.length := by omega
  unfold askA
  simp only [Bool.and_eq_true, decide_eq_true_eq]
  have ho := hG.ord
  rw [Int.toNat_natCast] at ho
  exact ⟨hr, hz, ho, one_cls h0 fun x hx => Star.trans (Q.symm (hq 0 h0)) (hq x hx)⟩
end Go.Proofs.YtelcofkjpkdjiaaGreat
/-
  slices.DeleteFunc over angles: what it comes to. Written by an AI agent.
-/
namespace Go.Proofs.YtelcofkjpkdjiaaGreat
open Go.RowKit

theorem take_filter_succ {Q : List Quad} {j : Nat} (hj : j < Q.length) : (Q.take (j + 1)).filter hiQ = (Q.take j).filter hiQ ++ if hiQ Q[j] = true then [Q[j]] else [] := by
  rw [List.take_succ_eq_append_getElem hj, List.filter_append]
  congr 1
  by_cases h : hiQ Q[j] = true
  · rw [if_pos h]; simp [h]
  · rw [if_neg h]; simp [h]
/-- the angles that are High stand at the front of the first k of P, and behind j all is as it was -/
structure DelP (Q P : List Quad) (k j : Nat) : Prop where
  len : P.length = Q.length
  kj : k < j
  front : P.take k = (Q.take j).filter hiQ
  back : ∀ i, j ≤ i → P[i]? = Q[i]?
theorem DelP.skip {Q P : List Quad} {k j : Nat} (h : DelP Q P k j) (hj : j < Q.length) (hq : hiQ Q[j] = false) : DelP Q P k (j + 1) :=
  ⟨h.len, by have := h.kj; omega, by rw [take_filter_succ hj, if_neg (by rw [hq]; simp), List.append_nil]; exact h.front, fun i hi => h.back i (by omega)⟩
theorem DelP.take_ {Q P : List Quad} {k j : Nat} (h : DelP Q P k j) (hj : j < Q.length) (hq : hiQ Q[j] = true) : DelP Q (P.set k Q[j]) (k + 1) (j + 1) := by
  have hk := h.kj
  have hl := h.len
  refine ⟨by rw [List.length_set]; exact hl, by omega, ?_, fun i hi => ?_⟩
  · rw [take_filter_succ hj, if_pos hq, ← h.front, List.take_succ_eq_append_getElem (by rw [List.length_set]; omega), List.take_set_of_le (Nat.le_refl k)]
    simp
  · rw [List.getElem?_set_ne (by omega)]
    exact h.back i (by omega)
theorem DelP.start {Q : List Quad} {k : Nat} (hk : k < Q.length) (hq : hiQ Q[k] = false) (hb : ∀ i (h : i < Q.length), i < k → hiQ Q[i] = true) : DelP Q Q k (k + 1) := by
  refine ⟨rfl, by omega, ?_, fun _ _ => rfl⟩
  rw [take_filter_succ hk, if_neg (by rw [hq]; simp), List.append_nil]
  symm
  rw [List.filter_eq_self]
  intro q hqm
  obtain ⟨i, hi, rfl⟩ := List.getElem_of_mem hqm
  rw [List.getElem_take]
  have : i < k := by simp at hi; omega
  exact hb i (by omega) this
theorem Cells.front {w : World} {g : Nat} {t : TypeId} {cs : Array Value} {xs ys : List Value} (h : Blk w g t cs) (hc : ∀ j, j < xs.length → cs[j]? = ys[j]?) (he : ∀ j, j < xs.length → ys[j]? = xs[j]?) : Cells w w.heap.size (some ⟨g, 0, none⟩) xs := fun _ => by
  refine ⟨g, 0, rfl, h.lt, fun j u hj => ?_⟩
  have hj2 : j < xs.length := by
    rcases Nat.lt_or_ge j xs.length with h | h
    · exact h
    · rw [List.getElem?_eq_none h] at hj; cases hj
  rw [Nat.zero_add, h.cell, hc j hj2, he j hj2, hj]
end Go.Proofs.YtelcofkjpkdjiaaGreat
