import Derived.Test.YtneeknlhlkpnpaaGreatZRPlain
import Derived.Test.YtneeknlhlkpnpaaGreatZRRf10
import Derived.Test.YtneeknlhlkpnpaaGreatZEul
import Derived.Test.YtneeknlhlkpnpaaGreatZMir
/-
 Plain law: a plan mirrored runs, and its turn is the turn mirrored. Written by an AI agent.
-/
namespace Go.Proofs.YtneeknlhlkpnpaaGreat
open Go.RowKit
theorem sort_rev (l : List Int) : l.reverse.mergeSort leI = l.mergeSort leI := by
 refine sort_eq ((List.reverse_perm l).trans (List.mergeSort_perm l leI).symm) ?_
 have h1 := List.pairwise_mergeSort (le := leI) (fun a b c h k => by unfold leI at *; simp at *; omega) (fun a b => by unfold leI; simp; omega) l
 exact h1.imp fun h => by unfold leI at h; simpa using h
section
variable {N : Nat} {es : List (Int × Int)} {ord : List Int} {outs : List (List Int)} {en : List (List Itm)} {l : List Nat} {rF : List Itm} {s : Nat}
theorem getD_mir (outs : List (List Int)) (x : Nat) : (mir outs).getD x [] = (outs.getD x []).reverse := by
 unfold mir
 rw [List.getD_eq_getElem?_getD, List.getElem?_map, List.getD_eq_getElem?_getD]
 cases outs[x]? <;> rfl
theorem getD_mirI (en : List (List Itm)) (x : Nat) : (en.map List.reverse).getD x [] = (en.getD x []).reverse := by
 rw [List.getD_eq_getElem?_getD, List.getElem?_map, List.getD_eq_getElem?_getD]
 cases en[x]? <;> rfl
theorem aboveR_rev (es : List (Int × Int)) (x : Nat) (o : List Int) : aboveR es x o.reverse = (aboveR es x o).reverse := by
 unfold aboveR
 rw [List.length_reverse]
 split
 ·rfl
 ·rw [List.map_reverse]
theorem outA_mir (es : List (Int × Int)) (outs : List (List Int)) (x : Nat) : outA es (mir outs) x = (outA es outs x).reverse := by
 unfold outA; rw [getD_mir, aboveR_rev]
theorem head_rev {E : List Itm} {e : Itm} (h : E.getLast? = some e) : E.reverse.head? = some e := by rw [List.head?_reverse]; exact h
theorem last_rev {E : List Itm} {e : Itm} (h : E.head? = some e) : E.reverse.getLast? = some e := by rw [List.getLast?_reverse]; exact h
theorem CutR.mirror {r : List Itm} {pl : List Int} {x : Nat} {A E B : List Itm} (hp : (x : Int) ∉ pl) (h : CutR es r x A E B) (hr : E = [] → r = []) : CutR es r.reverse x B.reverse E.reverse A.reverse := by
 refine (cut_ready hp ?_ ?_ ?_ ?_ ?_ ?_).2
 ·rw [h.row, List.reverse_append, List.reverse_append, List.append_assoc]
 ·intro e he
  apply h.out
  simp only [List.mem_append, List.mem_reverse] at he ⊢
  exact he.symm
 ·intro e he; exact h.ine e (List.mem_reverse.1 he)
 ·rw [List.countP_reverse]; exact h.cnt
 ·intro e0
  have e0 := List.reverse_eq_nil_iff.1 e0
  have h1 := hr e0
  have h2 := h.row
  rw [h1] at h2
  refine ⟨?_, (h.nil e0).2⟩
  rw [(List.append_eq_nil_iff.1 h2.symm).2]; rfl
 ·intro hne
  obtain ⟨⟨e, h1, h2⟩, e', h3, h4⟩ := h.ends (fun e => hne (by rw [e]; rfl))
  exact ⟨⟨e', head_rev h3, h4⟩, e, last_rev h1, h2⟩
theorem Walk.mirror (hs : ∀ y, y < N → inD es y = 0 → y = s) {fin st : SwSt} {rest : List Nat} (hw : Walk es outs st rest fin) (hr : ∀ x ∈ rest, x < N) (hS : SrcI s st) :
  Walk es (mir outs) (st.1.reverse, st.2.1, st.2.2.map List.reverse) rest (fin.1.reverse, fin.2.1, fin.2.2.map List.reverse) := by
 induction hw with
 | nil st => exact Walk.nil _
 | @cons r pl en x A E B rest fin hp hc hw ih =>
  have hx := hr x (List.mem_cons_self ..)
  obtain ⟨hS', hsrc⟩ := hS.step (outs := outs) hs hx hp hc
  have h1 := ih (fun y hy => hr y (List.mem_cons_of_mem _ hy)) hS'
  refine Walk.cons hp (hc.mirror hp hsrc) ?_
  have e1 : (A ++ outA es outs x ++ B).reverse = B.reverse ++ outA es (mir outs) x ++ A.reverse := by
   rw [outA_mir, List.reverse_append, List.reverse_append, List.append_assoc]
  have e2 : (en.set x E).map List.reverse = (en.map List.reverse).set x E.reverse := List.map_set
  simp only [e1, e2] at h1
  exact h1
theorem PlanR.mirror (h : PlanR N es ord outs en l rF s) : PlanR N es ord (mir outs) (en.map List.reverse) l rF.reverse s where
 good := h.good
 onat := h.onat
 perm := h.perm
 outp := fun x hx => by rw [getD_mir]; exact (List.reverse_perm _).trans (h.outp x hx)
 outl := by unfold mir; rw [List.length_map]; exact h.outl
 walk := by
  have := h.walk.mirror h.src h.lt (.inl ⟨rfl, rfl⟩)
  simpa using this
 sN := h.sN
 src := h.src
 sin := h.sin
theorem runO_mirror (hg : GoodP N es) (h : runO N es ord outs = some en) : runO N es ord (mir outs) = some (en.map List.reverse) := by
 obtain ⟨l, rF, s, hP⟩ := run_plan hg h
 have hof : ofB N es ord outs = true := by
  unfold runO at h
  split at h
  ·assumption
  ·cases h
 obtain ⟨h1, h2, h3, h4⟩ := ofB_iff.1 hof
 have hof' : ofB N es ord (mir outs) = true := ofB_iff.2 ⟨by unfold mir; rw [List.length_map]; exact h1, h2, h3, fun x hx => by rw [getD_mir, sort_rev]; exact h4 x hx⟩
 unfold runO
 rw [if_pos hof']
 unfold runS
 rw [hP.onat, (walk_fold _ _).2 hP.mirror.walk]
 rfl
theorem turn_mirror (N : Nat) (outs : List (List Int)) (en : List (List Itm)) : sameB (turnR N (mir outs) (en.map List.reverse)) (mir (turnR N outs en)) = true := by
 unfold sameB
 have hl : (mir (turnR N outs en)).length = N := by unfold mir; rw [List.length_map, turnR_length]
 rw [turnR_length, hl, decide_eq_true rfl, Bool.true_and, List.all_eq_true]
 intro x hx
 have hx := List.mem_range.1 hx
 rw [getD_mir, turnR_at hx, turnR_at hx, getD_mir, getD_mirI]
 have e1 : turnRow (outs.getD x []).reverse (en.getD x []).reverse = (outH (outs.getD x [])).reverse ++ inH (en.getD x []) := by
  unfold turnRow outH; rw [List.map_reverse, List.reverse_reverse]
 have e2 : (turnRow (outs.getD x []) (en.getD x [])).reverse = inH (en.getD x []) ++ (outH (outs.getD x [])).reverse := by
  unfold turnRow
  rw [List.reverse_append]
  congr 1
  unfold inH
  rw [← List.map_reverse, ← List.filter_reverse, List.reverse_reverse]
 rw [e1, e2]
 generalize (outH (outs.getD x [])).reverse = P
 generalize inH (en.getD x []) = Q
 by_cases hQ : Q = []
 ·subst hQ
  by_cases hP : P = []
  ·subst hP; rfl
  ·refine turned_yes (i := 0) (by rw [List.append_nil]; exact List.length_pos_iff.2 hP) ?_
   unfold rot; simp
 ·refine turned_yes (i := P.length) (by rw [List.length_append]; have := List.length_pos_iff.2 hQ; omega) ?_
  unfold rot; simp
end
end Go.Proofs.YtneeknlhlkpnpaaGreat
