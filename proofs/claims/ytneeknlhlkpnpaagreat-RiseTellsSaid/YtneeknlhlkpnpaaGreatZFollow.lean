import Derived.Test.YtneeknlhlkpnpaaGreatZRPlain
import Derived.Test.YtneeknlhlkpnpaaGreatZConfl
import Derived.Test.YtneeknlhlkpnpaaGreatZRRf10
/-
 Plain law: placing ready vertices one by one ends as any plan with the same edges does. Written by an AI agent.
-/
namespace Go.Proofs.YtneeknlhlkpnpaaGreat
open Go.RowKit
section
variable {N : Nat} {es : List (Int × Int)} {outs : List (List Int)} {s : Nat} {ord : List Int} {en : List (List Itm)} {l : List Nat} {rF : List Itm}
theorem CutR.ready {r : List Itm} {pl : List Int} {x : Nat} {A E B : List Itm} (hx : (x : Int) ∉ pl) (h : CutR es r x A E B) : readyR es r pl x = true :=
 (cut_ready hx h.row h.out h.ine h.cnt h.nil h.ends).1
theorem Walk.follow (hO : OutsP N es outs) (hs : ∀ y, y < N → inD es y = 0 → y = s) {l : List Nat} {st st2 : SwSt} (hw : Walk es outs st l st2) :
  ∀ {fin : SwSt} {rest : List Nat}, Walk es outs st rest fin → rest.Nodup → (∀ x ∈ rest, x < N) → (∀ x ∈ l, x < N) → (∀ x, x < N → x ∈ rest ∨ (x : Int) ∈ st.2.1) → SrcI s st → SwI N es outs st.1 st.2.1 st.2.2 →
  ∃ rest' pl', rest.Perm (l ++ rest') ∧ Walk es outs st2 rest' (fin.1, pl', fin.2.2) := by
 induction hw with
 | nil st =>
  intro fin rest h _ _ _ _ _ _
  exact ⟨rest, fin.2.1, List.Perm.refl _, h⟩
 | @cons r pl en x A E B l st2 hp hc hw ih =>
  intro fin rest h hn hr hl hall hS hI
  have hx := hl x (List.mem_cons_self ..)
  have hxr : x ∈ rest := (hall x hx).resolve_right hp
  obtain ⟨rest1, pl1, p1, w1⟩ := h.any hO hs hn hr hS hI hxr hp hc
  obtain ⟨hS', _⟩ := hS.step (outs := outs) hs hx hp hc
  have hI' := hI.step hx hp hc
  have hn1 : (x :: rest1).Nodup := p1.nodup_iff.1 hn
  obtain ⟨rest2, pl2, p2, w2⟩ := ih w1 (List.nodup_cons.1 hn1).2 (fun y hy => hr y (p1.mem_iff.2 (List.mem_cons_of_mem _ hy))) (fun y hy => hl y (List.mem_cons_of_mem _ hy)) (fun y hy => by
   rcases hall y hy with h1 | h1
   ·rcases List.mem_cons.1 (p1.mem_iff.1 h1) with rfl | h2
    ·exact .inr (by simp)
    ·exact .inl h2
   ·exact .inr (List.mem_append_left _ h1)) hS' hI'
  exact ⟨rest2, pl2, p1.trans (p2.cons x), w2⟩
theorem PlanR.greedy (hP : PlanR N es ord outs en l rF s) {l2 : List Nat} {r2 : List Itm} {en2 : List (List Itm)} (hw : Walk es outs ([], [], List.replicate N []) l2 (r2, natI l2, en2)) (hl : ∀ x ∈ l2, x < N) (hno : ∀ x, x < N → readyR es r2 (natI l2) x = false) :
  PlanR N es (natI l2) outs en l2 rF s := by
 obtain ⟨rest', pl', p, w⟩ := hw.follow hP.outp hP.src hP.walk (hP.perm.nodup_iff.2 List.nodup_range) hP.lt hl (fun x hx => .inl (hP.perm.mem_iff.2 (List.mem_range.2 hx))) (.inl ⟨rfl, rfl⟩) SwI.start
 have hr : rest' = [] := by
  cases rest' with
  | nil => rfl
  | cons y t =>
   cases w with
   | cons hp hc _ =>
    have hy : y < N := hP.lt y (p.mem_iff.2 (by simp))
    have := hno y hy
    rw [hc.ready hp] at this
    cases this
 subst hr
 rw [List.append_nil] at p
 have e : (r2, natI l2, en2) = (rF, pl', en) := by
  generalize hq : (r2, natI l2, en2) = q at w
  generalize hq' : (rF, pl', en) = q' at w
  cases w with
  | nil => rfl
 have e1 : r2 = rF := congrArg Prod.fst e
 have e2 : en2 = en := congrArg (fun q : SwSt => q.2.2) e
 subst e1 e2
 exact ⟨hP.good, rfl, p.symm.trans hP.perm, hP.outp, hP.outl, hw, hP.sN, hP.src, hP.sin⟩
theorem natI_sort {l : List Nat} (h : l.Perm (List.range N)) : (natI l).mergeSort leI = upI N := sort_eq (h.map _) (upI_sorted N)
theorem PlanR.of (h : PlanR N es ord outs en l rF s) : ofB N es ord outs = true := by
 refine ofB_iff.2 ⟨h.outl, ?_, ?_, fun x hx => sort_eq (h.outp x hx) (endsF_sorted _ _ _ _)⟩
 ·rw [h.onat]; unfold natI; rw [List.length_map, h.perm.length_eq, List.length_range]
 ·rw [h.onat]; exact natI_sort h.perm
theorem PlanR.run (h : PlanR N es ord outs en l rF s) : runO N es ord outs = some en := by
 unfold runO
 rw [if_pos h.of]
 unfold runS
 have hw := (walk_fold _ _).2 h.walk
 rw [← h.onat] at hw
 rw [hw]
 rfl
end
end Go.Proofs.YtneeknlhlkpnpaaGreat
