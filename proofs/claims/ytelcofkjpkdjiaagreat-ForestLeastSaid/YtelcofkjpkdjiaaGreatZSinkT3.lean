import Derived.Test.YtelcofkjpkdjiaaGreatZSinkT2
import Derived.Test.YtelcofkjpkdjiaaGreatZWebTree
/-
  A part of the web without inner vertices is a tree: the count (plain law). Written by an AI agent.
-/
namespace Go.Proofs.YtelcofkjpkdjiaaGreat
open Go.RowKit

theorem sink_tree {n : Int} {es : List (Int × Int)} {rs : List (List Int)} (hf : faskB n es rs = true) (he : 0 < es.length) {c : Nat} (hc : c < (facesOf n es rs).length) (hcc : roR n es rs c = c)
    (hX : ∀ x, x < rs.length → roR n es rs ((facesOf n es rs).length + x) = c → ¬ hasEven es x) :
    partA (roR n es rs) ((angR n es rs).filter hiQ) c + 1 ≤ (partF (roR n es rs) (facesOf n es rs).length c).length + (partV (roR n es rs) (facesOf n es rs).length rs.length c).length := by
  have ha := fask_ask hf
  have hR := ask_right ha
  have hin := right_inN hR
  have hG := fask_good hf
  rw [show n = (rs.length : Int) from hR.len.symm] at hG
  have h1 := ask_one ha
  have hInH := highs_in ha
  have hEul := faces_euler ha he
  have hiso := iso_zero hR h1 he
  have hsig := cls_sig hR hin
  have hP := nxf_perm hR
  have hhas : ∀ h, h < 2 * es.length → angK es rs h = 2 → roR n es rs (angF n es rs h) = roR n es rs ((facesOf n es rs).length + vtx es h) := fun h hh hk => by
    have hm : angQ n es rs h ∈ (angR n es rs).filter hiQ := by
      unfold angR
      rw [if_pos ha]
      exact List.mem_filter.2 ⟨List.mem_map.2 ⟨h, List.mem_range.2 hh, rfl⟩, decide_eq_true hk⟩
    exact roH_has (F := (facesOf n es rs).length) hm
  have hA : partA (roR n es rs) ((angR n es rs).filter hiQ) c = (List.range (2 * es.length)).countP fun h => decide (angK es rs h = 2 ∧ roR n es rs (angF n es rs h) = c) := by
    unfold partA angR
    rw [if_pos ha, List.countP_filter]
    unfold angL
    rw [List.countP_map]
    refine List.countP_congr fun h _ => ?_
    simp only [Function.comp, angQ, hiQ, Bool.and_eq_true]
    constructor
    · rintro ⟨a, b⟩
      exact decide_eq_true ⟨of_decide_eq_true b, of_decide_eq_true a⟩
    · intro h
      have h := of_decide_eq_true h
      exact ⟨decide_eq_true h.2, decide_eq_true h.1⟩
  generalize hro : roR n es rs = ro at *
  generalize hFF : (facesOf n es rs).length = F at *
  let X : Nat → Prop := fun x => x < rs.length ∧ ro (F + x) = c
  have hXs : ∀ x, X x → ¬ hasEven es x := fun x h => hX x h.1 h.2
  -- half edges at X: just the High angles of the part
  have hXA : (List.range (2 * es.length)).countP (fun h => tst (X (vtx es h))) = partA ro ((angR n es rs).filter hiQ) c := by
    rw [hA]
    refine count_congr fun h hh => ?_
    rw [Bool.eq_iff_iff, tst_iff, decide_eq_true_eq]
    constructor
    · rintro ⟨_, h2⟩
      have hk := sink_all hR hh (hXs _ ⟨vtx_lt hin hh, h2⟩)
      exact ⟨hk, (hhas h hh hk).trans h2⟩
    · rintro ⟨hk, h2⟩
      exact ⟨vtx_lt hin hh, (hhas h hh hk).symm.trans h2⟩
  have hXV : (List.range rs.length).countP (fun x => tst (X x)) = (partV ro F rs.length c).length := by
    unfold partV
    rw [← List.countP_eq_length_filter]
    refine count_congr fun x hx => ?_
    rw [Bool.eq_iff_iff, tst_iff, decide_eq_true_eq]
    exact ⟨fun h => h.2, fun h => ⟨hx, h⟩⟩
  have ht : ∀ x, x < rs.length → ∃ h, h < 2 * es.length ∧ vtx es h = x := fun x hx => by
    rcases touch hin h1 he hx with ⟨k, hk, hv, _⟩ | ⟨k, hk, hv, _⟩ <;> exact ⟨k, hk, hv⟩
  have hcut := cutS_cls hR hin ht X
  have hone := cut_one hG hR hin h1 he hXs
  obtain ⟨g, hg⟩ := eulerP (cutS_perm (es := es) hR X) es.length (Nat.le_refl _)
  rw [hone] at hg
  -- faces behind the cut
  have hfaces : F + 1 ≤ cls (Orb (ppk (cutS es rs X) es.length)) (2 * es.length) + (partF ro F c).length := by
    let fc : Nat → Nat := fun d => angF n es rs (ot d)
    let inv : Nat → Nat := fun d => if ro (fc d) = c then c else fc d
    have hfc : ∀ d, d < 2 * es.length → fc d < F := fun d hd => by
      have := (angF_spec hR (ot_lt hd)).1
      rw [hFF] at this
      exact this
    have hsame : ∀ d e, d < 2 * es.length → e < 2 * es.length → Orb (nxf es rs) d e → fc d = fc e := fun d e hd hee o => (angF_orb hR (ot_lt hd) (ot_lt hee)).2 (by rw [ot_ot, ot_ot]; exact o)
    have hstep : ∀ d, d < 2 * es.length → inv (ppk (cutS es rs X) es.length d) = inv d := fun d hd => by
      rw [ppk_cut X hd]
      have hod := ot_lt hd
      by_cases hx : X (vtx es (ot d))
      · rw [cutS_in hx]
        -- d lies in a face of the part; so does ot d
        have hk := sink_all hR hod (hXs _ hx)
        have e1 : ro (fc d) = c := (hhas _ hod hk).trans hx.2
        obtain ⟨h2, hh2, hs2⟩ := perm_surj (sig_perm hR) hod
        have hv2 : vtx es h2 = vtx es (ot d) := by rw [← hs2]; exact ((vtx_sig hR hh2).2).symm
        have hx2 : X (vtx es h2) := by rw [hv2]; exact hx
        have hk2 := sink_all hR hh2 (hXs _ hx2)
        have e2 : ro (angF n es rs h2) = c := (hhas _ hh2 hk2).trans hx2.2
        have e3 : fc (ot d) = angF n es rs h2 := by
          have := hsame (ot h2) (ot d) (ot_lt hh2) hod ⟨1, by show nxf es rs (ot h2) = ot d; rw [← hs2]; rfl⟩
          rw [← this]
          show angF n es rs (ot (ot h2)) = _
          rw [ot_ot]
        show (if ro (fc (ot d)) = c then c else fc (ot d)) = if ro (fc d) = c then c else fc d
        rw [e3, if_pos e2, if_pos e1]
      · rw [cutS_out hx]
        have e1 : fc d = fc (sig es rs (ot d)) := hsame _ _ hd (vtx_sig hR hod).1 ⟨1, (sig_ot d).symm⟩
        show (if ro (fc (sig es rs (ot d))) = c then c else fc (sig es rs (ot d))) = if ro (fc d) = c then c else fc d
        rw [← e1]
    have hpp := ppk_perm (cutS_perm (es := es) hR X) es.length (Nat.le_refl _)
    have hco := cls_coarse (R := Orb (ppk (cutS es rs X) es.length)) (v := inv) (N := 2 * es.length) fun x y hx _ o => by
      obtain ⟨i, hi⟩ := o
      have : ∀ (i x : Nat), x < 2 * es.length → inv (iter (ppk (cutS es rs X) es.length) i x) = inv x := by
        intro i
        induction i with
        | zero => intro x _; rfl
        | succ i ih =>
          intro x hx
          show inv (iter (ppk (cutS es rs X) es.length) i (ppk (cutS es rs X) es.length x)) = inv x
          rw [ih _ (hpp.lt _ hx), hstep x hx]
      rw [← hi, this i x hx]
    have hmap := cls_map (v := inv) (M := F) (2 * es.length) fun d hd => by
      show (if ro (fc d) = c then c else fc d) < F
      split
      · exact hc
      · exact hfc d hd
    have hsurj : ∀ f, f < F → ∃ d, d < 2 * es.length ∧ fc d = f := fun f hff => by
      obtain ⟨h, hh, e⟩ := angF_surj hR (f := f) (by rw [hFF]; exact hff)
      exact ⟨ot h, ot_lt hh, by show angF n es rs (ot (ot h)) = f; rw [ot_ot]; exact e⟩
    have hval : (List.range F).countP (fun f => tst (∃ h, h < 2 * es.length ∧ inv h = f)) = (List.range F).countP (fun f => !decide (ro f = c) || decide (f = c)) := count_congr fun f hff => by
      rw [Bool.eq_iff_iff, tst_iff]
      simp only [Bool.or_eq_true, Bool.not_eq_true', decide_eq_false_iff_not, decide_eq_true_eq]
      constructor
      · rintro ⟨d, hd, hi⟩
        have hi : (if ro (fc d) = c then c else fc d) = f := hi
        by_cases e : ro (fc d) = c
        · rw [if_pos e] at hi
          exact .inr hi.symm
        · rw [if_neg e] at hi
          exact .inl (hi ▸ e)
      · intro h
        obtain ⟨d, hd, e⟩ := hsurj f hff
        refine ⟨d, hd, ?_⟩
        show (if ro (fc d) = c then c else fc d) = f
        rcases h with h | h
        · rw [e, if_neg h]
        · rw [e, h, if_pos hcc]
    have hor := countP_or2 (List.range F) (fun f => !decide (ro f = c)) (fun f => decide (f = c)) fun f _ ⟨p, q⟩ => by
      have q := of_decide_eq_true q
      subst q
      rw [hcc] at p
      simp at p
    have hcnt : (List.range F).countP (fun f => decide (f = c)) = 1 := by
      rw [countP_less (p := fun y => decide (y = c)) (q := fun _ => false) (m := c) (by simp) (fun h => by by_cases e : h = c <;> simp [e]) F, if_pos hc]
      simp
    have hsplit : (List.range F).countP (fun f => !decide (ro f = c)) + (partF ro F c).length = F := by
      unfold partF
      rw [← List.countP_eq_length_filter]
      have := List.length_eq_countP_add_countP (fun f => decide (ro f = c)) (l := List.range F)
      rw [List.length_range] at this
      have e : (List.range F).countP (fun a => !decide (ro a = c)) = (List.range F).countP (fun a => decide ¬(decide (ro a = c) = true)) := by
        refine List.countP_congr fun a _ => ?_
        by_cases h : ro a = c <;> simp [h]
      rw [e]
      omega
    omega
  omega
end Go.Proofs.YtelcofkjpkdjiaaGreat
