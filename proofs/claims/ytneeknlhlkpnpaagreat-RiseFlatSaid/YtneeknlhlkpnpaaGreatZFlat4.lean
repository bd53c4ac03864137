import Derived.Test.YtneeknlhlkpnpaaGreatZFlat3
import Derived.Test.YtneeknlhlkpnpaaGreatZRRf
/-
 Plain law: the great angles of a plan's turn fit, all rooms come out empty. Written by an AI agent.
-/
namespace Go.Proofs.YtneeknlhlkpnpaaGreat
open Go.RowKit
theorem last_sig {n : Int} {es : List (Int × Int)} {rs : List (List Int)} (hR : RightP n es rs) {x : Nat} (hx : x < rs.length) (h0 : 0 < rs[x].length) : ∃ d e : Nat, lastH rs x = d ∧ d < 2 * es.length ∧ vtx es d = x ∧ rs[x][rs[x].length - 1] = (d : Int) ∧ rs[x][0] = (e : Int) ∧ sig es rs d = e := by
 obtain ⟨d, h1, h2, h3⟩ := hR.nat hx (i := rs[x].length - 1) (by omega)
 obtain ⟨e, h4, _, _⟩ := hR.nat hx (i := 0) h0
 have h5 := sig_pos hR hx (by omega) h1
 have e0 : (rs[x].length - 1 + 1) % rs[x].length = 0 := by rw [show rs[x].length - 1 + 1 = rs[x].length by omega]; exact Nat.mod_self _
 simp only [e0] at h5
 refine ⟨d, e, ?_, h2, h3, h1, h4, by omega⟩
 unfold lastH
 rw [show rs.getD x [] = rs[x] from by rw [List.getD_eq_getElem?_getD, List.getElem?_eq_getElem hx]; rfl, List.getD_eq_getElem?_getD, List.getElem?_eq_getElem (by omega), Option.getD_some]
 exact h1
section
variable {N : Nat} {es : List (Int × Int)} {ord : List Int} {outs : List (List Int)} {en : List (List Itm)} {l : List Nat} {rF : List Itm} {s : Nat}
theorem PlanR.tops (h : PlanR N es ord outs en l rF s) (he : 0 < es.length) {o : Nat} (ho : o < 2 * es.length) (hol : labD es (planL es outs en l) (planR es outs en l) o = es.length) :
  (∀ b, b < es.length → lastE es en b = false → angF N es (turnR N outs en) (ot (2 * b + 1)) ≠ angF N es (turnR N outs en) (ot o)) ∧
  ∀ f, f < (facesOf N es (turnR N outs en)).length → f ≠ angF N es (turnR N outs en) (ot o) → ∃ b, b < es.length ∧ lastE es en b = false ∧ angF N es (turnR N outs en) (ot (2 * b + 1)) = f ∧ ∀ b', b' < es.length → lastE es en b' = false → angF N es (turnR N outs en) (ot (2 * b' + 1)) = f → b' = b := by
 have hR := h.right
 have p1 : ∀ b, b < es.length → lastE es en b = false → angF N es (turnR N outs en) (ot (2 * b + 1)) ≠ angF N es (turnR N outs en) (ot o) := fun b hb hl e => by
  have := h.labFace (d := 2 * b + 1) (e := o) (by omega) ho e
  rw [hol, labD_odd, h.top hb hl] at this
  omega
 have inj : ∀ b, b < es.length → lastE es en b = false → ∀ b', b' < es.length → lastE es en b' = false → angF N es (turnR N outs en) (ot (2 * b + 1)) = angF N es (turnR N outs en) (ot (2 * b' + 1)) → b = b' := fun b hb hl b' hb' hl' e => by
  have := h.labFace (d := 2 * b + 1) (e := 2 * b' + 1) (by omega) (by omega) e
  rw [labD_odd, labD_odd, h.top hb hl, h.top hb' hl'] at this
  exact this
 refine ⟨p1, fun f hf hfo => ?_⟩
 have hnd : (((List.range es.length).filter fun b => !lastE es en b).map fun b => angF N es (turnR N outs en) (ot (2 * b + 1))).Nodup := by
  rw [List.nodup_iff_pairwise_ne, List.pairwise_map]
  refine (List.nodup_iff_pairwise_ne.1 (List.nodup_range.filter _)).imp_of_mem fun {a b} ha hb hne e => hne ?_
  obtain ⟨ha1, ha2⟩ := List.mem_filter.1 ha
  obtain ⟨hb1, hb2⟩ := List.mem_filter.1 hb
  exact inj a (List.mem_range.1 ha1) (by simpa using ha2) b (List.mem_range.1 hb1) (by simpa using hb2) e
 have hsub : (((List.range es.length).filter fun b => !lastE es en b).map fun b => angF N es (turnR N outs en) (ot (2 * b + 1))) ⊆ (List.range (facesOf N es (turnR N outs en)).length).filter fun f => !decide (f = angF N es (turnR N outs en) (ot o)) := by
  intro g hg
  obtain ⟨b, hb, rfl⟩ := List.mem_map.1 hg
  obtain ⟨hb1, hb2⟩ := List.mem_filter.1 hb
  have hb1 := List.mem_range.1 hb1
  refine List.mem_filter.2 ⟨List.mem_range.2 (angF_spec hR (ot_lt (by omega))).1, ?_⟩
  rw [decide_eq_false (p1 b hb1 (by simpa using hb2))]
  rfl
 have hlen : ((List.range (facesOf N es (turnR N outs en)).length).filter fun f => !decide (f = angF N es (turnR N outs en) (ot o))).length ≤ (((List.range es.length).filter fun b => !lastE es en b).map fun b => angF N es (turnR N outs en) (ot (2 * b + 1))).length := by
  rw [List.length_map, ← List.countP_eq_length_filter, ← List.countP_eq_length_filter]
  have h1 := countP_less (p := fun _ => true) (q := fun x => !decide (x = angF N es (turnR N outs en) (ot o))) (m := angF N es (turnR N outs en) (ot o)) rfl (fun k => by simp) (facesOf N es (turnR N outs en)).length
  rw [if_pos (angF_spec hR (ot_lt ho)).1] at h1
  simp only [List.countP_true, List.length_range] at h1
  have h2 := h.lasts
  have h3 : (List.range es.length).countP (lastE es en) + (List.range es.length).countP (fun x => !lastE es en x) = es.length := by
   have := List.length_eq_countP_add_countP (lastE es en) (l := List.range es.length)
   rw [List.length_range] at this
   have e : (List.range es.length).countP (fun a => decide ¬lastE es en a = true) = (List.range es.length).countP (fun x => !lastE es en x) := by
    apply List.countP_congr; intro x _; simp
   omega
  have hin := right_inN hR
  have hg := gen_spec hR hin
  rw [turnR_length] at hg hin
  obtain ⟨s', hs', hq⟩ := good_conn h.good
  have h0 : 0 < N := by have := h.sN; omega
  have hc1 : cls (Q es es.length) N = 1 := one_cls h0 fun x hx => Star.trans (Q.symm (hq 0 h0)) (hq x hx)
  rw [hc1, h.gen] at hg
  generalize (List.range es.length).countP (lastE es en) = La at *
  generalize (List.range es.length).countP (fun x => !lastE es en x) = Lb at *
  omega
 have hm := subset_full hnd hsub hlen (List.mem_filter.2 ⟨List.mem_range.2 hf, by rw [decide_eq_false hfo]; rfl⟩)
 obtain ⟨b, hb, e⟩ := List.mem_map.1 hm
 obtain ⟨hb1, hb2⟩ := List.mem_filter.1 hb
 have hb1 := List.mem_range.1 hb1
 have hb2 : lastE es en b = false := by simpa using hb2
 exact ⟨b, hb1, hb2, e, fun b' h1 h2 h3 => inj b' h1 h2 b hb1 hb2 (h3.trans e.symm)⟩
theorem PlanR.outsNil (h : PlanR N es ord outs en l rF s) {x : Nat} (hx : x < N) : outs.getD x [] = [] ↔ (endsF es Prod.fst (x : Nat) es.length).length = 0 := by
 rw [← (h.outp x hx).length_eq, List.length_eq_zero_iff]
theorem PlanR.rowEq (h : PlanR N es ord outs en l rF s) {x : Nat} (hx : x < N) : ∃ hx' : x < (turnR N outs en).length, (turnR N outs en)[x] = turnRow (outs.getD x []) (en.getD x []) := by
 have hx' : x < (turnR N outs en).length := by rw [turnR_length]; exact hx
 refine ⟨hx', ?_⟩
 rw [← turnR_at hx, List.getD_eq_getElem?_getD, List.getElem?_eq_getElem hx']; rfl
theorem PlanR.sink (h : PlanR N es ord outs en l rF s) (he : 0 < es.length) {x : Nat} (hx : x < N) (ho : outs.getD x [] = []) : x ≠ s ∧ en.getD x [] ≠ [] := by
 have hxs : x ≠ s := fun e => by
  obtain ⟨i, _, _, _, h4, _⟩ := h.srcOut he
  rw [← e, ho] at h4
  cases h4
 refine ⟨hxs, fun e0 => ?_⟩
 have h1 : inD es x ≠ 0 := fun e => hxs (h.src x hx e)
 apply h1
 rw [inD_zero]
 intro i hi e
 have := h.edge hx hi e
 rw [e0] at this
 cases this
theorem PlanR.tip (h : PlanR N es ord outs en l rF s) (he : 0 < es.length) {x : Nat} (hx : x < N) : tipB es x = (decide (outs.getD x [] = []) || decide (x = s)) := by
 unfold tipB
 have e1 : (endsF es Prod.snd (x : Nat) es.length).length = 0 ↔ x = s := ⟨fun e => h.src x hx e, fun e => by rw [e]; exact h.sin⟩
 rw [decide_eq_decide.2 e1, decide_eq_decide.2 (h.outsNil hx).symm]
 by_cases ho : outs.getD x [] = []
 ·rw [decide_eq_true ho, decide_eq_false (h.sink he hx ho).1]; rfl
 ·rw [decide_eq_false ho]
  cases decide (x = s) <;> rfl
theorem PlanR.sinkRow (h : PlanR N es ord outs en l rF s) (he : 0 < es.length) {x : Nat} (hx : x < N) (ho : outs.getD x [] = []) : ∃ d e : Nat, lastH (turnR N outs en) x = d ∧ d < 2 * es.length ∧ vtx es d = x ∧ d % 2 = 1 ∧ sig es (turnR N outs en) d = e ∧ e % 2 = 1 ∧ lastE es en (e / 2) = true ∧ vtx es e = x ∧ e < 2 * es.length ∧ ∀ k, k < 2 * es.length → vtx es k = x → k % 2 = 1 → lastE es en (k / 2) = true → k = e := by
 have hR := h.right
 obtain ⟨hx', hrow⟩ := h.rowEq hx
 obtain ⟨_, hE⟩ := h.sink he hx ho
 obtain ⟨a, ha, hax, hl, hhd⟩ := h.inRow hx hE
 have h0 : 0 < (turnR N outs en)[x].length := by
  rw [hrow]
  unfold turnRow
  rw [List.length_append]
  have : inH (en.getD x []).reverse ≠ [] := fun e => by rw [e] at hhd; cases hhd
  have := List.length_pos_iff.2 this
  omega
 obtain ⟨d, e, h1, h2, h3, h4, h5, h6⟩ := last_sig hR hx' h0
 have hl0 : (outs.getD x []).length = 0 := by rw [ho]; rfl
 obtain ⟨_, a2, _⟩ := h.rowAt hx' (by omega) h4
 obtain ⟨_, b2, b3⟩ := h.rowAt hx' h0 h5
 have hv := vtx_sig hR h2
 rw [h6] at hv
 refine ⟨d, e, h1, h2, h3, a2 (by omega), h6, b2 (by omega), (b3 (b2 (by omega))).2 (by omega), hv.2.trans h3, hv.1, fun k hk hkv hk2 hkl => ?_⟩
 obtain ⟨y, i, hy, hi, e1, e2⟩ := hR.pos hk
 have hyx : y = x := by rw [← e2, hkv]
 subst hyx
 obtain ⟨_, _, c3⟩ := h.rowAt hy hi e1
 have hi0 := (c3 hk2).1 hkl
 have hi0 : i = 0 := by omega
 subst hi0
 rw [h5] at e1
 omega
theorem count_zero {p : Nat → Bool} {N : Nat} (h : ∀ k, k < N → p k = false) : (List.range N).countP p = 0 := by
 rw [List.countP_eq_zero]
 intro k hk
 rw [h k (List.mem_range.1 hk)]
 simp
theorem PlanR.highs (h : PlanR N es ord outs en l rF s) (he : 0 < es.length) {o : Nat} (ho : o < 2 * es.length) (hol : labD es (planL es outs en l) (planR es outs en l) o = es.length) {f : Nat} (hf : f < (facesOf N es (turnR N outs en)).length) :
  (List.range (2 * es.length)).countP (fun d => decide (angK es (turnR N outs en) d = 2) && decide (angF N es (turnR N outs en) d = f)) =
   (if f = angF N es (turnR N outs en) (ot o) then 0 else 1) + (List.range N).countP fun x => decide (outs.getD x [] = []) && decide (angF N es (turnR N outs en) (lastH (turnR N outs en) x).toNat = f) := by
 have hR := h.right
 have hin : InN N es := by have := right_inN hR; rwa [turnR_length] at this
 obtain ⟨t1, t2⟩ := h.tops he ho hol
 have h1 : (List.range (2 * es.length)).countP (fun d => decide (angK es (turnR N outs en) d = 2) && decide (angF N es (turnR N outs en) d = f)) =
   (List.range (2 * es.length)).countP (fun d => (fun e => decide (e % 2 = 1) && (!lastE es en (e / 2) || decide (outs.getD (vtx es e) [] = [])) && decide (angF N es (turnR N outs en) (ot e) = f)) (sig es (turnR N outs en) d)) := by
  apply count_congr
  intro d hd
  have hv := vtx_sig hR hd
  simp only
  rw [hv.2, angF_sig hR hd, Bool.eq_iff_iff]
  simp only [Bool.and_eq_true, Bool.or_eq_true, decide_eq_true_eq, Bool.not_eq_true']
  rw [h.high hd]
 rw [h1, perm_count (sig_perm hR) (fun e => decide (e % 2 = 1) && (!lastE es en (e / 2) || decide (outs.getD (vtx es e) [] = [])) && decide (angF N es (turnR N outs en) (ot e) = f)), countP_split _ _ (fun e => !lastE es en (e / 2))]
 congr 1
 ·by_cases hfo : f = angF N es (turnR N outs en) (ot o)
  ·rw [if_pos hfo]
   apply count_zero
   intro k hk
   apply Bool.eq_false_iff.2
   intro hp
   simp only [Bool.and_eq_true, Bool.or_eq_true, decide_eq_true_eq, Bool.not_eq_true'] at hp
   obtain ⟨⟨⟨k1, _⟩, k2⟩, k3⟩ := hp
   refine t1 (k / 2) (by omega) k3 ?_
   rw [show 2 * (k / 2) + 1 = k by omega, k2, hfo]
  ·rw [if_neg hfo]
   obtain ⟨b, hb, hbl, hbf, hbu⟩ := t2 f hf hfo
   refine count_one (a := 2 * b + 1) (by omega) ?_ fun k hk hp => ?_
   ·rw [show (2 * b + 1) / 2 = b by omega, hbl, hbf]
    simp
   ·simp only [Bool.and_eq_true, Bool.or_eq_true, decide_eq_true_eq, Bool.not_eq_true'] at hp
    obtain ⟨⟨⟨k1, _⟩, k2⟩, k3⟩ := hp
    have := hbu (k / 2) (by omega) k3 (by rw [show 2 * (k / 2) + 1 = k by omega]; exact k2)
    omega
 ·rw [count_fiber (v := vtx es) (M := N) _ _ (fun k hk => vtx_lt hin hk), ← sum_count]
  apply sum_congr
  intro x hx
  by_cases hp : outs.getD x [] = [] ∧ angF N es (turnR N outs en) (lastH (turnR N outs en) x).toNat = f
  ·rw [decide_eq_true hp.1, decide_eq_true hp.2, if_pos (by rfl)]
   obtain ⟨d, e, h1, h2, h3, _, h5, h6, h7, h8, h9, h10⟩ := h.sinkRow he hx hp.1
   have hfe : angF N es (turnR N outs en) (ot e) = f := by
    have h11 := hp.2
    rw [h1, Int.toNat_natCast] at h11
    rw [← h5, angF_sig hR h2, h11]
   refine count_one (a := e) h9 ?_ fun k hk hq => ?_
   ·rw [h8, h7, hp.1, hfe, decide_eq_true h6]
    simp
   ·simp only [Bool.and_eq_true, Bool.or_eq_true, decide_eq_true_eq, Bool.not_eq_true', Bool.not_not] at hq
    obtain ⟨k1, ⟨⟨k2, _⟩, _⟩, k3⟩ := hq
    exact h10 k hk k1 k2 k3
  ·rw [if_neg (by
    intro hq
    simp only [Bool.and_eq_true, decide_eq_true_eq] at hq
    exact hp hq)]
   apply count_zero
   intro k hk
   apply Bool.eq_false_iff.2
   intro hq
   simp only [Bool.and_eq_true, Bool.or_eq_true, decide_eq_true_eq, Bool.not_eq_true', Bool.not_not] at hq
   obtain ⟨k1, ⟨⟨k2, k4⟩, k5⟩, k3⟩ := hq
   have hox : outs.getD x [] = [] := by
    rcases k4 with k4 | k4
    ·rw [k3] at k4; cases k4
    ·rw [← k1]; exact k4
   obtain ⟨d, e, h1, h2, h3, _, h5, h6, h7, h8, h9, h10⟩ := h.sinkRow he hx hox
   have hke := h10 k hk k1 k2 k3
   apply hp
   refine ⟨hox, ?_⟩
   rw [h1, Int.toNat_natCast, ← angF_sig hR h2, h5, ← hke]
   exact k5
theorem PlanR.srcRow (h : PlanR N es ord outs en l rF s) (he : 0 < es.length) : ∃ d o : Nat, lastH (turnR N outs en) s = d ∧ d < 2 * es.length ∧ vtx es d = s ∧ d % 2 = 0 ∧ sig es (turnR N outs en) d = o ∧ o < 2 * es.length ∧ labD es (planL es outs en l) (planR es outs en l) o = es.length := by
 have hR := h.right
 obtain ⟨hx', hrow⟩ := h.rowEq h.sN
 obtain ⟨i, hi, hL, _, hhd, hE⟩ := h.srcOut he
 have hrow2 : (turnR N outs en)[s] = outH (outs.getD s []) := by
  rw [hrow, hE]; unfold turnRow inH; simp
 have hlen : (turnR N outs en)[s].length = (outs.getD s []).length := by rw [hrow2]; simp [outH]
 have hne : outs.getD s [] ≠ [] := fun e => by rw [e] at hhd; cases hhd
 have h0 : 0 < (turnR N outs en)[s].length := by rw [hlen]; exact List.length_pos_iff.2 hne
 obtain ⟨d, o, h1, h2, h3, h4, h5, h6⟩ := last_sig hR hx' h0
 obtain ⟨a1, _, _⟩ := h.rowAt hx' (by omega) h4
 have hv := vtx_sig hR h2
 rw [h6] at hv
 refine ⟨d, o, h1, h2, h3, a1 (by omega), h6, hv.1, ?_⟩
 have ho : o = 2 * i := by
  have e1 : (turnR N outs en)[s].head? = some (o : Int) := by rw [List.head?_eq_getElem?, List.getElem?_eq_getElem h0, h5]
  rw [hrow2] at e1
  unfold outH at e1
  rw [List.head?_map, hhd] at e1
  have e2 : 2 * (i : Int) = (o : Int) := Option.some.inj e1
  omega
 rw [ho, labD_even, hL]
theorem PlanR.outer (h : PlanR N es ord outs en l rF s) (he : 0 < es.length) : ∀ k, k ≤ N → outT N es (turnR N outs en) k = if s < k then ((angF N es (turnR N outs en) (lastH (turnR N outs en) s).toNat : Nat) : Int) else 0
 | 0, _ => by rw [if_neg (by omega)]; rfl
 | k + 1, hk => by
  have ih := h.outer he k (by omega)
  unfold outT
  rw [h.tip he (by omega)]
  by_cases hks : k = s
  ·subst hks
   obtain ⟨d, o, h1, _, _, h4, _⟩ := h.srcRow he
   rw [if_pos (by rw [h1, Int.toNat_natCast]; exact ⟨by simp, h4⟩), if_pos (by omega)]
  ·rw [if_neg, ih]
   ·by_cases h1 : s < k
    ·rw [if_pos h1, if_pos (by omega)]
    ·rw [if_neg h1, if_neg (by omega)]
   ·rintro ⟨h1, h2⟩
    rw [decide_eq_false hks, Bool.or_false, decide_eq_true_eq] at h1
    obtain ⟨d, _, h3, _, _, h4, _⟩ := h.sinkRow he (by omega) h1
    rw [h3, Int.toNat_natCast] at h2
    omega
theorem PlanR.fits (h : PlanR N es ord outs en l rF s) : fitsF N es (turnR N outs en) (outT N es (turnR N outs en) N) (greatT es (turnR N outs en) N) = true := by
 have hR := h.right
 have hask : askA N es (turnR N outs en) = true := by
  apply fask_ask
  unfold faskB
  rw [show goodB (N : Int) es = true from tst_iff.2 h.good, right_iff.2 hR, decide_eq_true h.gen]
  rfl
 have hgl : ∀ x, x < N → (greatT es (turnR N outs en) N).getD x 0 = grOne es (turnR N outs en) x := fun x hx => by
  unfold greatT
  rw [List.getD_eq_getElem?_getD, List.getElem?_map, List.getElem?_range hx]; rfl
 unfold fitsF
 rw [show goodB (N : Int) es = true from tst_iff.2 h.good, hask, h.bim, greatT_length, decide_eq_true rfl]
 show fitRooms N es (turnR N outs en) _ _ = true
 unfold fitRooms
 rcases Nat.eq_zero_or_pos es.length with he | he
 ·rw [if_pos ((faces_none hR).2 he)]
  have htip : ∀ x, tipB es x = false := fun x => by
   have e0 : es = [] := List.length_eq_zero_iff.1 he
   subst e0
   rfl
  have hout : ∀ k, outT N es (turnR N outs en) k = 0 := by
   intro k
   induction k with
   | zero => rfl
   | succ k ih => unfold outT; rw [htip, if_neg (by simp), ih]
  rw [hout, hgl 0 (by have := h.sN; omega)]
  unfold grOne
  rw [htip]
  rfl
 ·have hF : (facesOf N es (turnR N outs en)).length ≠ 0 := fun e => by have := (faces_none hR).1 e; omega
  obtain ⟨d, o, h1, h2, h3, _, h5, h6, h7⟩ := h.srcRow he
  have hfd := angF_spec hR h2
  have hfo : angF N es (turnR N outs en) (ot o) = angF N es (turnR N outs en) d := by rw [← h5, angF_sig hR h2]
  have hout : outT N es (turnR N outs en) N = ((angF N es (turnR N outs en) d : Nat) : Int) := by
   rw [h.outer he N (Nat.le_refl _), if_pos h.sN, h1, Int.toNat_natCast]
  rw [if_neg hF, hout, if_pos ⟨by omega, by omega⟩, Int.toNat_natCast, turnR_length]
  have hrl : (roomE N es (turnR N outs en) (angF N es (turnR N outs en) d)).length = (facesOf N es (turnR N outs en)).length := by unfold roomE; rw [roomT_length]
  obtain ⟨r, e1, e2, e3⟩ := fitGo_ok (n := N) (es := es) (rs := turnR N outs en) (great := greatT es (turnR N outs en) N) (room := roomE N es (turnR N outs en) (angF N es (turnR N outs en) d)) (k := N) (fun x hx ht => by
   obtain ⟨_, _, g, k1, k2, k3⟩ := tip_row hR ht
   refine ⟨g, ?_, k2, k3, by rw [hrl]; exact (angF_spec hR k2).1⟩
   rw [hgl x hx]
   unfold grOne
   rw [ht, if_pos rfl, k1]) (fun x hx ht => by
   rw [hgl x hx]
   unfold grOne
   rw [ht, if_neg (by simp)])
  rw [e1]
  simp only [Bool.not_eq_true']
  rw [List.any_eq_false]
  intro v hv
  obtain ⟨f, hf, rfl⟩ := List.getElem_of_mem hv
  have hf' : f < (facesOf N es (turnR N outs en)).length := by rw [← hrl, ← e2]; exact hf
  have h8 := e3 f (by rw [hrl]; exact hf')
  rw [List.getD_eq_getElem?_getD, List.getElem?_eq_getElem hf, Option.getD_some] at h8
  unfold roomE at h8
  rw [roomT_getD hf', h.highs he h6 h7 hf', hfo] at h8
  have hT : (List.range N).countP (fun x => tipB es x && decide (angF N es (turnR N outs en) ((greatT es (turnR N outs en) N).getD x 0).toNat = f)) =
    ((List.range N).countP fun x => decide (outs.getD x [] = []) && decide (angF N es (turnR N outs en) (lastH (turnR N outs en) x).toNat = f)) + if f = angF N es (turnR N outs en) d then 1 else 0 := by
   rw [countP_split _ _ (fun x => decide (outs.getD x [] = []))]
   congr 1
   ·apply count_congr
    intro x hx
    rw [h.tip he hx, hgl x hx]
    unfold grOne
    rw [h.tip he hx]
    by_cases ho : outs.getD x [] = []
    ·rw [decide_eq_true ho, Bool.true_or, if_pos rfl, Bool.true_and, Bool.and_true]
    ·rw [decide_eq_false ho, Bool.and_false, Bool.false_and]
   ·have hso : outs.getD s [] ≠ [] := fun e => (h.sink he h.sN e).1 rfl
    by_cases hfd2 : f = angF N es (turnR N outs en) d
    ·rw [if_pos hfd2]
     refine count_one (a := s) h.sN ?_ fun x hx hq => ?_
     ·rw [h.tip he h.sN, hgl s h.sN]
      unfold grOne
      rw [h.tip he h.sN, h1]
      rw [decide_eq_false hso, decide_eq_true (rfl : s = s), Bool.false_or, if_pos rfl, Int.toNat_natCast, decide_eq_true hfd2.symm]
      rfl
     ·rw [h.tip he hx] at hq
      simp only [Bool.and_eq_true, Bool.or_eq_true, decide_eq_true_eq, Bool.not_eq_true', decide_eq_false_iff_not] at hq
      rcases hq.1.1 with h9 | h9
      ·exact absurd h9 hq.2
      ·exact h9
    ·rw [if_neg hfd2]
     apply count_zero
     intro x hx
     apply Bool.eq_false_iff.2
     intro hq
     rw [h.tip he hx, hgl x hx] at hq
     unfold grOne at hq
     rw [h.tip he hx] at hq
     simp only [Bool.and_eq_true, Bool.or_eq_true, decide_eq_true_eq, Bool.not_eq_true', decide_eq_false_iff_not] at hq
     rcases hq.1.1 with h9 | h9
     ·exact hq.2 h9
     ·have := hq.1.2
      rw [if_pos (.inr h9), h9, h1, Int.toNat_natCast] at this
      exact hfd2 this.symm
  rw [hT] at h8
  have : r[f] = 0 := by
   rw [h8]
   by_cases hq : f = angF N es (turnR N outs en) d
   ·rw [if_pos hq, if_pos hq, if_pos hq]; omega
   ·rw [if_neg hq, if_neg hq, if_neg hq]; omega
  rw [this]
  simp [nz]
end
end Go.Proofs.YtneeknlhlkpnpaaGreat
