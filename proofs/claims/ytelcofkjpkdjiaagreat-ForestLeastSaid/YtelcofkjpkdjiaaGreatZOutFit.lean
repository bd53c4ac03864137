import Derived.Test.YtelcofkjpkdjiaaGreatZOutMpr
/-
  Where the web is one of trees: the great angles, made (plain law). Written by an AI agent.
-/
namespace Go.Proofs.YtelcofkjpkdjiaaGreat
open Go.RowKit

theorem out_fit {n : Int} {es : List (Int × Int)} {rs : List (List Int)} (hf : faskB n es rs = true) (he : 0 < es.length) {f0 : Nat} (hO : OutP n es rs f0) :
    FitG (vtx es) (angF n es rs) (2 * es.length) (endsL rs.length es) (roomE n es rs f0) := by
  have ha := fask_ask hf
  have hR := ask_right ha
  have hin := right_inN hR
  have hG := fask_good hf
  rw [show n = (rs.length : Int) from hR.len.symm] at hG
  have hL := roH_ok (highs_in ha)
  change LeadP _ (roR n es rs) at hL
  have hroF := fun f (h : f < (facesOf n es rs).length) => roH_face_lt (highs_in ha) h
  change ∀ f, f < _ → roR n es rs f < _ at hroF
  have hweb := fun x => web_iff (x := x) hf
  have hbare := fun x (hx : ∀ q ∈ (angR n es rs).filter hiQ, q.2.1 ≠ x) => roH_bare hx (highs_in ha)
  change ∀ x, _ → roR n es rs _ = _ at hbare
  have hIn := highs_in ha
  have hmem := fun x => mem_high (x := x) ha
  have hfor := (out_sums hf he hO).1
  have hs1 := src_one hG
  obtain ⟨s, hs⟩ : ∃ s, bareV rs.length es Prod.snd = [s] := List.length_eq_one_iff.1 hs1
  have hsO : ¬ hasOdd es s ∧ s < rs.length := by
    have := (mem_src hin (N := rs.length) (x := s)).1 (by rw [hs]; simp)
    exact ⟨this.2, this.1⟩
  have hsE : hasEven es s := by
    rcases touch hin (ask_one ha) he hsO.2 with h | h
    · exact absurd h hsO.1
    · exact h
  have hsh : ∀ x, x < rs.length → ¬ hasEven es x → hasHigh es rs x := fun x hx hn => by
    rcases touch hin (ask_one ha) he hx with ho | ho
    · exact sink_high hR ho hn
    · exact absurd ho hn
  obtain ⟨hlt, ⟨hs0, hs0M, hs0v, hs0f⟩, _, hinn⟩ := hO
  rw [hs] at hs0v
  have hs0v : vtx es hs0 = s := by simpa using hs0v
  -- the quads of the High angles
  have hquad : ∀ q ∈ (angR n es rs).filter hiQ, q.1 < 2 * es.length ∧ vtx es q.1 = q.2.1 ∧ angF n es rs q.1 = q.2.2.1 := fun q hq => by
    obtain ⟨h1, _⟩ := List.mem_filter.1 hq
    unfold angR at h1
    rw [if_pos ha] at h1
    obtain ⟨h, hh, rfl⟩ := List.mem_map.1 h1
    exact ⟨List.mem_range.1 hh, rfl, rfl⟩
  have hcnt : ∀ f, ((List.range (2 * es.length)).filter fun h => decide (angK es rs h = 2)).countP (fun h => decide (angF n es rs h = f)) = ((angR n es rs).filter hiQ).countP fun q => decide (q.2.2.1 = f) := fun f => by
    unfold angR
    rw [if_pos ha, List.countP_filter, List.countP_filter]
    unfold angL
    rw [List.countP_map]
    rfl
  -- what is to be shown, face by face
  have hgoal : ∀ g : Nat → Nat, (∀ f, f < (facesOf n es rs).length → (endsL rs.length es).countP (fun x => decide (angF n es rs (g x) = f)) + 1 = ((angR n es rs).filter hiQ).countP (fun q => decide (q.2.2.1 = f)) + if f = f0 then 2 else 0) → ∀ f, f < (roomE n es rs f0).length → (roomE n es rs f0).getD f 0 = ((endsL rs.length es).countP (fun x => decide (angF n es rs (g x) = f)) : Nat) := fun g hg f hff => by
    unfold roomE at hff ⊢
    rw [roomT_length] at hff
    rw [roomT_getD hff]
    have h1 := hg f hff
    rw [← hcnt f, List.countP_filter] at h1
    have h2 : (List.range (2 * es.length)).countP (fun h => decide (angK es rs h = 2) && decide (angF n es rs h = f)) = (List.range (2 * es.length)).countP fun h => decide (angF n es rs h = f) && decide (angK es rs h = 2) := List.countP_congr fun h _ => by rw [Bool.and_comm]
    rw [h2]
    by_cases e : f = f0
    · rw [if_pos e] at h1 ⊢; omega
    · rw [if_neg e] at h1 ⊢; omega
  have hroE : roR n es rs = roH (facesOf n es rs).length ((angR n es rs).filter hiQ) := rfl
  generalize hH : (angR n es rs).filter hiQ = H at *
  generalize hF : (facesOf n es rs).length = F at *
  generalize hro : roR n es rs = ro at *
  -- the roots
  have hex : ∀ c, ∃ x, (c < F ∧ ro c = c ∧ c ≠ ro f0) → x < rs.length ∧ ro (F + x) = c ∧ hasEven es x := fun c => by
    by_cases h : c < F ∧ ro c = c ∧ c ≠ ro f0
    · have h1 := hinn c h.1 h.2.1
      rw [if_neg h.2.2] at h1
      unfold inC at h1
      obtain ⟨x, hx, hp⟩ := List.countP_pos_iff.1 (show 0 < _ by rw [h1]; exact Nat.one_pos)
      rw [Bool.and_eq_true, decide_eq_true_eq, tst_iff] at hp
      exact ⟨x, fun _ => ⟨List.mem_range.1 hx, hp.1, hp.2⟩⟩
    · exact ⟨0, fun h' => absurd h' h⟩
  obtain ⟨inn, hinnE⟩ := Classical.axiomOfChoice hex
  have hrt : ∀ c, c < F + rs.length → roH F H c = c → (if c < F then (if c = ro f0 then f0 else F + inn c) else c) < F + rs.length ∧ roH F H (if c < F then (if c = ro f0 then f0 else F + inn c) else c) = c := fun c hc hcc => by
    rw [← hroE] at hcc ⊢
    by_cases h1 : c < F
    · rw [if_pos h1]
      by_cases h2 : c = ro f0
      · rw [if_pos h2]
        exact ⟨by omega, h2.symm⟩
      · rw [if_neg h2]
        obtain ⟨k1, k2, _⟩ := hinnE c ⟨h1, hcc, h2⟩
        exact ⟨by omega, k2⟩
    · rw [if_neg h1]
      exact ⟨hc, hcc⟩
  obtain ⟨D, d1, d2, d3⟩ := orient H hIn hfor _ hrt
  rw [← hroE] at d3
  -- which things have an angle of their own
  have dface : ∀ f, f < F → D.count f = if f = f0 then 0 else 1 := fun f hff => by
    rw [d3 f (by omega), if_pos (hroF f hff)]
    by_cases h2 : ro f = ro f0
    · rw [if_pos h2]
      by_cases e : f = f0
      · rw [if_pos e, if_pos e.symm]
      · rw [if_neg e, if_neg (fun h => e h.symm)]
    · rw [if_neg h2, if_neg (show ¬ F + inn (ro f) = f by omega), if_neg (fun e => h2 (by rw [e]))]
  have dsink : ∀ x, x < rs.length → ¬ hasEven es x → D.count (F + x) = 1 := fun x hx hn => by
    have hr := (hweb x).2 (hsh x hx hn)
    have hfx := hL.fix (F + x) (by omega)
    rw [d3 (F + x) (by omega), if_pos hr]
    by_cases h2 : ro (F + x) = ro f0
    · rw [if_pos h2, if_neg (by omega)]
    · rw [if_neg h2, if_neg]
      intro e
      have e2 : inn (ro (F + x)) = x := by omega
      have := (hinnE (ro (F + x)) ⟨hr, hfx, h2⟩).2.2
      rw [e2] at this
      exact hn this
  have dinner : ∀ x, x < rs.length → hasEven es x → D.count (F + x) = 0 := fun x hx hev => by
    have hfx := hL.fix (F + x) (by omega)
    rw [d3 (F + x) (by omega)]
    by_cases hr : ro (F + x) < F
    · rw [if_pos hr]
      have h1 := hinn _ hr hfx
      by_cases h2 : ro (F + x) = ro f0
      · rw [if_pos h2] at h1
        unfold inC at h1
        rw [List.countP_eq_zero] at h1
        have := h1 x (List.mem_range.2 hx)
        rw [decide_eq_true rfl, tst_iff.2 hev] at this
        simp at this
      · rw [if_neg h2] at h1 ⊢
        obtain ⟨k1, k2, k3⟩ := hinnE _ ⟨hr, hfx, h2⟩
        unfold inC at h1
        have h3 := one_of_count h1 (List.mem_range.1 (List.mem_range.2 k1)) (by rw [decide_eq_true k2, tst_iff.2 k3]; rfl) fun y => decide (y = x)
        have h4 : 0 < (List.range rs.length).countP fun i => (decide (ro (F + i) = ro (F + x)) && tst (hasEven es i)) && decide (i = x) := List.countP_pos_iff.2 ⟨x, List.mem_range.2 hx, by rw [decide_eq_true rfl, tst_iff.2 hev, decide_eq_true rfl]; rfl⟩
        rw [h3] at h4
        by_cases e : inn (ro (F + x)) = x
        · rw [e, if_pos rfl]
        · rw [if_neg (by simpa using e)] at h4
          exact absurd h4 (Nat.lt_irrefl _)
    · rw [if_neg hr, hbare x fun q hq e => hr ((hweb x).2 ((hmem x).1 ⟨q, hq, e⟩)), if_pos rfl]
  -- by index
  have dlt : ∀ i, i < H.length → (D.getD i 0 = (H.getD i (0, 0, 0, 0)).2.2.1 ∨ D.getD i 0 = F + (H.getD i (0, 0, 0, 0)).2.1) ∧ (H.getD i (0, 0, 0, 0)).2.2.1 < F ∧ (H.getD i (0, 0, 0, 0)).2.1 < rs.length ∧ H.getD i (0, 0, 0, 0) ∈ H := fun i hi => by
    have hiD : i < D.length := by omega
    have e1 : D.getD i 0 = D[i] := by rw [List.getD_eq_getElem?_getD, List.getElem?_eq_getElem hiD]; rfl
    have e2 : H.getD i (0, 0, 0, 0) = H[i] := by rw [List.getD_eq_getElem?_getD, List.getElem?_eq_getElem hi]; rfl
    rw [e1, e2]
    exact ⟨d2 i hiD hi, (hIn _ (List.getElem_mem hi)).1, (hIn _ (List.getElem_mem hi)).2, List.getElem_mem hi⟩
  have dcount : ∀ v, D.count v = (List.range H.length).countP fun i => decide (D.getD i 0 = v) := fun v => by
    rw [← d1, List.count, countP_range D 0]
    exact List.countP_congr fun i _ => by rw [beq_iff_eq, decide_eq_true_eq]
  have hidx : ∀ x, ∃ i, (x < rs.length ∧ ¬ hasEven es x) → i < H.length ∧ D.getD i 0 = F + x := fun x => by
    by_cases h : x < rs.length ∧ ¬ hasEven es x
    · have h1 := dsink x h.1 h.2
      rw [dcount] at h1
      obtain ⟨i, hi, hp⟩ := List.countP_pos_iff.1 (show 0 < _ by rw [h1]; exact Nat.one_pos)
      exact ⟨i, fun _ => ⟨List.mem_range.1 hi, of_decide_eq_true hp⟩⟩
    · exact ⟨0, fun h' => absurd h' h⟩
  obtain ⟨idx, hidxE⟩ := Classical.axiomOfChoice hidx
  have hsinkq : ∀ x, x < rs.length → ¬ hasEven es x → (H.getD (idx x) (0, 0, 0, 0)).2.1 = x ∧ H.getD (idx x) (0, 0, 0, 0) ∈ H ∧ idx x < H.length := fun x hx hn => by
    obtain ⟨i1, i2⟩ := hidxE x ⟨hx, hn⟩
    obtain ⟨j1, j2, j3, j4⟩ := dlt _ i1
    refine ⟨?_, j4, i1⟩
    rcases j1 with h | h <;> omega
  refine ⟨fun x => if x = s then hs0 else (H.getD (idx x) (0, 0, 0, 0)).1, fun x hx => ?_, hgoal _ fun f hff => ?_⟩
  · show (if x = s then hs0 else (H.getD (idx x) (0, 0, 0, 0)).1) < 2 * es.length ∧ vtx es (if x = s then hs0 else (H.getD (idx x) (0, 0, 0, 0)).1) = x
    by_cases e : x = s
    · rw [if_pos e]
      exact ⟨hs0M, by rw [hs0v, e]⟩
    · rw [if_neg e]
      unfold endsL at hx
      rw [hs] at hx
      have hx2 : x ∈ bareV rs.length es Prod.fst := by
        rcases List.mem_append.1 hx with h | h
        · exact absurd (by simpa using h) e
        · exact h
      obtain ⟨x1, x2⟩ := (mem_snk hin).1 hx2
      obtain ⟨k1, k2, k3⟩ := hsinkq x x1 x2
      obtain ⟨q1, q2, q3⟩ := hquad _ k2
      exact ⟨q1, by rw [q2, k1]⟩
  · -- the count at a face
    have hsn : ¬ s ∈ bareV rs.length es Prod.fst := fun h => ((mem_snk hin).1 h).2 hsE
    have c1 : (endsL rs.length es).countP (fun x => decide (angF n es rs (if x = s then hs0 else (H.getD (idx x) (0, 0, 0, 0)).1) = f)) = (if f = f0 then 1 else 0) + (List.range rs.length).countP fun x => !tst (hasEven es x) && decide ((H.getD (idx x) (0, 0, 0, 0)).2.2.1 = f) := by
      unfold endsL
      rw [List.countP_append, hs, List.countP_singleton, if_pos rfl, hs0f]
      congr 1
      · by_cases e : f = f0
        · rw [if_pos e, if_pos (by simpa using e.symm)]
        · rw [if_neg e, if_neg (by simpa using fun h : f0 = f => e h.symm)]
      · rw [nodup_count (bareV_nodup rs.length Prod.fst) (fun x hx => ((mem_snk hin).1 hx).1)]
        refine count_congr fun x hx => ?_
        rw [Bool.eq_iff_iff, Bool.and_eq_true, Bool.and_eq_true, decide_eq_true_eq, decide_eq_true_eq, decide_eq_true_eq, Bool.not_eq_true', tst_not]
        constructor
        · rintro ⟨h1, h2⟩
          have hn := ((mem_snk hin).1 h1).2
          have e : x ≠ s := fun e => hsn (e ▸ h1)
          rw [if_neg e] at h2
          obtain ⟨k1, k2, _⟩ := hsinkq x hx hn
          exact ⟨hn, (hquad _ k2).2.2.symm.trans h2⟩
        · rintro ⟨hn, h2⟩
          have h1 := (mem_snk hin (N := rs.length)).2 ⟨hx, hn⟩
          have e : x ≠ s := fun e => hsn (e ▸ h1)
          rw [if_neg e]
          obtain ⟨k1, k2, _⟩ := hsinkq x hx hn
          exact ⟨h1, (hquad _ k2).2.2.trans h2⟩
    have c2 : H.countP (fun q => decide (q.2.2.1 = f)) = (List.range H.length).countP fun i => decide ((H.getD i (0, 0, 0, 0)).2.2.1 = f) := countP_range H (0, 0, 0, 0) _
    have c3 := countP_split (List.range H.length) (fun i => decide ((H.getD i (0, 0, 0, 0)).2.2.1 = f)) fun i => decide (D.getD i 0 = f)
    have c4 : (List.range H.length).countP (fun i => decide ((H.getD i (0, 0, 0, 0)).2.2.1 = f) && decide (D.getD i 0 = f)) = if f = f0 then 0 else 1 := by
      rw [← dface f hff, dcount]
      refine count_congr fun i hi => ?_
      obtain ⟨j1, j2, j3, j4⟩ := dlt i hi
      rw [Bool.eq_iff_iff, Bool.and_eq_true, decide_eq_true_eq, decide_eq_true_eq]
      constructor
      · exact fun h => h.2
      · intro h
        refine ⟨?_, h⟩
        rcases j1 with e | e <;> omega
    have c5 : (List.range H.length).countP (fun i => decide ((H.getD i (0, 0, 0, 0)).2.2.1 = f) && !decide (D.getD i 0 = f)) = (List.range rs.length).countP fun x => !tst (hasEven es x) && decide ((H.getD (idx x) (0, 0, 0, 0)).2.2.1 = f) := by
      rw [count_fiber (v := fun i => (H.getD i (0, 0, 0, 0)).2.1) (M := rs.length) _ H.length (fun k hk => (dlt k hk).2.2.1), ← sum_count]
      refine sum_congr fun x hx => ?_
      have e1 : (List.range H.length).countP (fun i => decide ((H.getD i (0, 0, 0, 0)).2.1 = x) && (decide ((H.getD i (0, 0, 0, 0)).2.2.1 = f) && !decide (D.getD i 0 = f))) = (List.range H.length).countP fun i => decide (D.getD i 0 = F + x) && decide ((H.getD i (0, 0, 0, 0)).2.2.1 = f) := count_congr fun i hi => by
        obtain ⟨j1, j2, j3, j4⟩ := dlt i hi
        rw [Bool.eq_iff_iff]
        simp only [Bool.and_eq_true, decide_eq_true_eq, Bool.not_eq_true', decide_eq_false_iff_not]
        constructor
        · rintro ⟨a, b, c⟩
          rcases j1 with e | e
          · omega
          · exact ⟨by omega, b⟩
        · rintro ⟨a, b⟩
          rcases j1 with e | e
          · omega
          · exact ⟨by omega, b, by omega⟩
      rw [e1]
      by_cases hev : hasEven es x
      · rw [if_neg (by rw [tst_iff.2 hev]; simp), List.countP_eq_zero]
        intro i hi h
        have h0 := dinner x hx hev
        rw [dcount, List.countP_eq_zero] at h0
        rw [Bool.and_eq_true] at h
        exact h0 i hi h.1
      · have h1 := dsink x hx hev
        rw [dcount] at h1
        obtain ⟨i1, i2⟩ := hidxE x ⟨hx, hev⟩
        rw [one_of_count h1 i1 (decide_eq_true i2) fun i => decide ((H.getD i (0, 0, 0, 0)).2.2.1 = f), tst_not.2 hev]
        rfl
    rw [c1, c2, c3, c4, c5]
    by_cases e : f = f0
    · rw [if_pos e, if_pos e, if_pos e]; omega
    · rw [if_neg e, if_neg e, if_neg e]; omega
end Go.Proofs.YtelcofkjpkdjiaaGreat
