import Derived.Test.YtelcofkjpkdjiaaGreatZOutMp
import Derived.Test.YtelcofkjpkdjiaaGreatZOrient
/-
  Where the web is one of trees, great angles fit with each face that it tells (plain law). Written by an AI agent.
-/
namespace Go.Proofs.YtelcofkjpkdjiaaGreat
open Go.RowKit

theorem countP_range {α : Type} (l : List α) (d : α) (p : α → Bool) : l.countP p = (List.range l.length).countP fun i => p (l.getD i d) := by
  have e : l = (List.range l.length).map fun i => l.getD i d := by
    apply List.ext_getElem
    · simp
    · intro i h1 h2
      simp [h1]
  have h := congrArg (List.countP p) e
  rw [List.countP_map] at h
  exact h
theorem one_of_count {K : Nat} {p : Nat → Bool} (h : (List.range K).countP p = 1) {i0 : Nat} (h0 : i0 < K) (hp : p i0 = true) (q : Nat → Bool) : (List.range K).countP (fun i => p i && q i) = if q i0 = true then 1 else 0 := by
  have hs := countP_split (List.range K) p q
  by_cases hq : q i0 = true
  · have : 0 < (List.range K).countP fun i => p i && q i := List.countP_pos_iff.2 ⟨i0, List.mem_range.2 h0, by rw [hp, hq]; rfl⟩
    rw [if_pos hq]
    omega
  · have : 0 < (List.range K).countP fun i => p i && !q i := List.countP_pos_iff.2 ⟨i0, List.mem_range.2 h0, by
      rw [hp]
      cases hh : q i0 with
      | true => exact absurd hh hq
      | false => rfl⟩
    rw [if_neg hq]
    omega
section
variable {n : Int} {es : List (Int × Int)} {rs : List (List Int)}
theorem high_turn (hR : RightP n es rs) (hin : InN rs.length es) :
    (List.range (2 * es.length)).countP (fun h => decide (angK es rs h = 2)) + ((List.range rs.length).map (turnN es rs)).sum = es.length := by
  have hv : ∀ k, k < 2 * es.length → vtx es k < rs.length := fun k hk => vtx_lt hin hk
  have h1 := count_fiber (v := vtx es) (M := rs.length) (fun h => decide (angK es rs h = 2)) (2 * es.length) hv
  have h2 := count_fiber (v := vtx es) (M := rs.length) (fun k => !ev k) (2 * es.length) hv
  rw [count_odd] at h2
  have h5 : ((List.range rs.length).map fun x => (List.range (2 * es.length)).countP fun k => decide (vtx es k = x) && !ev k).sum = ((List.range rs.length).map fun x => ((List.range (2 * es.length)).countP fun k => decide (vtx es k = x) && decide (angK es rs k = 2)) + turnN es rs x).sum := by
    refine sum_congr fun x _ => ?_
    have h6 := countP_split (List.range (2 * es.length)) (fun k => decide (vtx es k = x) && !ev k) (fun k => ev (sig es rs k))
    have e1 : (List.range (2 * es.length)).countP (fun k => decide (vtx es k = x) && !ev k && ev (sig es rs k)) = turnN es rs x := count_congr fun k _ => by cases ev k <;> cases ev (sig es rs k) <;> simp
    have e2 : (List.range (2 * es.length)).countP (fun k => decide (vtx es k = x) && !ev k && !ev (sig es rs k)) = (List.range (2 * es.length)).countP (fun k => decide (vtx es k = x) && decide (angK es rs k = 2)) := count_congr fun k _ => by
      unfold angK
      rw [Bool.eq_iff_iff]
      simp only [Bool.and_eq_true, decide_eq_true_eq, kindF_high]
      cases ev k <;> cases ev (sig es rs k) <;> simp
    omega
  rw [sum_add] at h5
  omega
/-- the counts of a web of trees -/
theorem out_sums (hf : faskB n es rs = true) (he : 0 < es.length) {f0 : Nat} (hO : OutP n es rs f0) :
    Forest (facesOf n es rs).length rs.length ((angR n es rs).filter hiQ) ∧ bimB rs = true := by
  have ha := fask_ask hf
  have hR := ask_right ha
  have hin := right_inN hR
  have hG := fask_good hf
  rw [show n = (rs.length : Int) from hR.len.symm] at hG
  have hL := roH_ok (highs_in ha)
  change LeadP _ (roR n es rs) at hL
  have hroF := fun f (h : f < (facesOf n es rs).length) => roH_face_lt (highs_in ha) h
  change ∀ f, f < _ → roR n es rs f < _ at hroF
  have hweb := fun x => web_iff (x := x) hf
  have hbare := fun x (hx : ∀ q ∈ (angR n es rs).filter hiQ, q.2.1 ≠ x) => roH_bare hx (highs_in ha)
  have hIn := highs_in ha
  have hEul := faces_euler ha he
  have hends := ends_count hin (ask_one ha) he
  have hsrc := src_one hG
  have hsnk := snk_count hin (N := rs.length) (es := es)
  have hturn := high_turn hR hin
  have hmem := fun x => mem_high (x := x) ha
  have hAl : ((angR n es rs).filter hiQ).length = (List.range (2 * es.length)).countP fun h => decide (angK es rs h = 2) := by
    unfold angR
    rw [if_pos ha, ← List.countP_eq_length_filter]
    unfold angL
    rw [List.countP_map]
    rfl
  have hsh : ∀ x, x < rs.length → ¬ hasEven es x → hasHigh es rs x := fun x hx hn => by
    rcases touch hin (ask_one ha) he hx with ho | ho
    · exact sink_high hR ho hn
    · exact absurd ho hn
  obtain ⟨hlt, _, htree, hinn⟩ := hO
  have hroE : roR n es rs = roH (facesOf n es rs).length ((angR n es rs).filter hiQ) := rfl
  generalize hH : (angR n es rs).filter hiQ = H at *
  generalize hF : (facesOf n es rs).length = F at *
  generalize hro : roR n es rs = ro at *
  have fixF : ∀ y, y < F + rs.length → (decide (ro (ro y) = ro y)) = true := fun y hy => decide_eq_true (hL.fix y hy)
  -- sums over the leaders
  have SA : ((List.range F).map fun c => if ro c = c then partA ro H c else 0).sum = H.length := by
    have := sum_sel F (fun c => ro c = c) (fun q : Quad => ro q.2.2.1) H fun q hq => hroF _ (hIn q hq).1
    unfold partA
    rw [this, List.countP_eq_length]
    exact fun q hq => fixF _ (by have := (hIn q hq).1; omega)
  have SF : ((List.range F).map fun c => if ro c = c then (partF ro F c).length else 0).sum = F := by
    have := sum_sel F (fun c => ro c = c) (fun y : Nat => ro y) (List.range F) fun y hy => hroF _ (List.mem_range.1 hy)
    have e : ∀ c, (partF ro F c).length = (List.range F).countP fun y => decide (ro y = c) := fun c => by
      unfold partF; rw [List.countP_eq_length_filter]
    simp only [e]
    rw [this, List.countP_eq_length.2, List.length_range]
    exact fun y hy => fixF _ (by have := List.mem_range.1 hy; omega)
  have SV : ∀ p : Nat → Bool, ((List.range F).map fun c => if ro c = c then (List.range rs.length).countP (fun x => decide (ro (F + x) = c) && p x) else 0).sum = (List.range rs.length).countP fun x => decide (ro (F + x) < F) && p x := fun p => by
    have := sum_sel F (fun c => ro c = c) (fun x : Nat => ro (F + x)) ((List.range rs.length).filter fun x => decide (ro (F + x) < F) && p x) fun x hx => by
      have := (List.mem_filter.1 hx).2
      rw [Bool.and_eq_true, decide_eq_true_eq] at this
      exact this.1
    rw [List.countP_eq_length.2, ← List.countP_eq_length_filter] at this
    · rw [← this]
      refine sum_congr fun c hc => ?_
      by_cases h : ro c = c
      · rw [if_pos h, if_pos h, List.countP_filter]
        refine List.countP_congr fun x _ => ?_
        simp only [Bool.and_eq_true, decide_eq_true_eq]
        exact ⟨fun ⟨a, b⟩ => ⟨a, by omega, b⟩, fun ⟨a, _, b⟩ => ⟨a, b⟩⟩
      · rw [if_neg h, if_neg h]
    · exact fun x hx => fixF _ (by have := List.mem_range.1 (List.mem_filter.1 hx).1; omega)
  have SL : ((List.range F).map fun c => if decide (ro c = c) = true then 1 else 0).sum = (List.range F).countP fun c => decide (ro c = c) := sum_count _ _
  have SI : ((List.range F).map fun c => if ro c = c then inC es ro F rs.length c else 0).sum = (List.range rs.length).countP fun x => decide (ro (F + x) < F) && tst (hasEven es x) := SV _
  have SVV : ((List.range F).map fun c => if ro c = c then (partV ro F rs.length c).length else 0).sum = (List.range rs.length).countP fun x => decide (ro (F + x) < F) := by
    have := SV fun _ => true
    simp only [Bool.and_true] at this
    rw [← this]
    refine sum_congr fun c _ => ?_
    unfold partV
    rw [List.countP_eq_length_filter]
  have S0 : ((List.range F).map fun c => if ro f0 = c then 1 else 0).sum = 1 := by rw [sum_ind, if_pos (hroF f0 hlt)]
  -- trees
  have E1 : H.length + (List.range F).countP (fun c => decide (ro c = c)) = F + (List.range rs.length).countP (fun x => decide (ro (F + x) < F)) := by
    rw [← SA, ← SL]
    conv => rhs; rw [← SVV]
    have e : ((List.range F).map fun c => (if ro c = c then (partF ro F c).length else 0) + if ro c = c then (partV ro F rs.length c).length else 0).sum = F + ((List.range F).map fun c => if ro c = c then (partV ro F rs.length c).length else 0).sum := by rw [sum_add, SF]
    rw [← e, ← sum_add]
    refine sum_congr fun c hc => ?_
    by_cases h : ro c = c
    · rw [if_pos h, if_pos h, if_pos h, if_pos (decide_eq_true h)]
      exact htree c hc h
    · rw [if_neg h, if_neg h, if_neg h, if_neg (by simpa using h)]
  have E2 : (List.range rs.length).countP (fun x => decide (ro (F + x) < F) && tst (hasEven es x)) + 1 = (List.range F).countP fun c => decide (ro c = c) := by
    have e : ((List.range F).map fun c => if ro c = c then inC es ro F rs.length c else 0).sum + ((List.range F).map fun c => if ro f0 = c then 1 else 0).sum = ((List.range F).map fun c => if decide (ro c = c) = true then 1 else 0).sum := by
      rw [← sum_add]
      refine sum_congr fun c hc => ?_
      by_cases h : ro c = c
      · rw [if_pos h, if_pos (decide_eq_true h), hinn c hc h]
        by_cases e : c = ro f0
        · rw [if_pos e, if_pos e.symm]
        · rw [if_neg e, if_neg (fun h => e h.symm)]
      · have e : ro f0 ≠ c := fun e => h (by rw [← e]; exact hL.fix f0 (by omega))
        rw [if_neg h, if_neg e, if_neg (by simpa using h)]
    rw [SI, S0, SL] at e
    exact e
  -- the web's vertices: sinks, and inner ones
  have E3 : (List.range rs.length).countP (fun x => decide (ro (F + x) < F)) = (List.range rs.length).countP (fun x => decide (ro (F + x) < F) && tst (hasEven es x)) + (bareV rs.length es Prod.fst).length := by
    rw [hsnk, countP_split (List.range rs.length) (fun x => decide (ro (F + x) < F)) fun x => tst (hasEven es x)]
    congr 1
    refine count_congr fun x hx => ?_
    rw [Bool.eq_iff_iff, Bool.and_eq_true, decide_eq_true_eq, Bool.not_eq_true', tst_not, tst_iff]
    exact ⟨fun h => h.2, fun h => ⟨(hweb x).2 (hsh x hx h), h⟩⟩
  refine ⟨?_, ?_⟩
  · unfold Forest
    rw [← hroE, List.range_add, List.countP_append, List.countP_map]
    have e : (List.range rs.length).countP ((fun y => decide (ro y = y)) ∘ fun x => F + x) + (List.range rs.length).countP (fun x => decide (ro (F + x) < F)) = rs.length := by
      have h1 := countP_or2 (List.range rs.length) (fun x => decide (ro (F + x) = F + x)) (fun x => decide (ro (F + x) < F)) fun x _ ⟨p, q⟩ => by
        have p := of_decide_eq_true p
        have q := of_decide_eq_true q
        omega
      have h2 : (List.range rs.length).countP (fun x => decide (ro (F + x) = F + x) || decide (ro (F + x) < F)) = rs.length := by
        rw [List.countP_eq_length.2, List.length_range]
        intro x hx
        by_cases h : ro (F + x) < F
        · rw [decide_eq_true h, Bool.or_true]
        · have hb := hbare x fun q hq e => h ((hweb x).2 ((hmem x).1 ⟨q, hq, e⟩))
          rw [← hroE] at hb
          rw [decide_eq_true hb, Bool.true_or]
      have h3 : (List.range rs.length).countP ((fun y => decide (ro y = y)) ∘ fun x => F + x) = (List.range rs.length).countP (fun x => decide (ro (F + x) = F + x)) := rfl
      omega
    omega
  · rw [bim_iff hR]
    have hsum : ((List.range rs.length).map (turnN es rs)).sum = bothN es rs.length := by
      unfold endsL at hends
      rw [List.length_append, hsrc] at hends
      omega
    have hb : ((List.range rs.length).map fun x => if tst (hasOdd es x ∧ hasEven es x) = true then 1 else 0).sum = bothN es rs.length := sum_count _ _
    have hle : ∀ x, (if tst (hasOdd es x ∧ hasEven es x) = true then 1 else 0) ≤ turnN es rs x := fun x => by
      by_cases h : hasOdd es x ∧ hasEven es x
      · rw [if_pos (tst_iff.2 h)]
        exact (turn_pos hR x).2 h
      · rw [if_neg (by rw [tst_iff]; exact h)]
        exact Nat.zero_le _
    have hq := le_sum_eq (f := fun x => (((if tst (hasOdd es x ∧ hasEven es x) = true then 1 else 0 : Nat)) : Int)) (g := fun x => ((turnN es rs x : Nat) : Int)) (k := rs.length) (fun x _ => by have := hle x; omega) (by
      rw [← sum_cast, ← sum_cast, hb, hsum])
    intro x hx
    have := hq x hx
    rw [plain_two hR]
    have h2 : (if tst (hasOdd es x ∧ hasEven es x) = true then 1 else 0 : Nat) = turnN es rs x := by omega
    rw [← h2]
    split <;> omega
end
end Go.Proofs.YtelcofkjpkdjiaaGreat
