import Derived.Test.YtelcofkjpkdjiaaGreatZSinkT3
import Derived.Test.YtelcofkjpkdjiaaGreatZFit2
import Derived.Test.YtelcofkjpkdjiaaGreatZFaceOrb
import Derived.Test.YtelcofkjpkdjiaaGreatZOrdm
/-
  Where great angles fit, the web is one of trees, and the outer face stands at the source (plain law). Written by an AI agent.
-/
namespace Go.Proofs.YtelcofkjpkdjiaaGreat
open Go.RowKit

theorem sum_sel {α : Type} (F : Nat) (P : Nat → Prop) [DecidablePred P] (k : α → Nat) : ∀ l : List α, (∀ a ∈ l, k a < F) → ((List.range F).map fun f => if P f then l.countP (fun a => decide (k a = f)) else 0).sum = l.countP fun a => decide (P (k a))
  | [], _ => by
    have : ((List.range F).map fun f => if P f then ([] : List α).countP (fun a => decide (k a = f)) else 0) = (List.range F).map fun _ => 0 := List.map_congr_left fun f _ => by split <;> rfl
    rw [this]
    generalize List.range F = r
    induction r with
    | nil => rfl
    | cons b r ih => simpa using ih
  | a :: l, h => by
    have ih := sum_sel F P k l fun b hb => h b (by simp [hb])
    have e : ((List.range F).map fun f => if P f then (a :: l).countP (fun a => decide (k a = f)) else 0).sum = ((List.range F).map fun f => (if P f then l.countP (fun a => decide (k a = f)) else 0) + if k a = f then (if P (k a) then 1 else 0) else 0).sum := sum_congr fun f _ => by
      rw [List.countP_cons]
      by_cases h1 : k a = f
      · subst h1
        by_cases h2 : P (k a)
        · rw [if_pos h2, if_pos h2, if_pos rfl, if_pos h2, if_pos (decide_eq_true rfl)]
        · rw [if_neg h2, if_neg h2, if_pos rfl, if_neg h2]
      · rw [if_neg h1]
        by_cases h2 : P f
        · rw [if_pos h2, if_pos h2, if_neg (by simpa using h1)]
        · rw [if_neg h2, if_neg h2]
    rw [e, sum_add, ih, sum_ind, if_pos (h a (by simp)), List.countP_cons]
    by_cases h2 : P (k a)
    · rw [if_pos h2, if_pos (decide_eq_true h2)]
    · rw [if_neg h2, if_neg (by simpa using h2)]
/-- inner vertices of the part that c leads -/
noncomputable def inC (es : List (Int × Int)) (ro : Nat → Nat) (F N c : Nat) : Nat := (List.range N).countP fun x => decide (ro (F + x) = c) && tst (hasEven es x)
noncomputable def snC (es : List (Int × Int)) (ro : Nat → Nat) (F N c : Nat) : Nat := (List.range N).countP fun x => decide (ro (F + x) = c) && !tst (hasEven es x)
theorem partV_split (es : List (Int × Int)) (ro : Nat → Nat) (F N c : Nat) : (partV ro F N c).length = inC es ro F N c + snC es ro F N c := by
  unfold partV inC snC
  rw [← List.countP_eq_length_filter]
  exact countP_split _ _ _
/-- what the web tells of an outer face -/
structure OutP (n : Int) (es : List (Int × Int)) (rs : List (List Int)) (f0 : Nat) : Prop where
  lt : f0 < (facesOf n es rs).length
  src : ∃ h, h < 2 * es.length ∧ vtx es h ∈ bareV rs.length es Prod.snd ∧ angF n es rs h = f0
  tree : ∀ c, c < (facesOf n es rs).length → roR n es rs c = c → partA (roR n es rs) ((angR n es rs).filter hiQ) c + 1 = (partF (roR n es rs) (facesOf n es rs).length c).length + (partV (roR n es rs) (facesOf n es rs).length rs.length c).length
  inn : ∀ c, c < (facesOf n es rs).length → roR n es rs c = c → inC es (roR n es rs) (facesOf n es rs).length rs.length c = if c = roR n es rs f0 then 0 else 1
section
variable {n : Int} {es : List (Int × Int)} {rs : List (List Int)}
theorem high_has (ha : askA n es rs = true) {h : Nat} (hh : h < 2 * es.length) (hk : angK es rs h = 2) : roR n es rs (angF n es rs h) = roR n es rs ((facesOf n es rs).length + vtx es h) := by
  have hm : angQ n es rs h ∈ (angR n es rs).filter hiQ := by
    unfold angR
    rw [if_pos ha]
    exact List.mem_filter.2 ⟨List.mem_map.2 ⟨h, List.mem_range.2 hh, rfl⟩, decide_eq_true hk⟩
  exact roH_has (F := (facesOf n es rs).length) hm
theorem partA_count (ha : askA n es rs = true) (ro : Nat → Nat) (c : Nat) : partA ro ((angR n es rs).filter hiQ) c = ((List.range (2 * es.length)).filter fun h => decide (angK es rs h = 2)).countP fun h => decide (ro (angF n es rs h) = c) := by
  unfold partA angR
  rw [if_pos ha, List.countP_filter]
  unfold angL
  rw [List.countP_map, List.countP_filter]
  rfl
theorem sizeW_split (ro : Nat → Nat) (F c : Nat) : ∀ N, sizeW (F + N) ro c = (partF ro F c).length + (partV ro F N c).length
  | 0 => by
    unfold sizeW partF partV
    rw [← List.countP_eq_length_filter]
    simp
  | N + 1 => by
    have ih := sizeW_split ro F c N
    have e : partV ro F (N + 1) c = partV ro F N c ++ if ro (F + N) = c then [N] else [] := by
      unfold partV
      rw [List.range_succ, List.filter_append]
      by_cases h : ro (F + N) = c <;> simp [h]
    rw [e, List.length_append, ← Nat.add_assoc F N 1, ← Nat.add_assoc (partF ro F c).length, ← ih]
    unfold sizeW
    rw [List.range_succ, List.countP_append]
    by_cases h : ro (F + N) = c <;> simp [h]
theorem fit_face (ha : askA n es rs = true) {f0 f : Nat} {g : Nat → Nat} (hfF : f < (facesOf n es rs).length) (hg : ∀ f, f < (roomE n es rs f0).length → (roomE n es rs f0).getD f 0 = ((endsL rs.length es).countP (fun x => decide (angF n es rs (g x) = f)) : Nat)) :
    (endsL rs.length es).countP (fun x => decide (angF n es rs (g x) = f)) + 1 = ((List.range (2 * es.length)).filter fun h => decide (angK es rs h = 2)).countP (fun h => decide (angF n es rs h = f)) + if f = f0 then 2 else 0 := by
  have h1 := hg f (by unfold roomE; rw [roomT_length]; exact hfF)
  unfold roomE at h1
  rw [roomT_getD hfF] at h1
  have h2 : ((List.range (2 * es.length)).filter fun h => decide (angK es rs h = 2)).countP (fun h => decide (angF n es rs h = f)) = (List.range (2 * es.length)).countP fun h => decide (angK es rs h = 2) && decide (angF n es rs h = f) := by
    rw [List.countP_filter]
    exact List.countP_congr fun h _ => by rw [Bool.and_comm]
  rw [h2]
  by_cases e : f = f0
  · rw [if_pos e] at h1 ⊢; omega
  · rw [if_neg e] at h1 ⊢; omega
theorem out_mp (hf : faskB n es rs = true) (he : 0 < es.length) {f0 : Nat} (hf0 : f0 < (facesOf n es rs).length) (hfit : FitG (vtx es) (angF n es rs) (2 * es.length) (endsL rs.length es) (roomE n es rs f0)) : OutP n es rs f0 := by
  have ha := fask_ask hf
  have hR := ask_right ha
  have hin := right_inN hR
  have hG := fask_good hf
  rw [show n = (rs.length : Int) from hR.len.symm] at hG
  have hL := roH_ok (highs_in ha)
  have hpc := part_conn ((angR n es rs).filter hiQ) (highs_in ha)
  have hst := fun c (hc : c < (facesOf n es rs).length) (hcc : roR n es rs c = c) hX => sink_tree hf he hc hcc hX
  change LeadP _ (roR n es rs) at hL
  change ∀ c, c < _ → roR n es rs c = c → sizeW _ (roR n es rs) c ≤ partA (roR n es rs) _ c + 1 at hpc
  have hhigh := fun h (hh : h < 2 * es.length) => high_has ha hh
  have hroF := fun f (h : f < (facesOf n es rs).length) => roH_face_lt (highs_in ha) h
  change ∀ f, f < _ → roR n es rs f < _ at hroF
  have hPA := partA_count (n := n) (es := es) (rs := rs) ha (roR n es rs)
  obtain ⟨g, hgV, hgR⟩ := hfit
  have hff := fun f (h : f < (facesOf n es rs).length) => fit_face ha h hgR
  have hFlt := fun h (hh : h < 2 * es.length) => (angF_spec hR hh).1
  -- the source
  have hs1 := src_one hG
  obtain ⟨s, hs⟩ : ∃ s, bareV rs.length es Prod.snd = [s] := List.length_eq_one_iff.1 hs1
  have hsE : s ∈ endsL rs.length es := by unfold endsL; rw [hs]; simp
  obtain ⟨hgs, hgsv⟩ := hgV s hsE
  -- sinks choose in their own parts
  have hsink : ∀ x, x < rs.length → ¬ hasEven es x → x ∈ endsL rs.length es := fun x hx hn => by
    unfold endsL
    exact List.mem_append_right _ ((mem_snk hin).2 ⟨hx, hn⟩)
  have hsro : ∀ x, x < rs.length → ¬ hasEven es x → angK es rs (g x) = 2 ∧ roR n es rs (angF n es rs (g x)) = roR n es rs ((facesOf n es rs).length + x) := fun x hx hn => by
    obtain ⟨k1, k2⟩ := hgV x (hsink x hx hn)
    have hk := sink_all hR k1 (by rw [k2]; exact hn)
    have := hhigh _ k1 hk
    rw [k2] at this
    exact ⟨hk, this⟩
  have hcE : ∀ c, (endsL rs.length es).countP (fun x => decide (roR n es rs (angF n es rs (g x)) = c)) = (if roR n es rs (angF n es rs (g s)) = c then 1 else 0) + snC es (roR n es rs) (facesOf n es rs).length rs.length c := fun c => by
    unfold endsL
    rw [List.countP_append, hs, List.countP_singleton]
    congr 1
    · by_cases h : roR n es rs (angF n es rs (g s)) = c <;> simp [h]
    · rw [nodup_count (bareV_nodup rs.length Prod.fst) (fun x hx => ((mem_snk hin).1 hx).1)]
      unfold snC
      refine count_congr fun x hx => ?_
      rw [Bool.eq_iff_iff]
      simp only [Bool.and_eq_true, decide_eq_true_eq, Bool.not_eq_true', tst_not]
      constructor
      · rintro ⟨h1, h2⟩
        have hn := ((mem_snk hin).1 h1).2
        exact ⟨((hsro x hx hn).2).symm.trans h2, hn⟩
      · rintro ⟨h1, hn⟩
        exact ⟨(mem_snk hin).2 ⟨hx, hn⟩, (hsro x hx hn).2.trans h1⟩
  -- the count of each part
  have hcount : ∀ c, (if roR n es rs (angF n es rs (g s)) = c then 1 else 0) + snC es (roR n es rs) (facesOf n es rs).length rs.length c + (partF (roR n es rs) (facesOf n es rs).length c).length = partA (roR n es rs) ((angR n es rs).filter hiQ) c + if roR n es rs f0 = c then 2 else 0 := fun c => by
    rw [← hcE c, hPA c]
    have s1 := sum_sel (facesOf n es rs).length (fun f => roR n es rs f = c) (fun x => angF n es rs (g x)) (endsL rs.length es) fun x hx => hFlt _ (hgV x hx).1
    have s2 := sum_sel (facesOf n es rs).length (fun f => roR n es rs f = c) (fun h => angF n es rs h) ((List.range (2 * es.length)).filter fun h => decide (angK es rs h = 2)) fun h hh => hFlt _ (List.mem_range.1 (List.mem_filter.1 hh).1)
    have s3 : ((List.range (facesOf n es rs).length).map fun f => if decide (roR n es rs f = c) = true then 1 else 0).sum = (partF (roR n es rs) (facesOf n es rs).length c).length := by
      rw [sum_count]
      unfold partF
      rw [List.countP_eq_length_filter]
    have s4 : ((List.range (facesOf n es rs).length).map fun f => if f0 = f then (if roR n es rs f0 = c then 2 else 0) else 0).sum = if roR n es rs f0 = c then 2 else 0 := by
      rw [sum_ind, if_pos hf0]
    rw [← s1, ← s2, ← s3, ← s4, ← sum_add, ← sum_add]
    refine sum_congr fun f hfF => ?_
    have := hff f hfF
    by_cases h1 : roR n es rs f = c
    · rw [if_pos h1, if_pos h1, if_pos (decide_eq_true h1), this]
      by_cases h2 : f = f0
      · subst h2
        rw [if_pos rfl, if_pos rfl, if_pos h1]
      · rw [if_neg h2, if_neg (fun e => h2 e.symm)]
    · rw [if_neg h1, if_neg h1, if_neg (by simpa using h1)]
      by_cases h2 : f0 = f
      · subst h2
        rw [if_pos rfl, if_neg h1]
      · rw [if_neg h2]
  have hsz : ∀ c, sizeW ((facesOf n es rs).length + rs.length) (roR n es rs) c = _ := fun c => sizeW_split (roR n es rs) (facesOf n es rs).length c rs.length
  have hVs := fun c => partV_split es (roR n es rs) (facesOf n es rs).length rs.length c
  -- the outer face's part
  have hc0 := hroF f0 hf0
  have hc0f := hL.fix f0 (by omega)
  have q1 := hcount (roR n es rs f0)
  have q2 := hpc _ (by omega) hc0f
  rw [hsz, hVs] at q2
  rw [if_pos rfl] at q1
  have ht0 : roR n es rs (angF n es rs (g s)) = roR n es rs f0 := by
    by_cases h : roR n es rs (angF n es rs (g s)) = roR n es rs f0
    · exact h
    · rw [if_neg h] at q1
      omega
  rw [if_pos ht0] at q1
  refine ⟨hf0, ?_, fun c hc hcc => ?_, fun c hc hcc => ?_⟩
  · -- the outer face stands at the source
    refine ⟨g s, hgs, by rw [hs, hgsv]; simp, ?_⟩
    by_cases e : angF n es rs (g s) = f0
    · exact e
    · exfalso
      have h1 := hff f0 hf0
      rw [if_pos rfl] at h1
      have h2 : (endsL rs.length es).countP (fun x => decide (angF n es rs (g x) = f0)) = ((bareV rs.length es Prod.fst).filter fun x => decide (angF n es rs (g x) = f0)).length := by
        unfold endsL
        rw [List.countP_append, hs, List.countP_singleton, if_neg (by simpa using e), Nat.zero_add, List.countP_eq_length_filter]
      have h3 : ((bareV rs.length es Prod.fst).filter fun x => decide (angF n es rs (g x) = f0)).length ≤ (((List.range (2 * es.length)).filter fun h => decide (angK es rs h = 2)).filter fun h => decide (angF n es rs h = f0)).length := by
        have hnd : (((bareV rs.length es Prod.fst).filter fun x => decide (angF n es rs (g x) = f0)).map fun x => ((g x : Nat) : Int)).Nodup := by
          refine nodup_map_on ((bareV_nodup rs.length Prod.fst).filter _) fun a ha' b hb' hab => ?_
          have a1 := (mem_snk hin).1 (List.mem_filter.1 ha').1
          have b1 := (mem_snk hin).1 (List.mem_filter.1 hb').1
          have a2 := (hgV a (hsink a a1.1 a1.2)).2
          have b2 := (hgV b (hsink b b1.1 b1.2)).2
          have hab' : ((g a : Nat) : Int) = ((g b : Nat) : Int) := hab
          have : g a = g b := by omega
          rw [← a2, ← b2, this]
        have := nodup_sub_len hnd (l' := (((List.range (2 * es.length)).filter fun h => decide (angK es rs h = 2)).filter fun h => decide (angF n es rs h = f0)).map fun h => ((h : Nat) : Int)) fun a ha' => by
          obtain ⟨x, hx, rfl⟩ := List.mem_map.1 ha'
          obtain ⟨x1, x2⟩ := List.mem_filter.1 hx
          have x3 := (mem_snk hin).1 x1
          refine List.mem_map.2 ⟨g x, List.mem_filter.2 ⟨List.mem_filter.2 ⟨List.mem_range.2 (hgV x (hsink x x3.1 x3.2)).1, decide_eq_true (hsro x x3.1 x3.2).1⟩, x2⟩, rfl⟩
        simpa using this
      rw [← List.countP_eq_length_filter (l := (List.range (2 * es.length)).filter fun h => decide (angK es rs h = 2))] at h3
      rw [h2] at h1
      omega
  · have p1 := hcount c
    have p2 := hpc c (by omega) hcc
    rw [hsz, hVs] at p2
    rw [hVs]
    by_cases e : roR n es rs f0 = c
    · rw [e] at q1 q2
      omega
    · rw [if_neg e, ht0, if_neg e] at p1
      by_cases h0 : inC es (roR n es rs) (facesOf n es rs).length rs.length c = 0
      · have h3 := hst c hc hcc fun x hx hxc hev => by
          unfold inC at h0
          rw [List.countP_eq_zero] at h0
          have := h0 x (List.mem_range.2 hx)
          rw [decide_eq_true hxc, tst_iff.2 hev] at this
          simp at this
        rw [hVs] at h3
        omega
      · omega
  · have p1 := hcount c
    have p2 := hpc c (by omega) hcc
    rw [hsz, hVs] at p2
    by_cases e : roR n es rs f0 = c
    · rw [if_pos e.symm]
      rw [e] at q1 q2
      omega
    · rw [if_neg (fun h => e h.symm)]
      rw [if_neg e, ht0, if_neg e] at p1
      by_cases h0 : inC es (roR n es rs) (facesOf n es rs).length rs.length c = 0
      · have h3 := hst c hc hcc fun x hx hxc hev => by
          unfold inC at h0
          rw [List.countP_eq_zero] at h0
          have := h0 x (List.mem_range.2 hx)
          rw [decide_eq_true hxc, tst_iff.2 hev] at this
          simp at this
        rw [hVs] at h3
        omega
      · omega
end
end Go.Proofs.YtelcofkjpkdjiaaGreat
