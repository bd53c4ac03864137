import Derived.Test.YtelcofkjpkdjiaaGreatZOuts
/-
  The parts' numbers, summed up (plain law). Written by an AI agent.
-/
namespace Go.Proofs.YtelcofkjpkdjiaaGreat
open Go.RowKit

theorem sum_one (m c : Nat) : ((List.range m).map fun k => if c = k then 1 else 0).sum = if c < m then 1 else 0 := by
  induction m with
  | zero => rfl
  | succ m ih =>
    rw [List.range_succ, List.map_append, List.sum_append, ih]
    simp only [List.map_cons, List.map_nil, List.sum_cons, List.sum_nil]
    by_cases h1 : c = m
    · rw [if_pos h1, if_neg (by omega), if_pos (by omega)]; rfl
    · rw [if_neg h1]
      by_cases h2 : c < m
      · rw [if_pos h2, if_pos (by omega)]; rfl
      · rw [if_neg h2, if_neg (by omega)]; rfl
theorem sum_place {α : Type} (m : Nat) (g : α → Nat) : ∀ (l : List α), (∀ a ∈ l, g a < m) → ((List.range m).map fun k => l.countP fun a => decide (g a = k)).sum = l.length
  | [], _ => by
    have : ((List.range m).map fun _ => (0 : Nat)).sum = 0 := by
      generalize List.range m = ls
      induction ls with
      | nil => rfl
      | cons a r ih => simpa using ih
    simpa using this
  | a :: l, h => by
    have ih := sum_place m g l fun b hb => h b (by simp [hb])
    have e : ((List.range m).map fun k => (a :: l).countP fun a => decide (g a = k)) = (List.range m).map fun k => (l.countP fun a => decide (g a = k)) + if g a = k then 1 else 0 := by
      refine List.map_congr_left fun k _ => ?_
      rw [List.countP_cons]
      congr 1
      by_cases h : g a = k <;> simp [h]
    rw [e, sum_add, ih, sum_one, if_pos (h a (by simp)), List.length_cons]
def hasEnds (es : List (Int × Int)) (x : Int) : Bool := decide (0 < (endsF es Prod.fst x es.length).length)
/-- how many of the vertices of the part at place k have edges -/
def inK (es : List (Int × Int)) (ro : Nat → Nat) (F N k : Nat) : Nat := (rlB ro F N (2 * k + 1)).countP (hasEnds es)
def exK (ro : Nat → Nat) (H : List Quad) (F N k : Nat) : Int := (cA ro H k : Int) - ((rlB ro F N (2 * k)).length : Int) - ((rlB ro F N (2 * k + 1)).length : Int) + 1
def inS (es : List (Int × Int)) (ro : Nat → Nat) (F N j : Nat) : Nat := ((List.range j).map (inK es ro F N)).sum
def exS (ro : Nat → Nat) (H : List Quad) (F N : Nat) : Nat → Int
  | 0 => 0
  | j + 1 => exS ro H F N j + exK ro H F N j
theorem inS_succ (es : List (Int × Int)) (ro : Nat → Nat) (F N j : Nat) : inS es ro F N (j + 1) = inS es ro F N j + inK es ro F N j := by
  unfold inS
  rw [List.range_succ, List.map_append, List.sum_append]
  simp
theorem inK_le (es : List (Int × Int)) (ro : Nat → Nat) (F N k : Nat) : inK es ro F N k ≤ N := Nat.le_trans List.countP_le_length (by rw [rlB_odd]; exact rlV_length _ _ _)
theorem inS_le (es : List (Int × Int)) (ro : Nat → Nat) (F N : Nat) : ∀ j, inS es ro F N j ≤ N * j
  | 0 => Nat.le_refl _
  | j + 1 => by
    rw [inS_succ, Nat.mul_succ]
    exact Nat.add_le_add (inS_le es ro F N j) (inK_le es ro F N j)
theorem exK_bound {ro : Nat → Nat} {H : List Quad} {F N k : Nat} (hF : F ≤ 1000) (hN : N ≤ 1000) (hH : H.length ≤ 1000) : -3000 ≤ exK ro H F N k ∧ exK ro H F N k ≤ 3000 := by
  have h1 : (rlB ro F N (2 * k)).length ≤ F := by rw [rlB_even]; exact rlF_length _ _
  have h2 : (rlB ro F N (2 * k + 1)).length ≤ N := by rw [rlB_odd]; exact rlV_length _ _ _
  have h3 : cA ro H k ≤ H.length := List.countP_le_length
  unfold exK
  omega
theorem exS_bound {ro : Nat → Nat} {H : List Quad} {F N : Nat} (hF : F ≤ 1000) (hN : N ≤ 1000) (hH : H.length ≤ 1000) : ∀ j : Nat, -3000 * (j : Int) ≤ exS ro H F N j ∧ exS ro H F N j ≤ 3000 * (j : Int)
  | 0 => by simp [exS]
  | j + 1 => by
    have ih := exS_bound (ro := ro) hF hN hH j
    have h := exK_bound (ro := ro) (H := H) (k := j) hF hN hH
    unfold exS
    omega
theorem exS_sum (ro : Nat → Nat) (H : List Quad) (F N : Nat) : ∀ j, exS ro H F N j = (((List.range j).map (cA ro H)).sum : Int) - (((List.range j).map fun k => (rlB ro F N (2 * k)).length).sum : Int) - (((List.range j).map fun k => (rlB ro F N (2 * k + 1)).length).sum : Int) + j
  | 0 => by simp [exS]
  | j + 1 => by
    unfold exS
    rw [exS_sum ro H F N j, List.range_succ, List.map_append, List.map_append, List.map_append, List.sum_append, List.sum_append, List.sum_append]
    unfold exK
    simp
    omega
section
variable {n : Int} {es : List (Int × Int)} {rs : List (List Int)}
theorem even_ends {N : Nat} (hin : InN N es) {x : Nat} : hasEnds es (x : Int) = true ↔ hasEven es x := by
  unfold hasEnds
  rw [decide_eq_true_eq]
  constructor
  · intro h
    obtain ⟨a, ha⟩ := List.exists_mem_of_length_pos h
    obtain ⟨i, rfl, hi, he⟩ := mem_endsF.1 ha
    have hv := vtx_even hin hi
    exact ⟨2 * i, by omega, by omega, by simp [ev]⟩
  · rintro ⟨k, hk, hv, hev⟩
    have h2 : k % 2 = 0 := by simpa [ev] using hev
    have hi : k / 2 < es.length := by omega
    have hv2 := vtx_even hin hi
    rw [show 2 * (k / 2) = k by omega, hv] at hv2
    exact List.length_pos_of_mem (a := ((k / 2 : Nat) : Int)) (mem_endsF.2 ⟨k / 2, rfl, hi, hv2.symm⟩)
theorem mem_high {x : Nat} (ha : askA n es rs = true) : (∃ q ∈ (angR n es rs).filter hiQ, q.2.1 = x) ↔ hasHigh es rs x := by
  unfold angR
  rw [if_pos ha]
  constructor
  · rintro ⟨q, hq, hv⟩
    obtain ⟨h1, h2⟩ := List.mem_filter.1 hq
    obtain ⟨h, hh, rfl⟩ := List.mem_map.1 h1
    exact ⟨h, List.mem_range.1 hh, hv, of_decide_eq_true h2⟩
  · rintro ⟨h, hh, hv, hk⟩
    exact ⟨angQ n es rs h, List.mem_filter.2 ⟨List.mem_map.2 ⟨h, List.mem_range.2 hh, rfl⟩, decide_eq_true hk⟩, hv⟩
theorem web_iff {x : Nat} (hf : faskB n es rs = true) : roR n es rs ((facesOf n es rs).length + x) < (facesOf n es rs).length ↔ hasHigh es rs x := by
  have ha := fask_ask hf
  rw [← mem_high ha]
  constructor
  · intro h
    by_cases hn : ∀ q ∈ (angR n es rs).filter hiQ, q.2.1 ≠ x
    · have := roH_bare hn (highs_in ha)
      unfold roR at h
      omega
    · obtain ⟨q, hq⟩ := Classical.not_forall.1 hn
      obtain ⟨h1, h2⟩ := Classical.not_imp.1 hq
      exact ⟨q, h1, Classical.not_not.1 h2⟩
  · rintro ⟨q, hq, rfl⟩
    exact roH_face (highs_in ha) hq
theorem count_final (hf : faskB n es rs = true) (hb : bimB rs = true) (he : 0 < es.length) :
    (pos (roR n es rs) (facesOf n es rs).length : Int) - exS (roR n es rs) ((angR n es rs).filter hiQ) (facesOf n es rs).length rs.length (pos (roR n es rs) (facesOf n es rs).length) = inS es (roR n es rs) (facesOf n es rs).length rs.length (pos (roR n es rs) (facesOf n es rs).length) + 1 := by
  have ha := fask_ask hf
  have hR := ask_right ha
  have hin := right_inN hR
  have hInH := highs_in ha
  have hL := roH_ok hInH
  have hFL := fun f (h : f < (facesOf n es rs).length) => roH_face_lt hInH h
  have hcl := count_law hf hb he
  have hweb := fun x => web_iff (x := x) hf
  change LeadP _ (roR n es rs) at hL
  change ∀ f, f < _ → roR n es rs f < _ at hFL
  have hA : ((List.range (pos (roR n es rs) (facesOf n es rs).length)).map (cA (roR n es rs) ((angR n es rs).filter hiQ))).sum = ((angR n es rs).filter hiQ).length := sum_place _ (fun q : Quad => pos (roR n es rs) (roR n es rs q.2.2.1)) _ fun q hq => pos_lt (hL.fix _ (by have := (hInH q hq).1; omega)) (hFL _ (hInH q hq).1)
  have hAl : ((angR n es rs).filter hiQ).length = (List.range (2 * es.length)).countP fun h => decide (angK es rs h = 2) := by
    unfold angR
    rw [if_pos ha, ← List.countP_eq_length_filter]
    unfold angL
    rw [List.countP_map]
    rfl
  have hFs : ((List.range (pos (roR n es rs) (facesOf n es rs).length)).map fun k => (rlB (roR n es rs) (facesOf n es rs).length rs.length (2 * k)).length).sum = (facesOf n es rs).length := by
    have := sum_place (pos (roR n es rs) (facesOf n es rs).length) (fun y : Nat => pos (roR n es rs) (roR n es rs y)) (List.range (facesOf n es rs).length) fun y hy => pos_lt (hL.fix _ (by have := List.mem_range.1 hy; omega)) (hFL _ (List.mem_range.1 hy))
    rw [List.length_range] at this
    refine Eq.trans (congrArg List.sum (List.map_congr_left fun k _ => ?_)) this
    rw [rlB_even]
    unfold rlF
    rw [List.length_map, List.countP_eq_length_filter]
  have hvs : ∀ p : Nat → Bool, ((List.range (pos (roR n es rs) (facesOf n es rs).length)).map fun k => (List.range rs.length).countP fun y => decide (roR n es rs ((facesOf n es rs).length + y) < (facesOf n es rs).length ∧ pos (roR n es rs) (roR n es rs ((facesOf n es rs).length + y)) = k) && p y).sum = (List.range rs.length).countP fun y => decide (roR n es rs ((facesOf n es rs).length + y) < (facesOf n es rs).length) && p y := by
    intro p
    have := sum_place (pos (roR n es rs) (facesOf n es rs).length) (fun y : Nat => pos (roR n es rs) (roR n es rs ((facesOf n es rs).length + y))) ((List.range rs.length).filter fun y => decide (roR n es rs ((facesOf n es rs).length + y) < (facesOf n es rs).length) && p y) fun y hy => by
      obtain ⟨h1, h2⟩ := List.mem_filter.1 hy
      have h1 := List.mem_range.1 h1
      have h3 : roR n es rs ((facesOf n es rs).length + y) < (facesOf n es rs).length := by
        rw [Bool.and_eq_true, decide_eq_true_eq] at h2
        exact h2.1
      exact pos_lt (hL.fix _ (by omega)) h3
    rw [← List.countP_eq_length_filter] at this
    refine Eq.trans (congrArg List.sum (List.map_congr_left fun k _ => ?_)) this
    rw [List.countP_filter]
    refine List.countP_congr fun y _ => ?_
    simp only [Bool.and_eq_true, decide_eq_true_eq]
    constructor
    · rintro ⟨⟨a, b⟩, c⟩; exact ⟨b, a, c⟩
    · rintro ⟨b, a, c⟩; exact ⟨⟨a, b⟩, c⟩
  have hVs : ((List.range (pos (roR n es rs) (facesOf n es rs).length)).map fun k => (rlB (roR n es rs) (facesOf n es rs).length rs.length (2 * k + 1)).length).sum = webV es rs rs.length := by
    have := hvs fun _ => true
    simp only [Bool.and_true] at this
    have e2 : ((List.range rs.length).countP fun y => decide (roR n es rs ((facesOf n es rs).length + y) < (facesOf n es rs).length)) = webV es rs rs.length := by
      unfold webV
      refine count_congr fun y _ => ?_
      rw [Bool.eq_iff_iff, decide_eq_true_eq, tst_iff]
      exact hweb y
    refine Eq.trans (congrArg List.sum (List.map_congr_left fun k _ => ?_)) (this.trans e2)
    rw [rlB_odd]
    unfold rlV
    rw [List.length_map, List.countP_eq_length_filter]
  have hIs : inS es (roR n es rs) (facesOf n es rs).length rs.length (pos (roR n es rs) (facesOf n es rs).length) = innerN es rs rs.length := by
    have := hvs fun y => hasEnds es (y : Int)
    have e2 : ((List.range rs.length).countP fun y => decide (roR n es rs ((facesOf n es rs).length + y) < (facesOf n es rs).length) && hasEnds es (y : Int)) = innerN es rs rs.length := by
      unfold innerN
      refine count_congr fun y _ => ?_
      rw [Bool.eq_iff_iff, Bool.and_eq_true, decide_eq_true_eq, tst_iff, even_ends hin]
      exact and_congr (hweb y) Iff.rfl
    unfold inS
    refine Eq.trans (congrArg List.sum (List.map_congr_left fun k _ => ?_)) (this.trans e2)
    unfold inK
    rw [rlB_odd]
    unfold rlV
    rw [List.countP_map, List.countP_filter]
    refine List.countP_congr fun y _ => ?_
    simp only [Function.comp, Bool.and_eq_true, decide_eq_true_eq]
    exact ⟨fun ⟨a, b⟩ => ⟨b, a⟩, fun ⟨b, a⟩ => ⟨a, b⟩⟩
  rw [exS_sum, hA, hAl, hFs, hVs, hIs]
  omega
end
end Go.Proofs.YtelcofkjpkdjiaaGreat
