/-
  Plain law: how many edges each vertex waits for, while the vertices are taken in order. Written by an AI agent.
-/
import Derived.Test.YtnjikhhegebkiaaDoorRws
import Derived.Test.YtnjikhhegebkiaaDoorOrdLaw
namespace Go.Proofs.YtnjikhhegebkiaaDoor

/-- how many edges to h come of what is not there yet -/
def cntW (es : List (Int × Int)) (out : List Int) (h : Int) : Nat := (List.range es.length).countP fun i => decide ((es.getD i (0, 0)).2 = h) && !out.contains (es.getD i (0, 0)).1
def waitsF (n : Nat) (es : List (Int × Int)) (out : List Int) : List Int := (List.range n).map fun h : Nat => if out.contains (h : Int) then -1 else (cntW es out h : Int)
def hd (es : List (Int × Int)) (i : Int) : Int := (es.getD i.toNat (0, 0)).2
/-- of the first j edges from x, those to h -/
def cntJ (es : List (Int × Int)) (x : Int) (j : Nat) (h : Int) : Nat := ((endsF es Prod.fst x es.length).take j).countP fun i => decide (hd es i = h)
def waitsP (n : Nat) (es : List (Int × Int)) (out : List Int) (x : Int) (j : Nat) : List Int := (List.range n).map fun h : Nat => if (out ++ [x]).contains (h : Int) then -1 else (cntW es out h : Int) - (cntJ es x j h : Int)
theorem waitsF_length (n : Nat) (es : List (Int × Int)) (out : List Int) : (waitsF n es out).length = n := by simp [waitsF]
theorem waitsP_length (n : Nat) (es : List (Int × Int)) (out : List Int) (x : Int) (j : Nat) : (waitsP n es out x j).length = n := by simp [waitsP]
theorem endsF_count (es : List (Int × Int)) (f : Int × Int → Int) (x : Int) (p : Int → Bool) : ∀ k, (endsF es f x k).countP p = (List.range k).countP fun i : Nat => decide (f (es.getD i (0, 0)) = x) && p i
  | 0 => rfl
  | k + 1 => by
    rw [endsF, List.countP_append, endsF_count es f x p k, List.range_succ, List.countP_append]
    congr 1
    by_cases h : f (es.getD k (0, 0)) = x
    · rw [if_pos h, List.countP_singleton, List.countP_singleton, h]; simp
    · rw [if_neg h, List.countP_singleton, decide_eq_false h, Bool.false_and, if_neg (by simp)]; rfl
theorem endsF_len (es : List (Int × Int)) (f : Int × Int → Int) (x : Int) (k : Nat) : (endsF es f x k).length = (List.range k).countP fun i : Nat => decide (f (es.getD i (0, 0)) = x) := by
  have := endsF_count es f x (fun _ => true) k
  rw [List.countP_true] at this
  rw [this]
  congr 1
  funext i
  simp
theorem waitsF_nil (n : Nat) (es : List (Int × Int)) : waitsF n es [] = (List.range n).map fun h : Nat => ((endsF es Prod.snd h es.length).length : Int) := by
  unfold waitsF
  apply List.map_congr_left
  intro h _
  rw [if_neg (by simp), endsF_len]
  congr 1
  unfold cntW
  congr 1
  funext i
  simp
theorem getD_mem {es : List (Int × Int)} {i : Nat} (h : i < es.length) : es.getD i (0, 0) ∈ es := by
  rw [List.getD_eq_getElem?_getD, List.getElem?_eq_getElem h]; exact List.getElem_mem h
theorem mem_getD {es : List (Int × Int)} {e : Int × Int} (h : e ∈ es) : ∃ i, i < es.length ∧ es.getD i (0, 0) = e := by
  obtain ⟨i, hi, rfl⟩ := List.getElem_of_mem h
  exact ⟨i, hi, by rw [List.getD_eq_getElem?_getD, List.getElem?_eq_getElem hi]; rfl⟩
theorem cntW_zero {es : List (Int × Int)} {out : List Int} {h : Int} : cntW es out h = 0 ↔ ∀ e ∈ es, e.2 = h → e.1 ∈ out := by
  unfold cntW
  rw [List.countP_eq_zero]
  constructor
  · intro hz e he hh
    obtain ⟨i, hi, rfl⟩ := mem_getD he
    have := hz i (List.mem_range.2 hi)
    simp only [hh, decide_true, Bool.true_and, Bool.not_eq_true', Bool.not_eq_false] at this
    simpa using this
  · intro hz i hi
    have := hz _ (getD_mem (List.mem_range.1 hi))
    simp only [Bool.and_eq_true, decide_eq_true_eq, Bool.not_eq_true', not_and, Bool.not_eq_false]
    exact fun h1 => by simpa using this h1
theorem nextOk_iff {es : List (Int × Int)} {out : List Int} {x : Nat} : nextOk es out x = true ↔ (x : Int) ∉ out ∧ ∀ e ∈ es, e.2 = (x : Int) → e.1 ∈ out := by
  unfold nextOk
  rw [Bool.and_eq_true, List.all_eq_true]
  constructor
  · rintro ⟨h1, h2⟩
    refine ⟨by simpa using h1, fun e he hx => ?_⟩
    have := h2 e he
    simpa [hx] using this
  · rintro ⟨h1, h2⟩
    refine ⟨by simpa using h1, fun e he => ?_⟩
    by_cases hx : e.2 = (x : Int)
    · simpa [hx] using h2 e he hx
    · simp [hx]
theorem waitsF_zero {n : Nat} {es : List (Int × Int)} {out : List Int} {x : Nat} (hx : x < (waitsF n es out).length) : (0 : Int) = (waitsF n es out)[x] ↔ nextOk es out x = true := by
  have hxn : x < n := by rw [waitsF_length] at hx; exact hx
  have e : (waitsF n es out)[x] = if out.contains (x : Int) then -1 else (cntW es out x : Int) := by simp [waitsF]
  rw [e, nextOk_iff]
  by_cases h : (x : Int) ∈ out
  · rw [if_pos (by simpa using h)]
    exact ⟨fun h' => by omega, fun h' => absurd h h'.1⟩
  · rw [if_neg (by simpa using h), ← cntW_zero]
    exact ⟨fun h' => ⟨h, by omega⟩, fun h' => by omega⟩
theorem idx_next_some {n : Nat} {es : List (Int × Int)} {out : List Int} {x : Nat} (h : nextF es n out = some x) : x < n ∧ idxF (waitsF n es out) 0 = x := by
  unfold nextF at h
  have h1 := List.find?_some h
  have h2 := List.mem_range.1 (List.mem_of_find?_eq_some h)
  refine ⟨h2, idx_at (by rw [waitsF_length]; exact h2) ((waitsF_zero _).2 h1) fun j hj e => ?_⟩
  have hj2 := (waitsF_zero (by rw [waitsF_length]; omega)).1 e
  obtain ⟨_, i, hi, e1, e2⟩ := List.find?_eq_some_iff_getElem.1 h
  simp only [List.getElem_range] at e1
  have := e2 j (by omega)
  simp only [List.getElem_range] at this
  rw [hj2] at this
  cases this
theorem idx_next_none {n : Nat} {es : List (Int × Int)} {out : List Int} (h : nextF es n out = none) : idxF (waitsF n es out) 0 = -1 := by
  refine idx_none fun j hj e => ?_
  have := (waitsF_zero hj).1 e
  unfold nextF at h
  rw [List.find?_eq_none] at h
  exact h j (List.mem_range.2 (by rw [waitsF_length] at hj; exact hj)) this
theorem waitsP_zero {n : Nat} {es : List (Int × Int)} {out : List Int} {x : Nat} : (waitsF n es out).set x (-1) = waitsP n es out x 0 := by
  unfold waitsF waitsP
  apply List.ext_getElem
  · simp
  · intro i h1 h2
    simp only [List.getElem_set, List.getElem_map, List.getElem_range]
    by_cases h : x = i
    · subst h; rw [if_pos rfl, if_pos (by simp)]
    · rw [if_neg h]
      have hc : (out ++ [(x : Int)]).contains (i : Int) = out.contains (i : Int) := by
        simp only [List.contains_eq_mem, List.mem_append, List.mem_singleton]
        have : ¬ (i : Int) = (x : Int) := by omega
        simp [this]
      rw [hc]
      simp [cntJ]
theorem cntJ_succ {es : List (Int × Int)} {x : Int} {j : Nat} (hj : j < (endsF es Prod.fst x es.length).length) (h : Int) : cntJ es x (j + 1) h = cntJ es x j h + if hd es (endsF es Prod.fst x es.length)[j] = h then 1 else 0 := by
  unfold cntJ
  rw [List.take_succ_eq_append_getElem hj, List.countP_append, List.countP_singleton]
  congr 1
  by_cases h' : hd es (endsF es Prod.fst x es.length)[j] = h <;> simp [h']
/-- an edge from what comes next leads to nothing that is there -/
theorem head_new {n : Nat} {es : List (Int × Int)} {out : List Int} (ho : Ord es n out) {x : Nat} (hx : nextF es n out = some x) {e : Int × Int} (he : e ∈ es) (ht : e.1 = (x : Int)) : e.2 ∉ out ++ [(x : Int)] := by
  obtain ⟨h1, h2⟩ := nextOk_iff.1 (List.find?_some hx)
  intro hm
  rcases List.mem_append.1 hm with hm | hm
  · obtain ⟨k, hk, e2⟩ := List.getElem_of_mem hm
    have := List.mem_of_mem_take (ho.pre k hk e he e2.symm)
    rw [ht] at this
    exact h1 this
  · have := h2 e he (by simpa using hm)
    rw [ht] at this
    exact h1 this
theorem endsF_at {es : List (Int × Int)} {f : Int × Int → Int} {x : Int} {j : Nat} (hj : j < (endsF es f x es.length).length) : ∃ i : Nat, (endsF es f x es.length)[j] = i ∧ ∃ h : i < es.length, f es[i] = x := by
  obtain ⟨i, h1, h2, h3⟩ := mem_endsF.1 (List.getElem_mem hj)
  refine ⟨i, h1, h2, ?_⟩
  rw [List.getD_eq_getElem?_getD, List.getElem?_eq_getElem h2] at h3
  exact h3
theorem waitsP_succ {n : Nat} {es : List (Int × Int)} {out : List Int} (ho : Ord es n out) {x : Nat} (hx : nextF es n out = some x) {j : Nat} (hj : j < (endsF es Prod.fst x es.length).length)
    {i t : Nat} (hi : (endsF es Prod.fst x es.length)[j] = (i : Int)) (hil : i < es.length) (ht : es[i].2 = (t : Int)) (htn : t < n) :
    (waitsP n es out x j).set t ((waitsP n es out x j).getD t 0 - 1) = waitsP n es out x (j + 1) := by
  have hh : hd es (endsF es Prod.fst x es.length)[j] = (t : Int) := by
    rw [hi, hd, Int.toNat_natCast, List.getD_eq_getElem?_getD, List.getElem?_eq_getElem hil]; exact ht
  have hnew : (t : Int) ∉ out ++ [(x : Int)] := by
    obtain ⟨i', h1, h2, h3⟩ := endsF_at hj
    have : i' = i := by rw [h1] at hi; omega
    subst this
    rw [← ht]
    exact head_new ho hx (List.getElem_mem hil) h3
  have hv : (waitsP n es out x j).getD t 0 = (cntW es out t : Int) - (cntJ es x j t : Int) := by
    rw [List.getD_eq_getElem?_getD, List.getElem?_eq_getElem (by rw [waitsP_length]; exact htn)]
    simp only [waitsP, Option.getD_some, List.getElem_map, List.getElem_range]
    rw [if_neg (by simpa using hnew)]
  rw [hv]
  unfold waitsP
  refine map_range_set n t _ _ _ ?_ fun y hy => ?_
  · rw [if_neg (by simpa using hnew), cntJ_succ hj, if_pos hh]; omega
  · by_cases hc : (out ++ [(x : Int)]).contains (y : Int) = true
    · rw [if_pos hc, if_pos hc]
    · rw [if_neg hc, if_neg hc, cntJ_succ hj, if_neg (by rw [hh]; omega)]; omega
theorem countP_split {α : Type} (l : List α) (p q : α → Bool) : l.countP p = (l.countP fun a => p a && q a) + l.countP fun a => p a && !q a := by
  induction l with
  | nil => rfl
  | cons a r ih =>
    simp only [List.countP_cons, ih]
    cases p a <;> cases q a <;> simp <;> omega
theorem waitsP_all {n : Nat} {es : List (Int × Int)} {out : List Int} {x : Nat} (hx : nextF es n out = some x) : waitsP n es out x (endsF es Prod.fst x es.length).length = waitsF n es (out ++ [(x : Int)]) := by
  have hxo := (nextOk_iff.1 (List.find?_some hx)).1
  unfold waitsP waitsF
  apply List.map_congr_left
  intro h _
  by_cases hc : (out ++ [(x : Int)]).contains (h : Int) = true
  · rw [if_pos hc, if_pos hc]
  · rw [if_neg hc, if_neg hc]
    have h1 : cntJ es x (endsF es Prod.fst x es.length).length h = (List.range es.length).countP fun i : Nat => decide ((es.getD i (0, 0)).1 = (x : Int)) && decide ((es.getD i (0, 0)).2 = (h : Int)) := by
      unfold cntJ
      rw [List.take_length, endsF_count]
      rfl
    have h2 : cntW es out h = cntJ es x (endsF es Prod.fst x es.length).length h + cntW es (out ++ [(x : Int)]) h := by
      rw [h1]
      unfold cntW
      rw [countP_split _ _ (fun i => decide ((es.getD i (0, 0)).1 = (x : Int)))]
      congr 1
      · congr 1
        funext i
        by_cases e1 : (es.getD i (0, 0)).1 = (x : Int)
        · rw [e1]; simp [hxo]
        · simp only [e1, decide_false, Bool.and_false, Bool.false_and]
      · congr 1
        funext i
        by_cases e1 : (es.getD i (0, 0)).1 = (x : Int)
        · rw [e1]; simp
        · simp only [e1, decide_false, Bool.not_false, Bool.and_true]
          congr 2
          simp only [List.contains_eq_mem, List.mem_append, List.mem_singleton, e1, or_false]
    omega
theorem waitsP_bound {n : Nat} {es : List (Int × Int)} {out : List Int} {x : Int} {j t : Nat} (hl : es.length ≤ 1000) : -2000 ≤ (waitsP n es out x j).getD t 0 ∧ (waitsP n es out x j).getD t 0 ≤ 2000 := by
  rw [List.getD_eq_getElem?_getD]
  by_cases ht : t < n
  · rw [List.getElem?_eq_getElem (by rw [waitsP_length]; exact ht)]
    simp only [waitsP, Option.getD_some, List.getElem_map, List.getElem_range]
    have h1 : cntW es out t ≤ es.length := by
      unfold cntW
      exact Nat.le_trans List.countP_le_length (by simp)
    have h2 : cntJ es x j t ≤ es.length := by
      unfold cntJ
      refine Nat.le_trans List.countP_le_length (Nat.le_trans (List.length_take_le' _ _) (endsF_length _ _ _ _))
    split <;> omega
  · rw [List.getElem?_eq_none (by rw [waitsP_length]; omega)]
    simp
end Go.Proofs.YtnjikhhegebkiaaDoor
