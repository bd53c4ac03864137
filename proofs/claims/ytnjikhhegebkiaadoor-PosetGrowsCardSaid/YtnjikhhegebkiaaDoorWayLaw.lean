/-
  Plain law: a longest way, from its end on. Written by an AI agent.
-/
import Derived.Test.YtnjikhhegebkiaaDoorMax
import Derived.Test.YtnjikhhegebkiaaDoorLevLaw
namespace Go.Proofs.YtnjikhhegebkiaaDoor

/-- the least tail, one level below x, of these edges -/
def nextL (es : List (Int × Int)) (L : List Int) (x : Int) (nx : Int) (l : List Int) : Int := l.foldl (fun nx i => if L.getD (tl es i).toNat 0 = L.getD x.toNat 0 - 1 then min nx (tl es i) else nx) nx
def nextT (n : Nat) (es : List (Int × Int)) (L : List Int) (x : Int) : Int := nextL es L x n (endsF es Prod.snd x es.length)
/-- the way back from x -/
def wayF (n : Nat) (es : List (Int × Int)) (L : List Int) : Nat → Int → List Int
  | 0, x => [x]
  | k + 1, x => x :: wayF n es L k (nextT n es L x)
/-- the first of the greatest -/
def topF (L : List Int) : Int := idxF L (maxL L L.length)
def longF (n : Nat) (es : List (Int × Int)) (L : List Int) : List Int := (wayF n es L (L.getD (topF L).toNat 0).toNat (topF L)).reverse
theorem nextL_le (es : List (Int × Int)) (L : List Int) (x : Int) : ∀ (l : List Int) (nx : Int), nextL es L x nx l ≤ nx
  | [], _ => Int.le_refl _
  | i :: r, nx => by
    show nextL es L x _ r ≤ nx
    refine Int.le_trans (nextL_le es L x r _) ?_
    show (if L.getD (tl es i).toNat 0 = L.getD x.toNat 0 - 1 then min nx (tl es i) else nx) ≤ nx
    split <;> omega
theorem nextL_in (es : List (Int × Int)) (L : List Int) (x : Int) : ∀ (l : List Int) (nx : Int), nextL es L x nx l = nx ∨ ∃ i ∈ l, nextL es L x nx l = tl es i ∧ L.getD (tl es i).toNat 0 = L.getD x.toNat 0 - 1
  | [], _ => .inl rfl
  | i :: r, nx => by
    have e : nextL es L x nx (i :: r) = nextL es L x (if L.getD (tl es i).toNat 0 = L.getD x.toNat 0 - 1 then min nx (tl es i) else nx) r := rfl
    rw [e]
    rcases nextL_in es L x r (if L.getD (tl es i).toNat 0 = L.getD x.toNat 0 - 1 then min nx (tl es i) else nx) with h | ⟨j, hj, h⟩
    · rw [h]
      by_cases hc : L.getD (tl es i).toNat 0 = L.getD x.toNat 0 - 1
      · rw [if_pos hc]
        rcases Int.le_total nx (tl es i) with h2 | h2
        · exact .inl (by omega)
        · exact .inr ⟨i, by simp, by omega, hc⟩
      · rw [if_neg hc]; exact .inl rfl
    · exact .inr ⟨j, by simp [hj], h⟩
theorem nextL_lt (es : List (Int × Int)) (L : List Int) (x : Int) : ∀ (l : List Int) (nx : Int) (i : Int), i ∈ l → L.getD (tl es i).toNat 0 = L.getD x.toNat 0 - 1 → nextL es L x nx l ≤ tl es i
  | [], _, _, h, _ => by cases h
  | a :: r, nx, i, hi, hc => by
    have e : nextL es L x nx (a :: r) = nextL es L x (if L.getD (tl es a).toNat 0 = L.getD x.toNat 0 - 1 then min nx (tl es a) else nx) r := rfl
    rw [e]
    rcases List.mem_cons.1 hi with rfl | hi
    · rw [if_pos hc]
      exact Int.le_trans (nextL_le es L x r _) (by omega)
    · exact nextL_lt es L x r _ i hi hc
/-- from a vertex above level 0 there is a next one, one level below -/
theorem nextT_spec {n : Nat} {es : List (Int × Int)} {L : List Int} (hE : EdgesIn n es) (hL : Lev n es fun v => L.getD v 0) {x : Nat} (hx : x < n) (h0 : 0 < L.getD x 0) :
    ∃ y : Nat, nextT n es L x = (y : Int) ∧ y < n ∧ L.getD y 0 = L.getD x 0 - 1 ∧ ∃ e ∈ es, e.1 = (y : Int) ∧ e.2 = (x : Int) := by
  rcases hL.of x hx with h | ⟨e, he, h1, h2⟩
  · have h : L.getD x 0 = 0 := h
    omega
  · have h2 : L.getD x 0 = L.getD e.1.toNat 0 + 1 := h2
    obtain ⟨k, hk, rfl⟩ := mem_getD he
    have hin := hE _ he
    have hlt := nextL_lt es L x (endsF es Prod.snd x es.length) n (k : Int) (mem_endsF.2 ⟨k, rfl, hk, h1⟩) (by
      unfold tl
      simp only [Int.toNat_natCast]
      omega)
    have etl : tl es (k : Int) = (es.getD k (0, 0)).1 := by unfold tl; simp
    rw [etl] at hlt
    rcases nextL_in es L x (endsF es Prod.snd x es.length) n with h | ⟨i, hi, h3, h4⟩
    · have : nextL es L x n (endsF es Prod.snd x es.length) = (n : Int) := h
      omega
    · obtain ⟨j, rfl, hj, h5⟩ := mem_endsF.1 hi
      have h6 := hE _ (getD_mem hj)
      have etl2 : tl es (j : Int) = (es.getD j (0, 0)).1 := by unfold tl; simp
      rw [etl2] at h3 h4
      simp only [Int.toNat_natCast] at h4
      refine ⟨(es.getD j (0, 0)).1.toNat, ?_, by omega, h4, _, getD_mem hj, by omega, h5⟩
      unfold nextT
      rw [h3]
      omega
theorem wayF_pos {n : Nat} {es : List (Int × Int)} {L : List Int} {x : Int} (h : 0 < L.getD x.toNat 0) (h2 : L.getD (nextT n es L x).toNat 0 = L.getD x.toNat 0 - 1) : wayF n es L (L.getD x.toNat 0).toNat x = x :: wayF n es L (L.getD (nextT n es L x).toNat 0).toNat (nextT n es L x) := by
  obtain ⟨k, hk⟩ : ∃ k : Nat, (L.getD x.toNat 0).toNat = k + 1 := ⟨(L.getD x.toNat 0).toNat - 1, by omega⟩
  rw [hk, wayF, h2]
  congr 2
  omega
theorem wayF_zero {n : Nat} {es : List (Int × Int)} {L : List Int} {x : Int} (h : ¬ 0 < L.getD x.toNat 0) : wayF n es L (L.getD x.toNat 0).toNat x = [x] := by
  rw [show (L.getD x.toNat 0).toNat = 0 by omega]; rfl
theorem maxL_ge {l : List Int} : ∀ {k : Nat}, k ≤ l.length → ∀ j (hj : j < l.length), j < k → l[j] ≤ maxL l k
  | 0, _, j, _, h => absurd h (Nat.not_lt_zero _)
  | k + 1, hk, j, hj, h => by
    rw [maxL_succ (l := l) (k := k) (by omega)]
    rcases Nat.lt_or_ge j k with h1 | h1
    · have := maxL_ge (l := l) (k := k) (by omega) j hj h1
      omega
    · have : j = k := by omega
      subst this
      omega
theorem maxL_in {l : List Int} : ∀ {k : Nat}, 0 < k → k ≤ l.length → ∃ j, ∃ hj : j < l.length, j < k ∧ maxL l k = l[j]
  | 0, h, _ => absurd h (Nat.lt_irrefl _)
  | 1, _, hk => ⟨0, by omega, by omega, maxL_one (by omega)⟩
  | k + 2, _, hk => by
    obtain ⟨j, hj, h1, h2⟩ := maxL_in (l := l) (k := k + 1) (by omega) (by omega)
    rw [maxL_succ (l := l) (k := k + 1) (by omega)]
    rcases Int.le_total (maxL l (k + 1)) l[k + 1] with h | h
    · exact ⟨k + 1, by omega, by omega, by omega⟩
    · exact ⟨j, hj, by omega, by omega⟩
theorem topF_spec {L : List Int} (hp : 0 < L.length) : ∃ k : Nat, topF L = k ∧ ∃ hk : k < L.length, (∀ j (hj : j < L.length), L[j] ≤ L[k]) ∧ ∀ j (hj : j < k), L[j] < L[k] := by
  obtain ⟨j, hj, _, h2⟩ := maxL_in hp (Nat.le_refl _)
  cases hf : L.findIdx? (fun a => decide (maxL L L.length = a)) with
  | none =>
    rw [List.findIdx?_eq_none_iff] at hf
    have := hf _ (List.getElem_mem hj)
    simp [h2] at this
  | some i =>
    have he : topF L = i := by unfold topF idxF; rw [hf]
    rw [List.findIdx?_eq_some_iff_getElem] at hf
    obtain ⟨hi, h3, h4⟩ := hf
    have h3 : maxL L L.length = L[i] := by simpa using h3
    refine ⟨i, he, hi, fun j hj => ?_, fun j hj => ?_⟩
    · rw [← h3]; exact maxL_ge (Nat.le_refl _) j hj hj
    · have h5 := maxL_ge (l := L) (Nat.le_refl _) j (by omega) (by omega)
      have h6 := h4 j hj
      have h6 : maxL L L.length ≠ L[j] := by simpa using h6
      omega
theorem wayF_length (n : Nat) (es : List (Int × Int)) (L : List Int) : ∀ (k : Nat) (x : Int), (wayF n es L k x).length = k + 1
  | 0, _ => rfl
  | k + 1, x => by rw [wayF, List.length_cons, wayF_length n es L k]
/-- levels lie below n -/
theorem levF_lt {n : Nat} {es : List (Int × Int)} (hE : EdgesIn n es) (hl : (orderF es n).length = n) {v : Nat} (hv : v < n) : (levF n es).getD v 0 < n := by
  have hL := levF_lev hE hl
  have ho := orderF_ord es n
  have key : ∀ k p (hp : p < (orderF es n).length), p < k → (levF n es).getD ((orderF es n)[p]).toNat 0 ≤ p := by
    intro k
    induction k with
    | zero => intro p _ h; exact absurd h (Nat.not_lt_zero _)
    | succ k ih =>
      intro p hp hpk
      have hb := ho.lt _ (List.getElem_mem hp)
      rcases hL.of ((orderF es n)[p]).toNat (by omega) with h0 | ⟨e, he, h1, h2⟩
      · have h0 : (levF n es).getD ((orderF es n)[p]).toNat 0 = 0 := h0
        omega
      · have h2 : (levF n es).getD ((orderF es n)[p]).toNat 0 = (levF n es).getD e.1.toNat 0 + 1 := h2
        have h3 := ho.pre p hp e he (by omega)
        obtain ⟨q, hq, e1⟩ := List.getElem_of_mem h3
        rw [List.getElem_take] at e1
        have hqp : q < p := by simp at hq; omega
        have h4 := ih q (by omega) (by omega)
        rw [e1] at h4
        omega
  obtain ⟨p, hp, e⟩ := List.getElem_of_mem (ord_all ho hl hv)
  have := key n p hp (by omega)
  rw [e] at this
  simp only [Int.toNat_natCast] at this
  omega
theorem nextL_succ {es : List (Int × Int)} {L : List Int} {x nx : Int} {l : List Int} {j : Nat} (hj : j < l.length) : nextL es L x nx (l.take (j + 1)) = if L.getD (tl es l[j]).toNat 0 = L.getD x.toNat 0 - 1 then min (nextL es L x nx (l.take j)) (tl es l[j]) else nextL es L x nx (l.take j) := by
  rw [List.take_succ_eq_append_getElem hj]
  unfold nextL
  rw [List.foldl_append]
  rfl
end Go.Proofs.YtnjikhhegebkiaaDoor
