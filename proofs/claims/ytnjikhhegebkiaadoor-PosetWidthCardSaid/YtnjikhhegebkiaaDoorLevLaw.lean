/-
  Plain law: each vertex's level: how long the longest way to it is. Written by an AI agent.
-/
import Derived.Test.YtnjikhhegebkiaaDoorRunLaw
namespace Go.Proofs.YtnjikhhegebkiaaDoor

def tl (es : List (Int × Int)) (i : Int) : Int := (es.getD i.toNat (0, 0)).1
/-- an edge, told on -/
def relaxE (es : List (Int × Int)) (out : List Int) (i : Int) : List Int := out.set (hd es i).toNat (max (out.getD (hd es i).toNat 0) (out.getD (tl es i).toNat 0 + 1))
def relaxL (es : List (Int × Int)) (out : List Int) (l : List Int) : List Int := l.foldl (relaxE es) out
theorem relaxE_length (es : List (Int × Int)) (out : List Int) (i : Int) : (relaxE es out i).length = out.length := by simp [relaxE]
theorem relaxL_length (es : List (Int × Int)) (l : List Int) : ∀ out : List Int, (relaxL es out l).length = out.length := by
  induction l with
  | nil => exact fun _ => rfl
  | cons a r ih => intro out; show (relaxL es (relaxE es out a) r).length = _; rw [ih, relaxE_length]
/-- all numbers lie in this -/
def Bd (k : Nat) (out : List Int) : Prop := ∀ t, 0 ≤ out.getD t 0 ∧ out.getD t 0 ≤ k
theorem getD_set_self {l : List Int} {i : Nat} (h : i < l.length) (v : Int) : (l.set i v).getD i 0 = v := by
  rw [List.getD_eq_getElem?_getD, List.getElem?_set_self h]; rfl
theorem getD_set_ne {l : List Int} {i j : Nat} (h : i ≠ j) (v : Int) : (l.set i v).getD j 0 = l.getD j 0 := by
  rw [List.getD_eq_getElem?_getD, List.getElem?_set_ne h, List.getD_eq_getElem?_getD]
theorem getD_out {l : List Int} {i : Nat} (h : l.length ≤ i) : l.getD i 0 = 0 := by
  rw [List.getD_eq_getElem?_getD, List.getElem?_eq_none h]; rfl
theorem relaxE_getD (es : List (Int × Int)) (out : List Int) (i : Int) (t : Nat) : (relaxE es out i).getD t 0 = if (hd es i).toNat = t ∧ t < out.length then max (out.getD t 0) (out.getD (tl es i).toNat 0 + 1) else out.getD t 0 := by
  unfold relaxE
  by_cases h : (hd es i).toNat = t
  · subst h
    by_cases h2 : (hd es i).toNat < out.length
    · rw [if_pos ⟨rfl, h2⟩, getD_set_self h2]
    · rw [if_neg (fun h => h2 h.2), getD_out (by simp; omega), getD_out (by omega)]
  · rw [if_neg (fun h' => h h'.1), getD_set_ne h]
theorem Bd.step {k : Nat} {out : List Int} (h : Bd k out) (es : List (Int × Int)) (i : Int) : Bd (k + 1) (relaxE es out i) := fun t => by
  rw [relaxE_getD]
  have h1 := h t
  have h2 := h (tl es i).toNat
  split <;> omega
theorem Bd.more {k m : Nat} {out : List Int} (h : Bd k out) (hm : k ≤ m) : Bd m out := fun t => by have := h t; omega
theorem Bd.zero (n : Nat) : Bd 0 (List.replicate n 0) := fun t => by
  rw [List.getD_eq_getElem?_getD]
  rcases Nat.lt_or_ge t n with h | h
  · rw [List.getElem?_eq_getElem (by simpa using h)]; simp
  · rw [List.getElem?_eq_none (by simpa using h)]; simp
/-- the numbers do not shrink -/
theorem relaxE_mono (es : List (Int × Int)) (out : List Int) (i : Int) (t : Nat) : out.getD t 0 ≤ (relaxE es out i).getD t 0 := by
  rw [relaxE_getD]; split <;> omega
theorem relaxL_mono (es : List (Int × Int)) (l : List Int) : ∀ (out : List Int) (t : Nat), out.getD t 0 ≤ (relaxL es out l).getD t 0 := by
  induction l with
  | nil => exact fun _ _ => Int.le_refl _
  | cons a r ih => exact fun out t => Int.le_trans (relaxE_mono es out a t) (ih (relaxE es out a) t)

/-- told of all edges to the vertices of the order, one by one -/
def levO (es : List (Int × Int)) (out : List Int) (order : List Int) : List Int := order.foldl (fun out x => relaxL es out (endsF es Prod.snd x es.length)) out
def levF (n : Nat) (es : List (Int × Int)) : List Int := levO es (List.replicate n 0) (orderF es n)
theorem levO_length (es : List (Int × Int)) (order : List Int) : ∀ out : List Int, (levO es out order).length = out.length := by
  induction order with
  | nil => exact fun _ => rfl
  | cons a r ih => intro out; show (levO es (relaxL es out _) r).length = _; rw [ih, relaxL_length]
theorem levF_length (n : Nat) (es : List (Int × Int)) : (levF n es).length = n := by unfold levF; rw [levO_length]; simp
/-- round upon round of all edges -/
def levR (es : List (Int × Int)) : Nat → List Int → List Int
  | 0, out => out
  | k + 1, out => relaxL es (levR es k out) ((List.range es.length).map fun i : Nat => (i : Int))
theorem levR_length (es : List (Int × Int)) (out : List Int) : ∀ k, (levR es k out).length = out.length
  | 0 => rfl
  | k + 1 => by rw [levR, relaxL_length, levR_length es out k]

/-- levels' own words: an edge rises; a level above 0 comes of an edge -/
structure Lev (n : Nat) (es : List (Int × Int)) (L : Nat → Int) : Prop where
  nn : ∀ v, 0 ≤ L v
  up : ∀ e ∈ es, L e.1.toNat + 1 ≤ L e.2.toNat
  of : ∀ v, v < n → L v = 0 ∨ ∃ e ∈ es, e.2 = (v : Int) ∧ L v = L e.1.toNat + 1
/-- the edges' ends lie below n -/
def EdgesIn (n : Nat) (es : List (Int × Int)) : Prop := ∀ e ∈ es, 0 ≤ e.1 ∧ e.1 < (n : Int) ∧ 0 ≤ e.2 ∧ e.2 < (n : Int)
/-- the order's place of a vertex -/
theorem ord_all {es : List (Int × Int)} {n : Nat} {out : List Int} (h : Ord es n out) (hl : out.length = n) {v : Nat} (hv : v < n) : (v : Int) ∈ out := by
  by_cases hm : (v : Int) ∈ out
  · exact hm
  · exfalso
    have hs : out ++ [(v : Int)] ⊆ (List.range n).map fun i : Nat => (i : Int) := fun a ha => by
      rcases List.mem_append.1 ha with ha | ha
      · obtain ⟨h1, h2⟩ := h.lt a ha
        exact List.mem_map.2 ⟨a.toNat, List.mem_range.2 (by omega), by omega⟩
      · have : a = v := by simpa using ha
        exact List.mem_map.2 ⟨v, List.mem_range.2 hv, this.symm⟩
    have hnd : (out ++ [(v : Int)]).Nodup := by
      rw [List.nodup_append]
      refine ⟨h.nd, by simp, fun a ha b hb e => ?_⟩
      have : b = v := by simpa using hb
      subst this
      rw [e] at ha
      exact hm ha
    have := List.Nodup.length_le_of_subset hnd hs
    simp at this
    omega
/-- the edges to x, told on: nothing but x's number turns -/
theorem relax_x {es : List (Int × Int)} {x : Nat} : ∀ (l : List Int) (out : List Int), x < out.length → (∀ i ∈ l, (hd es i).toNat = x ∧ (tl es i).toNat ≠ x) →
    (∀ t, t ≠ x → (relaxL es out l).getD t 0 = out.getD t 0) ∧ (∀ i ∈ l, out.getD (tl es i).toNat 0 + 1 ≤ (relaxL es out l).getD x 0) ∧ ((relaxL es out l).getD x 0 = out.getD x 0 ∨ ∃ i ∈ l, (relaxL es out l).getD x 0 = out.getD (tl es i).toNat 0 + 1)
  | [], out, _, _ => ⟨fun _ _ => rfl, by simp, .inl rfl⟩
  | i :: r, out, hx, h => by
    obtain ⟨h1, h2⟩ := h i (by simp)
    have ih := relax_x r (relaxE es out i) (by rw [relaxE_length]; exact hx) fun j hj => h j (by simp [hj])
    have e0 : relaxL es out (i :: r) = relaxL es (relaxE es out i) r := rfl
    have eo : ∀ t, t ≠ x → (relaxE es out i).getD t 0 = out.getD t 0 := fun t ht => by rw [relaxE_getD, if_neg (fun h => ht (by omega))]
    have ex : (relaxE es out i).getD x 0 = max (out.getD x 0) (out.getD (tl es i).toNat 0 + 1) := by rw [relaxE_getD, if_pos ⟨h1, hx⟩]
    rw [e0]
    obtain ⟨a, b, c⟩ := ih
    refine ⟨fun t ht => (a t ht).trans (eo t ht), fun j hj => ?_, ?_⟩
    · rcases List.mem_cons.1 hj with rfl | hj
      · have := relaxL_mono es r (relaxE es out j) x
        omega
      · have := b j hj
        rw [eo _ (h j (by simp [hj])).2] at this
        exact this
    · rcases c with c | ⟨j, hj, c⟩
      · rw [c, ex]
        rcases Int.le_total (out.getD x 0) (out.getD (tl es i).toNat 0 + 1) with h3 | h3
        · exact .inr ⟨i, by simp, by omega⟩
        · exact .inl (by omega)
      · refine .inr ⟨j, by simp [hj], ?_⟩
        rw [c, eo _ (h j (by simp [hj])).2]
/-- what holds when some of the order's vertices are done -/
structure LevP (n : Nat) (es : List (Int × Int)) (done : List Int) (L : List Int) : Prop where
  len : L.length = n
  rest : ∀ v : Nat, (v : Int) ∉ done → L.getD v 0 = 0
  up : ∀ e ∈ es, e.2 ∈ done → L.getD e.1.toNat 0 + 1 ≤ L.getD e.2.toNat 0
  of : ∀ v : Nat, (v : Int) ∈ done → L.getD v 0 = 0 ∨ ∃ e ∈ es, e.2 = (v : Int) ∧ L.getD v 0 = L.getD e.1.toNat 0 + 1
theorem LevP.step {n : Nat} {es : List (Int × Int)} (hE : EdgesIn n es) {done : List Int} {L : List Int} (h : LevP n es done L) {x : Nat} (hxn : x < n) (hx : (x : Int) ∉ done) (hpre : ∀ e ∈ es, e.2 = (x : Int) → e.1 ∈ done) (hclo : ∀ e ∈ es, e.2 ∈ done → e.1 ∈ done) :
    LevP n es (done ++ [(x : Int)]) (relaxL es L (endsF es Prod.snd x es.length)) := by
  have hin : ∀ i ∈ endsF es Prod.snd x es.length, (hd es i).toNat = x ∧ (tl es i).toNat ≠ x := by
    intro i hi
    obtain ⟨k, rfl, hk, he⟩ := mem_endsF.1 hi
    have hm := getD_mem hk
    have h1 := hE _ hm
    have h2 := hpre _ hm he
    refine ⟨by unfold hd; simp only [Int.toNat_natCast]; omega, fun e => ?_⟩
    unfold tl at e
    simp only [Int.toNat_natCast] at e
    have : (es.getD k (0, 0)).1 = (x : Int) := by omega
    rw [this] at h2
    exact hx h2
  obtain ⟨a, b, c⟩ := relax_x (endsF es Prod.snd x es.length) L (by rw [h.len]; exact hxn) hin
  have hne : ∀ e ∈ es, e.1 ∈ done → e.1.toNat ≠ x := fun e he hd he2 => by
    have := hE e he
    have h3 : e.1 = (x : Int) := by omega
    rw [h3] at hd; exact hx hd
  refine ⟨by rw [relaxL_length, h.len], fun v hv => ?_, fun e he hd => ?_, fun v hv => ?_⟩
  · have h1 : (v : Int) ∉ done := fun h' => hv (by simp [h'])
    have h2 : v ≠ x := fun h' => hv (by simp [h'])
    rw [a v h2, h.rest v h1]
  · rcases List.mem_append.1 hd with hd | hd
    · have h1 := h.up e he hd
      have h2 := hclo e he hd
      have h3 : e.2.toNat ≠ x := fun e' => by
        have := hE e he
        have h3 : e.2 = (x : Int) := by omega
        rw [h3] at hd; exact hx hd
      rw [a _ h3, a _ (hne e he h2)]
      exact h1
    · have hd : e.2 = (x : Int) := by simpa using hd
      obtain ⟨k, hk, rfl⟩ := mem_getD he
      have := b (k : Int) (mem_endsF.2 ⟨k, rfl, hk, hd⟩)
      unfold tl at this
      simp only [Int.toNat_natCast] at this
      rw [a _ (hne _ he (hpre _ he hd)), hd]
      simpa using this
  · rcases List.mem_append.1 hv with hv1 | hv
    · have h2 : v ≠ x := fun e => by subst e; exact hx hv1
      rw [a v h2]
      rcases h.of v hv1 with h3 | ⟨e, he, h4, h5⟩
      · exact .inl h3
      · refine .inr ⟨e, he, h4, ?_⟩
        rw [a _ (hne e he (hclo e he (by rw [h4]; exact hv1)))]
        exact h5
    · have : v = x := by have : (v : Int) = x := by simpa using hv
                         omega
      subst this
      rcases c with c | ⟨i, hi, c⟩
      · rw [c]; exact .inl (h.rest v hx)
      · obtain ⟨k, rfl, hk, he⟩ := mem_endsF.1 hi
        refine .inr ⟨_, getD_mem hk, he, ?_⟩
        rw [c, a _ (hne _ (getD_mem hk) (hpre _ (getD_mem hk) he))]
        unfold tl
        simp
theorem ord_clo {es : List (Int × Int)} {n : Nat} {out : List Int} (h : Ord es n out) (k : Nat) {e : Int × Int} (he : e ∈ es) (hm : e.2 ∈ out.take k) : e.1 ∈ out.take k := by
  obtain ⟨i, hi, e1⟩ := List.getElem_of_mem hm
  rw [List.getElem_take] at e1
  have hi' : i < out.length := by simp at hi; omega
  have := h.pre i hi' e he e1.symm
  have hik : i ≤ k := by simp at hi; omega
  have : e.1 ∈ (out.take k).take i := by rw [List.take_take, Nat.min_eq_left hik]; exact this
  exact List.mem_of_mem_take this
theorem levO_take {n : Nat} {es : List (Int × Int)} (hE : EdgesIn n es) {order : List Int} (ho : Ord es n order) : ∀ k, k ≤ order.length → LevP n es (order.take k) (levO es (List.replicate n 0) (order.take k))
  | 0, _ => ⟨by simp [levO], fun v _ => by
      rw [List.take_zero]
      show (List.replicate n (0 : Int)).getD v 0 = 0
      have := Bd.zero n v
      omega, by simp, by simp⟩
  | k + 1, hk => by
    have ih := levO_take hE ho k (by omega)
    have hlt : k < order.length := by omega
    have hm := ho.lt _ (List.getElem_mem hlt)
    obtain ⟨x, hx⟩ : ∃ x : Nat, order[k] = (x : Int) := ⟨order[k].toNat, by omega⟩
    rw [List.take_succ_eq_append_getElem hlt, hx]
    have e0 : levO es (List.replicate n 0) (order.take k ++ [(x : Int)]) = relaxL es (levO es (List.replicate n 0) (order.take k)) (endsF es Prod.snd x es.length) := by
      unfold levO; rw [List.foldl_append]; rfl
    rw [e0]
    refine ih.step hE (by omega) ?_ (fun e he h2 => ho.pre k hlt e he (by rw [hx]; exact h2)) (fun e he h2 => ord_clo ho k he h2)
    intro hmem
    obtain ⟨i, hi, e1⟩ := List.getElem_of_mem hmem
    rw [List.getElem_take] at e1
    have hik : i < k := by simp at hi; omega
    have := (List.getElem_inj (h₀ := (by omega : i < order.length)) (h₁ := hlt) ho.nd).1 (e1.trans hx.symm)
    omega
/-- the levels' words hold -/
theorem levF_lev {n : Nat} {es : List (Int × Int)} (hE : EdgesIn n es) (hl : (orderF es n).length = n) : Lev n es fun v => (levF n es).getD v 0 := by
  have ho := orderF_ord es n
  have h := levO_take hE ho (orderF es n).length (Nat.le_refl _)
  rw [List.take_length] at h
  have hz : ∀ v, 0 ≤ (levF n es).getD v 0 := fun v => by
    have h1 : ∀ (o : List Int) (t : Nat) (L : List Int), 0 ≤ L.getD t 0 → 0 ≤ (levO es L o).getD t 0 := by
      intro o t
      induction o with
      | nil => exact fun L h => h
      | cons a r ih => exact fun L h => ih _ (Int.le_trans h (relaxL_mono es _ L t))
    exact h1 _ v _ (by have := Bd.zero n v; omega)
  refine ⟨hz, fun e he => h.up e he ?_, fun v hv => h.of v (ord_all ho hl hv)⟩
  have h1 := hE e he
  have := ord_all ho hl (v := e.2.toNat) (by omega)
  rw [show ((e.2.toNat : Nat) : Int) = e.2 by omega] at this
  exact this
theorem relaxL_le {n : Nat} {es : List (Int × Int)} {L : Nat → Int} (hL : Lev n es L) : ∀ (l : List Int) (out : List Int), (∀ i ∈ l, i.toNat < es.length) → (∀ t, out.getD t 0 ≤ L t) → ∀ t, (relaxL es out l).getD t 0 ≤ L t
  | [], _, _, h => h
  | i :: r, out, hi, h => by
    refine relaxL_le hL r (relaxE es out i) (fun j hj => hi j (by simp [hj])) fun t => ?_
    rw [relaxE_getD]
    split
    · rename_i hc
      have h1 := hL.up _ (getD_mem (hi i (by simp)))
      have h2 := h (tl es i).toNat
      have h3 := h t
      unfold tl at h2
      unfold hd at hc
      rw [hc.1] at h1
      unfold tl
      omega
    · exact h t
theorem relaxL_ge {es : List (Int × Int)} : ∀ (l : List Int) (out : List Int) (i : Int), i ∈ l → (hd es i).toNat < out.length → out.getD (tl es i).toNat 0 + 1 ≤ (relaxL es out l).getD (hd es i).toNat 0
  | [], _, _, h, _ => by cases h
  | a :: r, out, i, hi, hl => by
    show _ ≤ (relaxL es (relaxE es out a) r).getD _ 0
    rcases List.mem_cons.1 hi with rfl | hi
    · refine Int.le_trans ?_ (relaxL_mono es r _ _)
      rw [relaxE_getD, if_pos ⟨rfl, hl⟩]
      omega
    · have := relaxL_ge r (relaxE es out a) i hi (by rw [relaxE_length]; exact hl)
      have h2 := relaxE_mono es out a (tl es i).toNat
      omega
/-- the rounds come to the levels -/
theorem levR_eq {n : Nat} {es : List (Int × Int)} (hE : EdgesIn n es) (hl : (orderF es n).length = n) : levR es n (List.replicate n 0) = levF n es := by
  have hL := levF_lev hE hl
  have ho := orderF_ord es n
  have hle : ∀ k t, (levR es k (List.replicate n 0)).getD t 0 ≤ (levF n es).getD t 0 := by
    intro k
    induction k with
    | zero => intro t; have h1 := Bd.zero n t; have h2 := hL.nn t; exact Int.le_trans h1.2 (by simpa using h2)
    | succ k ih => exact fun t => relaxL_le hL _ _ (fun i hi => by
        obtain ⟨j, hj, rfl⟩ := List.mem_map.1 hi
        simpa using hj) ih t
  have hge : ∀ k p (hp : p < (orderF es n).length), p < k → (levF n es).getD ((orderF es n)[p]).toNat 0 ≤ (levR es k (List.replicate n 0)).getD ((orderF es n)[p]).toNat 0 := by
    intro k
    induction k with
    | zero => intro p _ h; exact absurd h (Nat.not_lt_zero _)
    | succ k ih =>
      intro p hp hpk
      have hb := ho.lt _ (List.getElem_mem hp)
      rcases hL.of ((orderF es n)[p]).toNat (by omega) with h0 | ⟨e, he, h1, h2⟩
      · rw [h0]
        have h1 : ∀ (k t : Nat), 0 ≤ (levR es k (List.replicate n 0)).getD t 0 := by
          intro k
          induction k with
          | zero => intro t; exact (Bd.zero n t).1
          | succ k ih => exact fun t => Int.le_trans (ih t) (relaxL_mono es _ _ t)
        exact h1 _ _
      · rw [h2]
        have h3 := ho.pre p hp e he (by omega)
        obtain ⟨q, hq, e1⟩ := List.getElem_of_mem h3
        rw [List.getElem_take] at e1
        have hqp : q < p := by simp at hq; omega
        have h4 := ih q (by omega) (by omega)
        rw [e1] at h4
        obtain ⟨i, hi, rfl⟩ := mem_getD he
        have hin := hE _ he
        have h5 := relaxL_ge (es := es) ((List.range es.length).map fun i : Nat => (i : Int)) (levR es k (List.replicate n 0)) (i : Int) (List.mem_map.2 ⟨i, List.mem_range.2 hi, rfl⟩) (by
          rw [levR_length]; unfold hd; simp only [Int.toNat_natCast, List.length_replicate]; omega)
        unfold tl hd at h5
        simp only [Int.toNat_natCast] at h5
        rw [show ((orderF es n)[p]).toNat = ((es.getD i (0, 0)).2).toNat by omega]
        show _ ≤ (relaxL es _ _).getD _ 0
        omega
  apply List.ext_getElem
  · rw [levR_length, levF_length]; simp
  · intro v h1 h2
    rw [levR_length, List.length_replicate] at h1
    have hv := ord_all ho hl h1
    obtain ⟨p, hp, e⟩ := List.getElem_of_mem hv
    have h3 := hge n p hp (by omega)
    have h4 := hle n v
    rw [e] at h3
    simp only [Int.toNat_natCast] at h3
    have h5 : (levR es n (List.replicate n 0)).getD v 0 = (levF n es).getD v 0 := by omega
    rw [List.getD_eq_getElem?_getD, List.getElem?_eq_getElem (by rw [levR_length]; simpa using h1), List.getD_eq_getElem?_getD, List.getElem?_eq_getElem h2] at h5
    exact h5
theorem Bd.list {es : List (Int × Int)} : ∀ (l : List Int) (k : Nat) (out : List Int), Bd k out → Bd (k + l.length) (relaxL es out l)
  | [], _, _, h => h
  | i :: r, k, out, h => by
    have := Bd.list (es := es) r (k + 1) (relaxE es out i) (h.step es i)
    exact this.more (by simp; omega)
end Go.Proofs.YtnjikhhegebkiaaDoor
