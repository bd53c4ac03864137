/-
  Levels and a longest way: all levels up to the greatest occur; a map that counts. Written by an AI agent.
-/
import Derived.Test.YtnjikhhegebkiaaDoorLawSt
import Derived.Test.YtnjikhhegebkiaaDoorChLaw
import Derived.Maps.OwnOps
import Derived.Maps.OwnSet
import Derived.Maps.Views
namespace Go.Proofs.YtnjikhhegebkiaaDoor
open Go.RowKit Go.Maps

theorem law3 : Keyed Tryd.prog 3 := int_keyed Tryd.underlying3
theorem zero3 (w : World) : (zeroValue 3).run Tryd.prog w = .ok (.int .i64 0) w := by kernel_rfl
/-- how many of the first i are x -/
def cntT (L : List Int) (i : Nat) (x : Int) : Nat := (L.take i).countP fun a => decide (a = x)
theorem cntT_succ {L : List Int} {i : Nat} (h : i < L.length) (x : Int) : cntT L (i + 1) x = cntT L i x + if L[i] = x then 1 else 0 := by
  unfold cntT
  rw [List.take_succ_eq_append_getElem h, List.countP_append]
  by_cases hx : L[i] = x
  · simp [hx]
  · simp [hx]
theorem cntT_le (L : List Int) (i : Nat) (x : Int) : cntT L i x ≤ L.length := by
  unfold cntT
  exact Nat.le_trans List.countP_le_length (by rw [List.length_take]; omega)
structure Seen (L : List Int) (i : Nat) (D : DataW Unit) : Prop where
  tidy : Tidy D
  cnt : ∀ x : Int, D.atKey (.int .i64 x) (.lit (.int .i64 0)) = .lit (.int .i64 (cntT L i x))
  ks : ∃ ks : List Int, ks.Nodup ∧ size D = ks.length ∧ (∀ x, x ∈ ks ↔ x ∈ L.take i) ∧ ∀ x : Int, has D (.int .i64 x) = decide (x ∈ ks)
theorem Seen.zero (L : List Int) : Seen L 0 (.map []) := ⟨tidy_empty, fun x => by simp [cntT, DataW.atKey], [], List.nodup_nil, rfl, by simp, fun x => by simp [has]⟩
theorem Seen.val {L : List Int} {i : Nat} {D : DataW Unit} (h : Seen L i D) {x c : Int} (hc : D.atKey (.int .i64 x) (.lit (.int .i64 0)) = .lit (.int .i64 c)) : c = cntT L i x := by
  rw [h.cnt x] at hc
  injection hc with hc
  injection hc with _ hc
  exact hc.symm
theorem Seen.push {L : List Int} {i : Nat} {D : DataW Unit} (h : Seen L i D) (hi : i < L.length) {k v : Int} (hk : k = L[i]) (hv : v = cntT L i k + 1) : Seen L (i + 1) (D.put (.int .i64 k) (.lit (.int .i64 v))) := by
  have hkl : WideAt.IsKeyLit (Lit.int .i64 k) := trivial
  refine ⟨h.tidy.put hkl _, fun x => ?_, ?_⟩
  · rw [cntT_succ hi]
    by_cases hx : x = k
    · subst hx
      rw [atKey_put_same (k := .int .i64 x) h.tidy.isMap hkl, hv, if_pos hk.symm]
      rfl
    · rw [atKey_put_other (by intro e; injection e with _ e; exact hx e), h.cnt x, if_neg (by omega)]
      rfl
  · obtain ⟨ks, h1, h2, h3, h4⟩ := h.ks
    have hmem : ∀ x, x ∈ L.take (i + 1) ↔ x ∈ L.take i ∨ x = k := fun x => by
      rw [List.take_succ_eq_append_getElem hi, List.mem_append, List.mem_singleton, hk]
    by_cases hkk : k ∈ ks
    · refine ⟨ks, h1, ?_, fun x => ?_, fun x => ?_⟩
      · rw [size_put h.tidy, h4, decide_eq_true hkk, if_pos rfl, h2]
      · rw [hmem, h3]
        exact ⟨.inl, fun e => e.elim id (fun e => by subst e; exact (h3 x).1 hkk)⟩
      · by_cases hx : x = k
        · subst hx
          rw [has_put_same h.tidy.isMap hkl, decide_eq_true hkk]
        · rw [has_put_other (by intro e; injection e with _ e; exact hx e), h4]
    · refine ⟨ks ++ [k], ?_, ?_, fun x => ?_, fun x => ?_⟩
      · rw [List.nodup_append]
        exact ⟨h1, by simp, fun a ha b hb e => by
          have : b = k := by simpa using hb
          subst this; subst e; exact hkk ha⟩
      · rw [size_put h.tidy, h4, decide_eq_false hkk, h2]
        simp
      · rw [hmem, List.mem_append, List.mem_singleton, h3]
      · by_cases hx : x = k
        · subst hx
          rw [has_put_same h.tidy.isMap hkl, decide_eq_true (by simp)]
        · rw [has_put_other (by intro e; injection e with _ e; exact hx e), h4]
          simp [hx]
/-- all levels up to the greatest occur -/
theorem lev_down {n : Nat} {es : List (Int × Int)} {L : List Int} (hE : EdgesIn n es) (hL : Lev n es fun v => L.getD v 0) (hl : L.length = n) : ∀ (d v : Nat), v < n → ∀ m : Nat, (L.getD v 0) = m + d → ∃ u, u < n ∧ L.getD u 0 = m
  | 0, v, hv, m, h => ⟨v, hv, by omega⟩
  | d + 1, v, hv, m, h => by
    rcases hL.of v hv with h0 | ⟨e, he, h1, h2⟩
    · have : (L.getD v 0) = 0 := h0
      omega
    · obtain ⟨q0, q1, q2, q3⟩ := hE e he
      have h2 : L.getD v 0 = L.getD e.1.toNat 0 + 1 := h2
      exact lev_down hE hL hl d e.1.toNat (by omega) m (by omega)
/-- as many levels as vertices in a longest way -/
theorem lev_count {n : Nat} {es : List (Int × Int)} {L : List Int} {D : DataW Unit} (hE : EdgesIn n es) (hL : Lev n es fun v => L.getD v 0) (hl : L.length = n) (hp : 0 < n) (hs : Seen L L.length D) :
    (∀ k : Nat, k < (longF n es L).length → (k : Int) ∈ L) ∧ size D = (longF n es L).length := by
  obtain ⟨t, ht1, ht, hmax, _⟩ := topF_spec (L := L) (by omega)
  have htt : L.getD (topF L).toNat 0 = L[t] := by
    rw [ht1]
    simp only [Int.toNat_natCast]
    rw [List.getD_eq_getElem?_getD, List.getElem?_eq_getElem ht]
    rfl
  have hlen : (longF n es L).length = (L[t]).toNat + 1 := by
    rw [longF, List.length_reverse, wayF_length, htt]
  have hnn : 0 ≤ L[t] := by
    have h : 0 ≤ L.getD t 0 := hL.nn t
    rwa [List.getD_eq_getElem?_getD, List.getElem?_eq_getElem ht] at h
  obtain ⟨M, hM⟩ : ∃ M : Nat, L[t] = M := ⟨(L[t]).toNat, by omega⟩
  have hlen : (longF n es L).length = M + 1 := by rw [hlen, hM]; simp
  have hall : ∀ k : Nat, k < M + 1 → (k : Int) ∈ L := fun k hk => by
    obtain ⟨u, hu, hue⟩ := lev_down hE hL hl (M - k) t (by omega) k (by rw [List.getD_eq_getElem?_getD, List.getElem?_eq_getElem ht]; show L[t] = _; rw [hM]; omega)
    rw [List.getD_eq_getElem?_getD, List.getElem?_eq_getElem (by omega)] at hue
    have hue : L[u]'(by omega) = (k : Int) := hue
    rw [← hue]
    exact List.getElem_mem _
  rw [hlen]
  refine ⟨hall, ?_⟩
  obtain ⟨ks, h1, h2, h3, _⟩ := hs.ks
  rw [List.take_length] at h3
  rw [h2]
  have hsub : ∀ z ∈ ks, ∃ k : Nat, z = k ∧ k < M + 1 := fun z hz => by
    obtain ⟨j, hj, rfl⟩ := List.getElem_of_mem ((h3 z).1 hz)
    have a1 := hmax j hj
    have a2 : 0 ≤ L.getD j 0 := hL.nn j
    rw [List.getD_eq_getElem?_getD, List.getElem?_eq_getElem hj] at a2
    have a2 : 0 ≤ L[j] := a2
    exact ⟨(L[j]).toNat, by omega, by omega⟩
  refine Nat.le_antisymm ?_ ?_
  · have := cover_le ((List.range (M + 1)).map fun k : Nat => [(k : Int)]) ks h1 (fun z hz => by
      obtain ⟨k, rfl, hk⟩ := hsub z hz
      exact ⟨[(k : Int)], List.mem_map.2 ⟨k, List.mem_range.2 hk, rfl⟩, by simp⟩) (fun l' hl' z _ z' _ h h' => by
      obtain ⟨k, _, rfl⟩ := List.mem_map.1 hl'
      have e1 : z = k := by simpa using h
      have e2 : z' = k := by simpa using h'
      rw [e1, e2])
    simpa using this
  · have := cover_le (ks.map fun k : Int => [k]) ((List.range (M + 1)).map fun k : Nat => (k : Int)) (by
      unfold List.Nodup
      rw [List.pairwise_map]
      exact List.Pairwise.imp (fun h e => by omega) List.pairwise_lt_range) (fun z hz => by
      obtain ⟨k, hk, rfl⟩ := List.mem_map.1 hz
      exact ⟨[(k : Int)], List.mem_map.2 ⟨_, (h3 _).2 (hall k (List.mem_range.1 hk)), rfl⟩, by simp⟩) (fun l' hl' z _ z' _ h h' => by
      obtain ⟨k, _, rfl⟩ := List.mem_map.1 hl'
      have e1 : z = k := by simpa using h
      have e2 : z' = k := by simpa using h'
      rw [e1, e2])
    simpa using this
theorem own_map_below {w w' : World} {B b n : Nat} {D : DataW Unit} {P : Program} {k : TypeId} {R : Value → Option (DataW Unit × List MemPlace)} (h : w.ownsMap P k R b n D) (hb : Below B w w') (hB : b < B) : w'.ownsMap P k R b n D := by
  obtain ⟨es, clock, h1, F, hs, hD⟩ := h
  exact ⟨es, clock, (hb.block b hB).trans h1, F, hs, hD⟩
end Go.Proofs.YtnjikhhegebkiaaDoor
