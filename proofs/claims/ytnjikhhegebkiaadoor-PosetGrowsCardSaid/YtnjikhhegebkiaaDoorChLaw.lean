/-
  Chains and vertices that are apart: what the laws' own looks say of lists. Written by an AI agent.
-/
import Derived.Test.YtnjikhhegebkiaaDoorDilLaw
import Derived.Test.YtnjikhhegebkiaaDoorGoLaw
namespace Go.Proofs.YtnjikhhegebkiaaDoor
open Go.RowKit

/-- chains that have each vertex once -/
structure ChainedP (n : Nat) (R : Nat → Nat → Bool) (ls : List (List Int)) : Prop where
  ne : ∀ l ∈ ls, l ≠ []
  rng : ∀ l ∈ ls, ∀ z ∈ l, ∃ k : Nat, z = k ∧ k < n
  nd : ls.flatten.Nodup
  step : ∀ l ∈ ls, ∀ i (h : i + 1 < l.length), l[i] ≠ l[i + 1] ∧ R l[i].toNat l[i + 1].toNat = true
  all : ∀ k : Nat, k < n → (k : Int) ∈ ls.flatten
/-- how often each vertex came, as long as none came twice -/
structure Cnt (n : Nat) (P : List Int) (cs : List Int) : Prop where
  len : cs.length = n
  nd : P.Nodup
  rng : ∀ z ∈ P, ∃ k : Nat, z = k ∧ k < n
  at_ : ∀ k : Nat, k < n → cs.getD k 0 = if (k : Int) ∈ P then 1 else 0
section
variable {n : Nat} {P cs : List Int}
theorem Cnt.nil (n : Nat) : Cnt n [] (List.replicate n 0) := ⟨by simp, List.nodup_nil, by simp, fun k hk => by simp [hk]⟩
theorem Cnt.push (h : Cnt n P cs) {x : Nat} (hx : x < n) (h0 : ¬ 0 < cs.getD x 0) : cs.getD x 0 = 0 ∧ (x : Int) ∉ P ∧ Cnt n (P ++ [(x : Int)]) (cs.set x 1) := by
  have h1 := h.at_ x hx
  have hn : (x : Int) ∉ P := fun hm => by rw [if_pos hm] at h1; omega
  rw [if_neg hn] at h1
  refine ⟨h1, hn, by simp [h.len], ?_, fun z hz => ?_, fun k hk => ?_⟩
  · rw [List.nodup_append]
    exact ⟨h.nd, by simp, fun a ha b hb e => by
      have : b = (x : Int) := by simpa using hb
      subst this; subst e; exact hn ha⟩
  · rcases List.mem_append.1 hz with hz | hz
    · exact h.rng z hz
    · exact ⟨x, by simpa using hz, hx⟩
  · by_cases hkx : x = k
    · subst hkx
      rw [getD_set_self (by rw [h.len]; exact hx), if_pos (by simp)]
    · rw [getD_set_ne hkx, h.at_ k hk]
      have : ((k : Int) ∈ P ++ [(x : Int)]) ↔ ((k : Int) ∈ P) := by
        simp only [List.mem_append, List.mem_singleton]
        constructor
        · rintro (h | h)
          · exact h
          · omega
        · exact .inl
      simp only [this]
theorem Cnt.twice (h : Cnt n P cs) {x : Nat} (hx : x < n) (h0 : 0 < cs.getD x 0) : (x : Int) ∈ P := by
  have h1 := h.at_ x hx
  by_cases hm : (x : Int) ∈ P
  · exact hm
  · rw [if_neg hm] at h1; omega
end
theorem take_flat {ls : List (List Int)} {i : Nat} (hi : i < ls.length) : (ls.take (i + 1)).flatten = (ls.take i).flatten ++ ls[i] := by
  rw [List.take_succ_eq_append_getElem hi, List.flatten_append]; simp
/-- what is looked at is the beginning of all -/
theorem flat_split {ls : List (List Int)} {i j : Nat} (hi : i < ls.length) (hj : j < ls[i].length) : ∃ r, ls.flatten = (ls.take i).flatten ++ ls[i].take j ++ ls[i][j] :: r := by
  refine ⟨ls[i].drop (j + 1) ++ (ls.drop (i + 1)).flatten, ?_⟩
  have e1 : ls.flatten = (ls.take (i + 1)).flatten ++ (ls.drop (i + 1)).flatten := by rw [← List.flatten_append, List.take_append_drop]
  have e2 : ls[i] = ls[i].take j ++ ls[i][j] :: ls[i].drop (j + 1) := by
    rw [List.getElem_cons_drop, List.take_append_drop]
  have e3 := congrArg (· ++ (ls.drop (i + 1)).flatten) e2
  rw [e1, take_flat hi, List.append_assoc, List.append_assoc]
  congr 1
  simpa only [List.append_assoc, List.cons_append] using e3
/-- the steps of a list, up to the j-th -/
def StepsTo (R : Nat → Nat → Bool) (l : List Int) (j : Nat) : Prop := ∀ i (h : i + 1 < l.length), i + 1 < j → l[i] ≠ l[i + 1] ∧ R l[i].toNat l[i + 1].toNat = true
/-- what has been looked at of the first i lists -/
def DoneTo (R : Nat → Nat → Bool) (ls : List (List Int)) (i : Nat) : Prop := ∀ k (h : k < ls.length), k < i → ls[k] ≠ [] ∧ StepsTo R ls[k] ls[k].length
theorem chained_end {n : Nat} {R : Nat → Nat → Bool} {ls : List (List Int)} {cs : List Int} (hc : Cnt n ls.flatten cs) (hd : DoneTo R ls ls.length) (ha : ∀ k, k < n → cs.getD k 0 = 1) : ChainedP n R ls := by
  refine ⟨fun l hl => ?_, fun l hl z hz => hc.rng z (List.mem_flatten.2 ⟨l, hl, hz⟩), hc.nd, fun l hl i hi => ?_, fun k hk => ?_⟩
  · obtain ⟨k, hk, rfl⟩ := List.getElem_of_mem hl
    exact (hd k hk hk).1
  · obtain ⟨k, hk, rfl⟩ := List.getElem_of_mem hl
    exact (hd k hk hk).2 i hi hi
  · have h1 := hc.at_ k hk
    rw [ha k hk] at h1
    by_cases hm : (k : Int) ∈ ls.flatten
    · exact hm
    · rw [if_neg hm] at h1; omega
theorem chained_no_dup {n : Nat} {R : Nat → Nat → Bool} {ls : List (List Int)} {i j : Nat} (hi : i < ls.length) (hj : j < ls[i].length) (hm : ls[i][j] ∈ (ls.take i).flatten ++ ls[i].take j) : ¬ ChainedP n R ls := fun h => by
  obtain ⟨r, hr⟩ := flat_split hi hj
  have := h.nd
  rw [hr, List.nodup_append] at this
  exact this.2.2 _ hm _ (List.mem_cons_self ..) rfl
theorem StepsTo.push {R : Nat → Nat → Bool} {l : List Int} {j : Nat} (h : StepsTo R l (j + 1)) (hj : j + 1 < l.length) (hs : l[j] ≠ l[j + 1] ∧ R l[j].toNat l[j + 1].toNat = true) : StepsTo R l (j + 1 + 1) := fun i hi hlt => by
  by_cases e : i = j
  · subst e; exact hs
  · exact h i hi (by omega)
/-- vertices that are apart, rising -/
structure ApartP (n : Nat) (R : Nat → Nat → Bool) (l : List Int) : Prop where
  rng : ∀ z ∈ l, ∃ k : Nat, z = k ∧ k < n
  rise : ∀ i (h : i + 1 < l.length), l[i] < l[i + 1]
  anti : ∀ i j (hi : i < l.length) (hj : j < l.length), i ≠ j → R l[i].toNat l[j].toNat = false
/-- what is reached, of vertices -/
def reachB (n : Nat) (es : List (Int × Int)) (x y : Nat) : Bool := (goAll false (List.replicate es.length true) es n x).getD y false
theorem reachB_iff {n : Nat} {es : List (Int × Int)} (hin : InN n es) {x : Nat} (hx : x < n) (y : Nat) : reachB n es x y = true ↔ Star (Edge1 false (fun _ => true) es) x y := by
  unfold reachB
  rw [goAll_iff (both := false) hin hx y]
  have : ∀ a b, Edge1 false (fun i => (List.replicate es.length true).getD i false) es a b ↔ Edge1 false (fun _ => true) es a b := by
    intro a b
    unfold Edge1
    constructor
    · rintro ⟨i, hi, _, h⟩; exact ⟨i, hi, rfl, h⟩
    · rintro ⟨i, hi, _, h⟩; exact ⟨i, hi, by simp [hi], h⟩
  exact ⟨fun h => h.mono fun a b e => (this a b).1 e, fun h => h.mono fun a b e => (this a b).2 e⟩
theorem reachB_up {n : Nat} {es : List (Int × Int)} {T : List Nat} (hin : InN n es) (hn : n ≤ 64) (h : Grown1 false (fun _ => true) n es T) {x y : Nat} (hx : x < n) (hy : y < n) : (x ≠ y ∧ reachB n es x y = true) ↔ Up (abF T n) x y := by
  obtain ⟨_, hs⟩ := grown_iff hin h
  rw [reachB_iff hin hx, ← hs x hx y]
  unfold Up
  rw [abF_at hx, offB_has (h.1.at_ x) (by omega)]
  exact ⟨fun h => ⟨fun e => h.1 e.symm, h.2⟩, fun h => ⟨fun e => h.1 e.symm, h.2⟩⟩
theorem dil_chained {n : Nat} {es : List (Int × Int)} {T : List Nat} {ls : List (List Int)} {a : List Int} (hin : InN n es) (hn : n ≤ 64) (h : Grown1 false (fun _ => true) n es T) (hd : Dil n (abF T n) ls a) : ChainedP n (reachB n es) ls := by
  refine ⟨hd.ne, fun l hl z hz => hd.rng z (List.mem_flatten.2 ⟨l, hl, hz⟩), hd.flat, fun l hl i hi => ?_, hd.all⟩
  obtain ⟨p, q, h1, h2, h3, h4, h5⟩ := hd.step l hl i hi
  have := (reachB_up hin hn h h3 h4).2 h5
  rw [h1, h2]
  exact ⟨by omega, by simpa using this.2⟩
theorem dil_apart {n : Nat} {es : List (Int × Int)} {T : List Nat} {ls : List (List Int)} {a : List Int} (hin : InN n es) (hn : n ≤ 64) (h : Grown1 false (fun _ => true) n es T) (hd : Dil n (abF T n) ls a) : ApartP n (reachB n es) a := by
  have hr := List.pairwise_iff_getElem.1 hd.rise
  refine ⟨hd.arng, fun i hi => hr i (i + 1) (by omega) hi (by omega), fun i j hi hj hij => ?_⟩
  obtain ⟨p, hp, hpn⟩ := hd.arng _ (List.getElem_mem hi)
  obtain ⟨q, hq, hqn⟩ := hd.arng _ (List.getElem_mem hj)
  have hpq : p ≠ q := by
    rcases Nat.lt_or_ge i j with h | h
    · have := hr i j hi hj h; omega
    · have := hr j i hj hi (by omega); omega
  rw [hp, hq]
  simp only [Int.toNat_natCast]
  cases hh : reachB n es p q with
  | false => rfl
  | true =>
    exact absurd ((reachB_up hin hn h hpn hqn).1 ⟨hpq, hh⟩) (hd.anti p q (hp ▸ List.getElem_mem hi) (hq ▸ List.getElem_mem hj))
theorem grown_unique {n : Nat} {es : List (Int × Int)} {T T' : List Nat} (hin : InN n es) (h : Grown1 false (fun _ => true) n es T) (h' : Grown1 false (fun _ => true) n es T') : T = T' := by
  obtain ⟨hl, hs⟩ := grown_iff hin h
  obtain ⟨hl', hs'⟩ := grown_iff hin h'
  apply List.ext_getElem (by rw [hl, hl'])
  intro x h1 h2
  have hx : x < n := by omega
  refine Nat.eq_of_testBit_eq fun i => ?_
  have a := hs x hx i
  have b := hs' x hx i
  rw [List.getD_eq_getElem?_getD, List.getElem?_eq_getElem h1] at a
  rw [List.getD_eq_getElem?_getD, List.getElem?_eq_getElem h2] at b
  exact Bool.eq_iff_iff.2 (a.trans b.symm)
end Go.Proofs.YtnjikhhegebkiaaDoor
