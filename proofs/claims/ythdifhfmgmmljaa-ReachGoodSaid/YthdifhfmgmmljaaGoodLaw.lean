/-
  Plain law of ReachGood: an edge beside which there is another way may go; where there is none, each edge is wanted. Written by an AI agent.
-/
import Derived.Test.YthdifhfmgmmljaaPartLaw
namespace Go.Proofs.Ythdifhfmgmmljaa
open Go.RowKit

def cutE (es : List (Int × Int)) (k : Nat) : List (Int × Int) := es.take k ++ es.drop (k + 1)
theorem cutE_length {es : List (Int × Int)} {k : Nat} (h : k < es.length) : (cutE es k).length = es.length - 1 := by
  simp [cutE]; omega
theorem cutE_at {es : List (Int × Int)} {k i : Nat} (h : k < es.length) : (cutE es k)[i]? = if i < k then es[i]? else es[i + 1]? := by
  unfold cutE
  rw [List.getElem?_append]
  simp only [List.length_take, Nat.min_eq_left (Nat.le_of_lt h)]
  split
  · rw [List.getElem?_take, if_pos (by assumption)]
  · rw [List.getElem?_drop]; congr 1; omega
theorem edge_false {cnt : Nat → Bool} {es : List (Int × Int)} {x y : Nat} : Edge1 false cnt es x y ↔ ∃ i : Nat, cnt i = true ∧ es[i]? = some ((x : Int), (y : Int)) := by
  constructor
  · rintro ⟨i, hi, hc, h | ⟨h, _⟩⟩
    · exact ⟨i, hc, by rw [List.getElem?_eq_getElem hi, h]⟩
    · cases h
  · rintro ⟨i, hc, h⟩
    obtain ⟨hi, he⟩ := List.getElem?_eq_some_iff.1 h
    exact ⟨i, hi, hc, .inl he⟩
theorem cut_edge {es : List (Int × Int)} {k : Nat} (h : k < es.length) (x y : Nat) : Edge1 false (fun _ => true) (cutE es k) x y ↔ Edge1 false (fun i => i != k) es x y := by
  rw [edge_false, edge_false]
  constructor
  · rintro ⟨i, _, hi⟩
    rw [cutE_at h] at hi
    split at hi
    · exact ⟨i, by simp; omega, hi⟩
    · exact ⟨i + 1, by simp; omega, hi⟩
  · rintro ⟨i, hc, hi⟩
    have hne : i ≠ k := by simpa using hc
    by_cases hik : i < k
    · exact ⟨i, rfl, by rw [cutE_at h, if_pos hik]; exact hi⟩
    · exact ⟨i - 1, rfl, by rw [cutE_at h, if_neg (by omega), show i - 1 + 1 = i by omega]; exact hi⟩
theorem InN.cut {n : Nat} {es : List (Int × Int)} (h : InN n es) (k : Nat) : InN n (cutE es k) := fun e he => by
  rcases List.mem_append.1 he with h1 | h1
  · exact h e (List.mem_of_mem_take h1)
  · exact h e (List.mem_of_mem_drop h1)
/-- of each vertex: what it reaches -/
def Way (es : List (Int × Int)) : Nat → Nat → Prop := Star (Edge1 false (fun _ => true) es)
theorem transB_at {es : List (Int × Int)} {k t h : Nat} (he : es[k]? = some ((t : Int), (h : Int))) : transB es k = true ↔ Star (Edge1 false (fun i => i != k) es) t h := by
  have e0 : es.getD k (0, 0) = ((t : Int), (h : Int)) := by rw [List.getD_eq_getElem?_getD, he]; rfl
  unfold transB
  rw [e0]
  simp only [decide_eq_true_eq]
  rfl
theorem cut_way_iff {es : List (Int × Int)} {k : Nat} (h : k < es.length) (x y : Nat) : Way (cutE es k) x y ↔ Star (Edge1 false (fun i => i != k) es) x y :=
  ⟨fun s => s.mono fun _ _ e => (cut_edge h _ _).1 e, fun s => s.mono fun _ _ e => (cut_edge h _ _).2 e⟩
theorem cut_way {es : List (Int × Int)} {k : Nat} (h : k < es.length) (ht : transB es k = true) (x y : Nat) : Way (cutE es k) x y ↔ Way es x y := by
  rw [cut_way_iff h]
  constructor
  · exact fun s => s.mono fun _ _ ⟨i, hi, _, r⟩ => ⟨i, hi, rfl, r⟩
  · intro s
    induction s with
    | refl => exact .refl _
    | @head a b c e _ ih =>
      refine Star.trans ?_ ih
      obtain ⟨i, _, hi⟩ := edge_false.1 e
      by_cases hik : i = k
      · subst hik; exact (transB_at hi).1 ht
      · exact .one (edge_false.2 ⟨i, by simpa using hik, hi⟩)
theorem transL_pick {es : List (Int × Int)} (h : 0 < (transL es es.length).length) : ∃ k : Nat, (transL es es.length)[(transL es es.length).length - 1]? = some (k : Int) ∧ k < es.length ∧ transB es k = true := by
  have hl : (transL es es.length).length - 1 < (transL es es.length).length := by omega
  have hm := List.getElem_mem hl
  obtain ⟨k, hk, he⟩ := List.mem_map.1 (show (transL es es.length)[(transL es es.length).length - 1] ∈ ((List.range es.length).filter (transB es)).map Int.ofNat from hm)
  rw [List.mem_filter, List.mem_range] at hk
  exact ⟨k, by rw [List.getElem?_eq_getElem hl, ← he]; rfl, hk.1, hk.2⟩
theorem transL_none {es : List (Int × Int)} (h : (transL es es.length).length = 0) {k : Nat} (hk : k < es.length) : transB es k = false := by
  cases ht : transB es k with
  | false => rfl
  | true =>
    have : Int.ofNat k ∈ transL es es.length := List.mem_map.2 ⟨k, List.mem_filter.2 ⟨List.mem_range.2 hk, ht⟩, rfl⟩
    rw [List.eq_nil_of_length_eq_zero h] at this
    cases this
/-- where the same is reached, the same is told -/
theorem good_same {n : Nat} {es xs : List (Int × Int)} {T T2 : List Nat} (hin : InN n es) (hin2 : InN n xs) (hw : ∀ x y, Way xs x y ↔ Way es x y) (hT : Grown1 false (fun _ => true) n es T) (hT2 : Grown1 false (fun _ => true) n xs T2) {i : Nat} (hi : i < n) :
    T.getD i 0 = T2.getD i 0 := by
  obtain ⟨_, h1⟩ := grown_iff hin hT
  obtain ⟨_, h2⟩ := grown_iff hin2 hT2
  refine Nat.eq_of_testBit_eq fun y => ?_
  rw [Bool.eq_iff_iff, h1 i hi y, h2 i hi y]
  exact (hw i y).symm
/-- without another way beside it, an edge is no loop, and without it its head isn't reached -/
theorem good_cut {n : Nat} {xs : List (Int × Int)} {T : List Nat} (hin : InN n xs) (hn : n ≤ 64) {k t h : Nat} (hk : transB xs k = false) (he : xs[k]? = some ((t : Int), (h : Int))) (hT : Grown1 false (fun _ => true) n (cutE xs k) T) :
    t ≠ h ∧ t < n ∧ h < n ∧ setHas (T.getD t 0) h = false := by
  obtain ⟨hkl, hke⟩ := List.getElem?_eq_some_iff.1 he
  obtain ⟨a, b, hab, ha, hb⟩ := hin.at_ hkl
  rw [hke, Prod.mk.injEq] at hab
  obtain rfl : t = a := by omega
  obtain rfl : h = b := by omega
  have hno : ¬ Star (Edge1 false (fun i => i != k) xs) t h := fun s => by rw [(transB_at he).2 s] at hk; cases hk
  refine ⟨fun e => hno (e ▸ .refl _), ha, hb, ?_⟩
  obtain ⟨_, h1⟩ := grown_iff (hin.cut k) hT
  rw [setHas_bit hb hn, ← Bool.not_eq_true, h1 t ha h]
  exact fun s => hno ((cut_way_iff hkl t h).1 s)
end Go.Proofs.Ythdifhfmgmmljaa
