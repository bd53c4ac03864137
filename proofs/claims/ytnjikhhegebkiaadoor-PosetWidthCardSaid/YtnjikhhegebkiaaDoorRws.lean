/-
  Rows of the call's own, no two of which share a block; the edges by their ends. Written by an AI agent.
-/
import Derived.Test.YtnjikhhegebkiaaDoorSlices
namespace Go.Proofs.YtnjikhhegebkiaaDoor
open Go.RowKit

/-- rows of the call's own, no two of which share their block -/
structure RowsW (w : World) (base : Nat) (vs : List Value) (ls : List (List Int)) : Prop where
  len : vs.length = ls.length
  own : ∀ k (h : k < vs.length) (h' : k < ls.length), w.ownsRow base 3 1 vs[k] ls[k].length (intCells ls[k])
  apart : ∀ i j (hi : i < vs.length) (hj : j < vs.length), i ≠ j → vs[i].ownBlock = none ∨ vs[i].ownBlock ≠ vs[j].ownBlock

theorem RowsW.evo {B base : Nat} {T : List TypeId} {w w' : World} {vs : List Value} {ls : List (List Int)} (h : RowsW w base vs ls) (he : Evo B T w w') (ht : 3 ∉ T) : RowsW w' base vs ls :=
  ⟨h.len, fun k h1 h2 => own_evo (h.own k h1 h2) he ht, h.apart⟩
theorem RowsW.drew {base : Nat} {w : World} {vs : List Value} {ls : List (List Int)} (h : RowsW w base vs ls) : RowsW w.drew base vs ls := ⟨h.len, h.own, h.apart⟩
theorem RowsW.below {B base : Nat} {w w' : World} {vs : List Value} {ls : List (List Int)} (h : RowsW w base vs ls) (hb : Below B w w') (hB : w.heap.size ≤ B) : RowsW w' base vs ls :=
  ⟨h.len, fun k h1 h2 => own_below (h.own k h1 h2) hb hB, h.apart⟩
theorem ownBlock_lt {w : World} {base n size k : Nat} {v : Value} {e : TypeId} {xs : List Value} (h : w.ownsRow base e size v n xs) (hk : v.ownBlock = some k) : k < w.heap.size := (h.lt k hk).2
theorem RowsW.app {base : Nat} {w w' : World} {vs : List Value} {ls : List (List Int)} (h : RowsW w base vs ls) {x : Nat} (hx : x < vs.length) (hx' : x < ls.length) {v' : Value} {l' : List Int}
    (ho : w'.ownsRow base 3 1 v' l'.length (intCells l')) (hg : w.grownBy w' vs[x].ownBlock) (hb : v'.ownBlock = vs[x].ownBlock ∨ v'.ownBlock = some w.heap.size) :
    RowsW w' base (vs.set x v') (ls.set x l') := by
  refine ⟨by simp [h.len], fun k h1 h2 => ?_, fun i j hi hj hij => ?_⟩
  · simp only [List.length_set] at h1 h2
    by_cases hk : x = k
    · subst hk
      simp only [List.getElem_set_self]
      exact ho
    · simp only [List.getElem_set_ne hk]
      exact (h.own k h1 h2).kept hg (h.apart k x h1 hx (fun e => hk e.symm))
  · simp only [List.length_set] at hi hj
    have hlt : ∀ t (ht : t < vs.length), vs[t].ownBlock ≠ some w.heap.size := fun t ht e => by
      have := ownBlock_lt (h.own t ht (by rw [← h.len]; exact ht)) e
      omega
    by_cases h1 : x = i
    · subst h1
      simp only [List.getElem_set_self, List.getElem_set_ne hij]
      rcases hb with hb | hb
      · rw [hb]; exact h.apart x j hx hj hij
      · rw [hb]; exact .inr (fun e => hlt j hj e.symm)
    · by_cases h2 : x = j
      · subst h2
        simp only [List.getElem_set_self, List.getElem_set_ne h1]
        rcases hb with hb | hb
        · rw [hb]; exact h.apart i x hi hx hij
        · rw [hb]; exact .inr (hlt i hi)
      · simp only [List.getElem_set_ne h1, List.getElem_set_ne h2]
        exact h.apart i j hi hj hij
theorem RowsW.nils (w : World) (base n : Nat) : RowsW w base (List.replicate n (.slice none 0 0)) (List.replicate n []) :=
  ⟨by simp, fun k h1 h2 => by simp only [List.getElem_replicate]; exact World.ownsRow_nil _ _ _ _, fun i j hi hj _ => by simp only [List.getElem_replicate]; exact .inl rfl⟩

/-- of the first k edges those whose end is x -/
def endsF (es : List (Int × Int)) (f : Int × Int → Int) (x : Int) : Nat → List Int
  | 0 => []
  | k + 1 => endsF es f x k ++ if f (es.getD k (0, 0)) = x then [(k : Int)] else []
def lsV (n : Nat) (es : List (Int × Int)) (a b : Nat) : List (List Int) := (List.range n).map (fun x : Nat => endsF es Prod.fst x a) ++ (List.range n).map (fun x : Nat => endsF es Prod.snd x b)
theorem lsV_length (n : Nat) (es : List (Int × Int)) (a b : Nat) : (lsV n es a b).length = n + n := by simp [lsV]
theorem lsV_zero (n : Nat) (es : List (Int × Int)) : lsV n es 0 0 = List.replicate (n + n) [] := by
  apply List.ext_getElem
  · simp [lsV]
  · intro i h1 h2
    rw [List.getElem_replicate]
    refine List.eq_nil_of_length_eq_zero ?_
    have : ∀ l ∈ lsV n es 0 0, l.length = 0 := by
      intro l hl
      unfold lsV at hl
      rcases List.mem_append.1 hl with hl | hl <;> (obtain ⟨x, _, rfl⟩ := List.mem_map.1 hl; rfl)
    exact this _ (List.getElem_mem h1)
theorem map_range_set {α : Type} (n t : Nat) (f g : Nat → α) (v : α) (h1 : g t = v) (h2 : ∀ x, x ≠ t → g x = f x) : ((List.range n).map f).set t v = (List.range n).map g := by
  apply List.ext_getElem
  · simp
  · intro i h3 h4
    simp only [List.getElem_set, List.getElem_map, List.getElem_range]
    by_cases h : t = i
    · subst h; rw [if_pos rfl, h1]
    · rw [if_neg h, h2 i (fun e => h e.symm)]
theorem lsV_fst {n : Nat} {es : List (Int × Int)} {a b t : Nat} (ht : t < n) (ha : (es.getD a (0, 0)).1 = (t : Int)) : (lsV n es a b).set t (endsF es Prod.fst t a ++ [(a : Int)]) = lsV n es (a + 1) b := by
  unfold lsV
  rw [List.set_append_left _ _ (by simpa using ht), map_range_set n t _ (fun x : Nat => endsF es Prod.fst x (a + 1)) _ (by rw [endsF, if_pos ha]) (fun x hx => by rw [endsF, if_neg (by rw [ha]; omega), List.append_nil])]
theorem lsV_snd {n : Nat} {es : List (Int × Int)} {a b t : Nat} (_ht : t < n) (hb : (es.getD b (0, 0)).2 = (t : Int)) : (lsV n es a b).set (n + t) (endsF es Prod.snd t b ++ [(b : Int)]) = lsV n es a (b + 1) := by
  unfold lsV
  rw [List.set_append_right _ _ (by simp)]
  simp only [List.length_map, List.length_range, Nat.add_sub_cancel_left]
  rw [map_range_set n t _ (fun x : Nat => endsF es Prod.snd x (b + 1)) _ (by rw [endsF, if_pos hb]) (fun x hx => by rw [endsF, if_neg (by rw [hb]; omega), List.append_nil])]
theorem lsV_at_fst {n : Nat} {es : List (Int × Int)} {a b t : Nat} (ht : t < n) (h : t < (lsV n es a b).length) : (lsV n es a b)[t] = endsF es Prod.fst t a := by
  simp only [lsV]
  rw [List.getElem_append_left (by simpa using ht)]
  simp
theorem lsV_at_snd {n : Nat} {es : List (Int × Int)} {a b t : Nat} (ht : t < n) (h : n + t < (lsV n es a b).length) : (lsV n es a b)[n + t] = endsF es Prod.snd t b := by
  simp only [lsV]
  rw [List.getElem_append_right (by simp)]
  simp
theorem endsF_length (es : List (Int × Int)) (f : Int × Int → Int) (x : Int) : ∀ k, (endsF es f x k).length ≤ k
  | 0 => Nat.le_refl _
  | k + 1 => by
    have := endsF_length es f x k
    rw [endsF, List.length_append]
    split <;> simp <;> omega
theorem mem_endsF {es : List (Int × Int)} {f : Int × Int → Int} {x : Int} : ∀ {k : Nat} {a : Int}, a ∈ endsF es f x k ↔ ∃ i : Nat, a = i ∧ i < k ∧ f (es.getD i (0, 0)) = x
  | 0, a => by
    refine ⟨fun h => ?_, fun ⟨i, _, h, _⟩ => absurd h (Nat.not_lt_zero _)⟩
    exact absurd h (by simp [endsF])
  | k + 1, a => by
    rw [endsF, List.mem_append, mem_endsF (k := k)]
    constructor
    · rintro (⟨i, h1, h2, h3⟩ | h)
      · exact ⟨i, h1, by omega, h3⟩
      · by_cases hx : f (es.getD k (0, 0)) = x
        · rw [if_pos hx] at h
          exact ⟨k, by simpa using h, Nat.lt_succ_self _, hx⟩
        · rw [if_neg hx] at h; cases h
    · rintro ⟨i, h1, h2, h3⟩
      by_cases hk : i < k
      · exact .inl ⟨i, h1, hk, h3⟩
      · have : i = k := by omega
        subst this
        exact .inr (by rw [if_pos h3]; simpa using h1)
/-- a row, one behind what it was; the others are as they were -/
def pfRows {B : Nat} (vs : List Value) (x m : Nat) (ls : List (List Int)) : PFact B :=
  ⟨[3], [], fun _ v w => (∃ A c, v = .slice A m c) ∧ RowsW w B (vs.set x v) ls, fun _ hT _ _ _ _ he ⟨h1, h2⟩ => ⟨h1, h2.evo he (hT _ (by simp))⟩, fun _ _ _ _ _ h => h⟩
/-- a slice over what operation j yielded -/
def pfOne {B : Nat} (j : Nat) (t : TypeId) : PFact B :=
  ⟨[t], [j], fun us v w => ∃ g, v = .slice (some ⟨g, 0, none⟩) 1 1 ∧ B ≤ g ∧ Blk w g t #[us j] ∧ (us j).oneCell' = true, fun _ hT _ _ _ _ he ⟨g, hv, hg, hb, h1⟩ => ⟨g, hv, hg, hb.evo he (.inr (hT t (by simp))), h1⟩,
    fun _ _ h _ _ ⟨g, hv, hg, hb, h1⟩ => ⟨g, hv, hg, by rw [← h j (by simp)]; exact hb, by rw [← h j (by simp)]; exact h1⟩⟩
/-- block g holds what operation j yielded -/
def pfPut {B : Nat} (g j : Nat) (t : TypeId) (f : Value → Array Value) : PFact B :=
  ⟨[t], [j], fun us _ w => Blk w g t (f (us j)), fun _ hT _ _ _ _ he hb => hb.evo he (.inr (hT t (by simp))), fun _ _ h _ _ hb => by rw [← h j (by simp)]; exact hb⟩
/-- the same, another block is as it was -/
def pfPut2 {B : Nat} (g j : Nat) (t : TypeId) (f : Value → Array Value) (h : Nat) (D : Array Value) : PFact B :=
  ⟨[t], [j], fun us _ w => Blk w g t (f (us j)) ∧ Blk w h t D, fun _ hT _ _ _ _ he hb => ⟨hb.1.evo he (.inr (hT t (by simp))), hb.2.evo he (.inr (hT t (by simp)))⟩, fun _ _ h _ _ hb => ⟨by rw [← h j (by simp)]; exact hb.1, hb.2⟩⟩
theorem Cells.blk' {w : World} {g : Nat} {t : TypeId} {xs : List Value} (h : Blk w g t xs.toArray) : Cells w (g + 1) (some ⟨g, 0, none⟩) xs := Cells.of_blk (R := #[]) (by simpa using h)

/-- the rest behind n statements -/
def restC : Nat → Code → Code
  | 0, c => c
  | n + 1, .seq _ b => restC n b
  | _ + 1, c => c
def fstC : Code → Code
  | .seq a _ => a
  | c => c
def sndC : Code → Code
  | .seq _ b => b
  | c => c
theorem then_k {K K' : Act → World → Prop} {Q : Exit → Act → World → Prop} (h : ∀ a w, K a w → K' a w) : ∀ e a w, Exit.then K Q e a w → Exit.then K' Q e a w := by
  intro e a w hq
  cases e with
  | normal => exact h _ _ hq
  | exit id => exact hq
  | goto l => exact hq
  | ret => exact hq
  | panic ch => exact hq
  | outgrown => exact hq
theorem then_open {P : Program} {s : Code} {R : Act → World → Prop} {Q : Exit → Act → World → Prop} {a : Act} {w : World} (h : ∀ K : Act → World → Prop, (∀ a w, R a w → K a w) → s.wp P (Exit.then K Q) a w) : s.wp P (Exit.then R Q) a w := h R fun _ _ h => h
end Go.Proofs.YtnjikhhegebkiaaDoor
