import Derived.Test.YtelcofkjpkdjiaaGreatZWeb
import Derived.Laws.OwnMore
import Derived.Maps.OwnOps
import Derived.Maps.OwnSet
import Derived.Maps.Views
/-
  The parts in memory: two rows and a number each. Written by an AI agent.
-/
namespace Go.Proofs.YtelcofkjpkdjiaaGreat
open Go.RowKit

/-- the cells of m parts: rows 2 k and 2 k + 1, and a number -/
def tri (m : Nat) (rv : Nat → Value) (an : Nat → Nat) : List Value := (List.range (3 * m)).map fun i => if i % 3 = 2 then .int .i64 (an (i / 3) : Nat) else rv (2 * (i / 3) + i % 3)
section
variable {m : Nat} {rv : Nat → Value} {an : Nat → Nat}
theorem tri_row {k j : Nat} (hk : k < m) (hj : j < 2) : (tri m rv an)[3 * k + j]? = some (rv (2 * k + j)) := by
  unfold tri
  rw [List.getElem?_map, List.getElem?_range (by omega), Option.map_some, if_neg (by omega), show (3 * k + j) / 3 = k by omega, show (3 * k + j) % 3 = j by omega]
theorem tri_set {k j : Nat} (hk : k < m) (hj : j < 2) (v : Value) : (tri m rv an).set (3 * k + j) v = tri m (fun i => if i = 2 * k + j then v else rv i) an := by
  unfold tri
  refine map_range_set _ _ _ _ _ ?_ fun x hx => ?_
  · show (if (3 * k + j) % 3 = 2 then _ else _) = _
    rw [if_neg (by omega)]
    exact if_pos (by omega)
  · show (if x % 3 = 2 then _ else _) = _
    by_cases h : x % 3 = 2
    · rw [if_pos h, if_pos h]
    · rw [if_neg h, if_neg h]
      exact if_neg (by omega)
end
theorem own_but {w w' : World} {base size n : Nat} {e : TypeId} {v : Value} {xs : List Value} {S : List Nat} (h : w.ownsRow base e size v n xs) (hb : But S w w') (hS : ∀ g ∈ S, g < base) : w'.ownsRow base e size v n xs := by
  obtain ⟨h1, h2⟩ := h
  refine ⟨h1, ?_⟩
  rcases h2 with h2 | ⟨g, cap, cur, hv, hg, hh, r⟩
  · exact .inl h2
  · refine .inr ⟨g, cap, cur, hv, hg, ?_, r⟩
    rw [hb.block g (by rcases Nat.lt_or_ge g w.heap.size with h | h; exact h; rw [Array.getElem?_eq_none h] at hh; cases hh) (fun hm => by have := hS g hm; omega)]
    exact hh
theorem RowsW.but {w w' : World} {base : Nat} {vs : List Value} {ls : List (List Int)} {S : List Nat} (h : RowsW w base vs ls) (hb : But S w w') (hS : ∀ g ∈ S, g < base) : RowsW w' base vs ls :=
  ⟨h.len, fun k h1 h2 => own_but (h.own k h1 h2) hb hS, h.apart⟩
/-- v holds m parts: their rows' values, rows, and numbers -/
structure PartM (w : World) (B : Nat) (v : Value) (m : Nat) (rl : Nat → List Int) (an : Nat → Nat) (rv : Nat → Value) : Prop where
  own : w.ownsRow B 55 3 v m (tri m rv an)
  rows : RowsW w B ((List.range (2 * m)).map rv) ((List.range (2 * m)).map rl)
section
variable {w w' : World} {B m : Nat} {v : Value} {rl : Nat → List Int} {an : Nat → Nat} {rv : Nat → Value}
theorem PartM.but {S : List Nat} (h : PartM w B v m rl an rv) (hb : But S w w') (hS : ∀ g ∈ S, g < B) : PartM w' B v m rl an rv := ⟨own_but h.own hb hS, h.rows.but hb hS⟩
theorem PartM.below {B' : Nat} (h : PartM w B v m rl an rv) (hb : Below B' w w') (hB : w.heap.size ≤ B') : PartM w' B v m rl an rv := ⟨own_below h.own hb hB, h.rows.below hb hB⟩
theorem PartM.drew (h : PartM w B v m rl an rv) : PartM w.drew B v m rl an rv := ⟨h.own, h.rows.drew⟩
theorem PartM.zero (w : World) (B : Nat) (rl : Nat → List Int) (an : Nat → Nat) (rv : Nat → Value) : PartM w B (.slice none 0 0) 0 rl an rv := ⟨World.ownsRow_nil _ _ _ _, ⟨rfl, fun _ h => absurd h (by simp), fun _ _ h => absurd h (by simp)⟩⟩
end
theorem RowsW.app2 {base : Nat} {w w' : World} {vs : List Value} {ls : List (List Int)} (h : RowsW w base vs ls) {x k0 : Nat} (hx : x < vs.length) (hx' : x < ls.length) {v' : Value} {l' : List Int}
    (ho : w'.ownsRow base 3 1 v' l'.length (intCells l')) (hg : w.grownBy w' vs[x].ownBlock) (hb : v'.ownBlock = vs[x].ownBlock ∨ v'.ownBlock = some k0) (hk0 : w.heap.size ≤ k0) :
    RowsW w' base (vs.set x v') (ls.set x l') := by
  refine ⟨by simp [h.len], fun k h1 h2 => ?_, fun i j hi hj hij => ?_⟩
  · simp only [List.length_set] at h1 h2
    by_cases hk : x = k
    · subst hk
      simp only [List.getElem_set_self]
      exact ho
    · simp only [List.getElem_set_ne hk]
      exact (h.own k h1 h2).kept hg (h.apart k x h1 hx (fun e => hk e.symm))
  · simp only [List.length_set] at hi hj
    have hlt : ∀ t (ht : t < vs.length), vs[t].ownBlock ≠ some k0 := fun t ht e => by
      have := ownBlock_lt (h.own t ht (by rw [← h.len]; exact ht)) e
      omega
    by_cases h1 : x = i
    · subst h1
      simp only [List.getElem_set_self, List.getElem_set_ne hij]
      rcases hb with hb | hb
      · rw [hb]; exact h.apart x j hx hj hij
      · rw [hb]; exact .inr (fun e => hlt j hj e.symm)
    · by_cases h2 : x = j
      · subst h2
        simp only [List.getElem_set_self, List.getElem_set_ne h1]
        rcases hb with hb | hb
        · rw [hb]; exact h.apart i x hi hx hij
        · rw [hb]; exact .inr (hlt i hi)
      · simp only [List.getElem_set_ne h1, List.getElem_set_ne h2]
        exact h.apart i j hi hj hij
section
variable {w w' : World} {B m g cap : Nat} {v' : Value} {rl : Nat → List Int} {an : Nat → Nat} {rv : Nat → Value}
theorem PartM.row {v : Value} (h : PartM w B v m rl an rv) {i : Nat} (hi : i < 2 * m) : w.ownsRow B 3 1 (rv i) (rl i).length (intCells (rl i)) := by
  have := h.rows.own i (by simpa using hi) (by simpa using hi)
  simpa using this
/-- one thing more in row 2 k + j -/
theorem PartM.app (h : PartM w B (.slice (some ⟨g, 0, none⟩) m cap) m rl an rv) {k j k0 : Nat} {x : Int} (hk : k < m) (hj : j < 2)
    (ho : w'.ownsRow B 3 1 v' ((rl (2 * k + j)).length + 1) (intCells (rl (2 * k + j)) ++ [.int .i64 x])) (hg : w.grownBy w' (rv (2 * k + j)).ownBlock) (hb : v'.ownBlock = (rv (2 * k + j)).ownBlock ∨ v'.ownBlock = some k0) (hk0 : w.heap.size ≤ k0) :
    PartM (w'.setCell ⟨g, 3 * k + j, none⟩ v') B (.slice (some ⟨g, 0, none⟩) m cap) m (fun i => if i = 2 * k + j then rl (2 * k + j) ++ [x] else rl i) an (fun i => if i = 2 * k + j then v' else rv i) := by
  have hi : 2 * k + j < 2 * m := by omega
  have ho' : w'.ownsRow B 3 1 v' (rl (2 * k + j) ++ [x]).length (intCells (rl (2 * k + j) ++ [x])) := by simpa [intCells] using ho
  have own1 := own_evo h.own (Evo.of_grown (T := [3]) (B := B) (h.row hi) hg (by simp) (Nat.le_refl _)) (by decide)
  obtain ⟨own2, hg2⟩ := own1.stored (3 * k + j) v'
  rw [tri_set hk hj] at own2
  refine ⟨own2, ?_⟩
  have r1 := h.rows.app2 (x := 2 * k + j) (by simpa using hi) (by simpa using hi) ho' (by simpa using hg) (by simpa using hb) hk0
  rw [map_range_set _ _ _ (fun i => if i = 2 * k + j then v' else rv i) _ (if_pos rfl) (fun x hx => if_neg hx), map_range_set _ _ _ (fun i => if i = 2 * k + j then rl (2 * k + j) ++ [x] else rl i) _ (if_pos rfl) (fun x hx => if_neg hx)] at r1
  exact r1.evo (Evo.of_grown (T := [55]) (B := B) own1 hg2 (by simp) (Nat.le_refl _)) (by decide)
theorem PartM.cell (h : PartM w B (.slice (some ⟨g, 0, none⟩) m cap) m rl an rv) {k j : Nat} (hk : k < m) (hj : j < 2) : w.cell? ⟨g, 3 * k + j, none⟩ = some (rv (2 * k + j)) := (h.own.cellAt _ (by omega)).trans (tri_row hk hj)
theorem PartM.frozen (h : PartM w B (.slice (some ⟨g, 0, none⟩) m cap) m rl an rv) (j : Nat) : w.frozen? ⟨g, j, none⟩ = false := h.own.frozenAt j
theorem PartM.congr {v : Value} {rl' : Nat → List Int} {an' : Nat → Nat} (h : PartM w B v m rl an rv) (h1 : ∀ i, i < 2 * m → rl i = rl' i) (h2 : ∀ k, k < m → an k = an' k) : PartM w B v m rl' an' rv := by
  refine ⟨?_, ?_⟩
  · have : tri m rv an' = tri m rv an := by
      unfold tri
      refine List.map_congr_left fun i hi => ?_
      have := List.mem_range.1 hi
      by_cases h3 : i % 3 = 2
      · rw [if_pos h3, if_pos h3, h2 _ (by omega)]
      · rw [if_neg h3, if_neg h3]
    rw [this]
    exact h.own
  · have : (List.range (2 * m)).map rl' = (List.range (2 * m)).map rl := List.map_congr_left fun i hi => (h1 i (List.mem_range.1 hi)).symm
    rw [this]
    exact h.rows
theorem PartM.form {v : Value} (h : PartM w B v m rl an rv) (hm : 0 < m) : ∃ g cap, v = .slice (some ⟨g, 0, none⟩) m cap ∧ B ≤ g := by
  obtain ⟨g, cap, R, hv, hg, _⟩ := own_blk h.own hm
  exact ⟨g, cap, hv, hg⟩
end
end Go.Proofs.YtelcofkjpkdjiaaGreat
/-
  Parts by their leaders: at which place which one (plain law); what the map of places holds. Written by an AI agent.
-/
namespace Go.Proofs.YtelcofkjpkdjiaaGreat
open Go.RowKit Go.Maps

def pos (ro : Nat → Nat) (c : Nat) : Nat := (leads ro c).length
section
variable {ro : Nat → Nat}
end
section
variable {ro : Nat → Nat}
end
/-- the map of places behind the first f faces -/
structure PlaceD (ro : Nat → Nat) (f : Nat) (D : DataW Unit) : Prop where
  map : IsMap D
  hit : ∀ c, ro c = c → c < f → ∀ z, D.atKey (.int .i64 (c : Nat)) z = .lit (.int .i64 (pos ro c : Nat))
  miss : ∀ c, ¬ (ro c = c ∧ c < f) → has D (.int .i64 (c : Nat)) = false
theorem PlaceD.zero (ro : Nat → Nat) : PlaceD ro 0 (.map []) := ⟨isMap_empty, fun _ _ h => absurd h (Nat.not_lt_zero _), fun _ _ => by simp [has]⟩
theorem PlaceD.same {ro : Nat → Nat} {f : Nat} {D : DataW Unit} (h : PlaceD ro f D) (hf : ro f ≠ f) : PlaceD ro (f + 1) D :=
  ⟨h.map, fun c hc hl => h.hit c hc (by rcases Nat.lt_or_eq_of_le (Nat.le_of_lt_succ hl) with h | h; exact h; subst h; exact absurd hc hf), fun c hn => h.miss c fun ⟨a, b⟩ => hn ⟨a, by omega⟩⟩
theorem PlaceD.put {ro : Nat → Nat} {f : Nat} {D : DataW Unit} (h : PlaceD ro f D) (hf : ro f = f) {v : Int} (hv : v = (pos ro f : Nat)) : PlaceD ro (f + 1) (D.put (.int .i64 (f : Nat)) (.lit (.int .i64 v))) := by
  refine ⟨h.map.put _ _, fun c hc hl z => ?_, fun c hn => ?_⟩
  · by_cases hcf : c = f
    · subst hcf
      rw [atKey_put_same h.map (show WideAt.IsKeyLit (Lit.int .i64 _) from trivial), hv]
    · rw [atKey_put_other (by intro e; injection e with _ e; omega)]
      exact h.hit c hc (by omega) z
  · have hcf : c ≠ f := fun e => hn ⟨e ▸ hf, by omega⟩
    rw [has_put_other (by intro e; injection e with _ e; omega)]
    exact h.miss c fun ⟨a, b⟩ => hn ⟨a, by omega⟩
end Go.Proofs.YtelcofkjpkdjiaaGreat
