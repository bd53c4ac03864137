/-
  Package rotation: Faces: what it computes. Written by an AI agent.
-/
import Derived.Test.YthdifhfmgmmljaaNexts
import Derived.Test.YthdifhfmgmmljaaRegion2
namespace Go.Proofs.Ythdifhfmgmmljaa
open Go.RowKit

/-- one face, from a half edge on, till one is met again -/
def fWalk (nx : List Int) : Nat → List Bool → Nat → List Int → List Bool × List Int
  | 0, seen, _, face => (seen, face)
  | f + 1, seen, h, face => if seen.getD h false = true then (seen, face) else fWalk nx f (seen.set h true) (nx.getD h 0).toNat (face ++ [(h : Int)])
def fStep (nx : List Int) (st : List Bool × List (List Int)) (first : Nat) : List Bool × List (List Int) :=
  let r := fWalk nx (nx.length + 1) st.1 first []
  (r.1, if 0 < r.2.length then st.2 ++ [r.2] else st.2)
def fAll (nx : List Int) (k : Nat) : List Bool × List (List Int) := (List.range k).foldl (fStep nx) (List.replicate nx.length false, [])
def facesL (nx : List Int) : List (List Int) := (fAll nx nx.length).2
def facesOf (n : Int) (es : List (Int × Int)) (rs : List (List Int)) : List (List Int) := if rightB n es rs = true then facesL (nextsL es.length rs) else []
theorem fAll_succ (nx : List Int) (k : Nat) : fAll nx (k + 1) = fStep nx (fAll nx k) k := by
  unfold fAll; rw [List.range_succ, List.foldl_append]; rfl
theorem fWalk_seen {nx : List Int} : ∀ (f : Nat) (seen : List Bool) (h : Nat) (face : List Int), (fWalk nx f seen h face).1.length = seen.length
  | 0, _, _, _ => rfl
  | f + 1, seen, h, face => by
    unfold fWalk
    split
    · rfl
    · rw [fWalk_seen f]; simp
theorem fAll_seen (nx : List Int) (k : Nat) : (fAll nx k).1.length = nx.length := by
  induction k with
  | zero => simp [fAll]
  | succ k ih => rw [fAll_succ]; unfold fStep; simp only [fWalk_seen, ih]

/-- what Right tells: all half edges are some -/
theorem rRow_len {es : List (Int × Int)} {x : Nat} : ∀ (l : List Int) (s s' : List Bool), rRow es x (some s) l = some s' → s'.length = s.length
  | [], s, s', h => by injection h with h; rw [h]
  | a :: r, s, s', h => by
    have h' : rRow es x (rStep es x (some s) a) r = some s' := h
    cases hq : rStep es x (some s) a with
    | none => rw [hq, rRow_none] at h'; cases h'
    | some t => rw [hq] at h'; rw [rRow_len r t s' h', rStep_len hq]
theorem rAll_len {es : List (Int × Int)} {rs : List (List Int)} {k : Nat} {s : List Bool} (h : rAll es rs k = some s) : s.length = 2 * es.length := by
  induction k generalizing s with
  | zero => injection h with h; rw [← h]; simp
  | succ k ih =>
    rw [rAll_succ] at h
    cases hq : rAll es rs k with
    | none => rw [hq, rRow_none] at h; cases h
    | some t => rw [hq] at h; rw [rRow_len _ _ _ h, ih hq]
theorem right_in {n : Int} {es : List (Int × Int)} {rs : List (List Int)} (h : rightB n es rs = true) : ∀ l ∈ rs, ∀ a ∈ l, 0 ≤ a ∧ a < 2 * es.length := by
  intro l hl a ha
  obtain ⟨x, hx, rfl⟩ := List.mem_iff_getElem.1 hl
  obtain ⟨i, hi, rfl⟩ := List.mem_iff_getElem.1 ha
  have h1 : rRow es x (rAll es rs x) (rs[x].take (i + 1)) ≠ none := fun e => by rw [right_dead hx e] at h; cases h
  rw [rRow_take hi] at h1
  cases hq : rRow es x (rAll es rs x) (rs[x].take i) with
  | none => rw [hq] at h1; exact absurd rfl h1
  | some s =>
    have hs : s.length = 2 * es.length := by
      cases hq2 : rAll es rs x with
      | none => rw [hq2, rRow_none] at hq; cases hq
      | some t => rw [hq2] at hq; rw [rRow_len _ _ _ hq, rAll_len hq2]
    rw [hq] at h1
    unfold rStep at h1
    simp only at h1
    split at h1
    · exact absurd rfl h1
    · rename_i h2
      rw [hs] at h2
      omega
theorem right_may {n : Int} {es : List (Int × Int)} {rs : List (List Int)} (h : rightB n es rs = true) : mayB n es = true := by
  unfold rightB at h
  simp only [Bool.and_eq_true] at h
  exact h.1.1
theorem set_in {P : Int → Prop} {o : List Int} {k : Nat} {v : Int} (h : ∀ a ∈ o, P a) (hv : P v) : ∀ a ∈ o.set k v, P a := fun a ha => by
  rcases List.mem_or_eq_of_mem_set ha with h1 | h1
  · exact h a h1
  · rw [h1]; exact hv
theorem nextsL_in {m : Nat} {rs : List (List Int)} (hm : 0 < m) (hin : ∀ l ∈ rs, ∀ a ∈ l, 0 ≤ a ∧ a < 2 * (m : Int)) : ∀ a ∈ nextsL m rs, 0 ≤ a ∧ a < 2 * (m : Int) := by
  unfold nextsL
  suffices ∀ k, k ≤ rs.length → ∀ a ∈ nAll m rs k, 0 ≤ a ∧ a < 2 * (m : Int) from this _ (Nat.le_refl _)
  intro k
  induction k with
  | zero =>
    intro _ a ha
    have := List.eq_of_mem_replicate (show a ∈ List.replicate (2 * m) 0 from ha)
    omega
  | succ k ih =>
    intro hk
    have ih := ih (by omega)
    rw [nAll_succ, List.getD_eq_getElem?_getD, List.getElem?_eq_getElem (show k < rs.length by omega)]
    show ∀ a ∈ nRow rs[k] (nAll m rs k) rs[k].length, _
    have hl := hin _ (List.getElem_mem (show k < rs.length by omega))
    generalize rs[k] = l at *
    suffices ∀ i, i ≤ l.length → ∀ a ∈ nRow l (nAll m rs k) i, 0 ≤ a ∧ a < 2 * (m : Int) from this _ (Nat.le_refl _)
    intro i
    induction i with
    | zero => exact fun _ => ih
    | succ i ih2 =>
      intro hi
      rw [nRow_succ]
      refine set_in (ih2 (by omega)) ?_
      have hj : (i + 1) % l.length < l.length := Nat.mod_lt _ (by omega)
      rw [List.getD_eq_getElem?_getD, List.getElem?_eq_getElem hj]
      exact hl _ (List.getElem_mem hj)
theorem nextsL_at {m k : Nat} {rs : List (List Int)} (hk : k < 2 * m) (hin : ∀ l ∈ rs, ∀ a ∈ l, 0 ≤ a ∧ a < 2 * (m : Int)) : ∃ v : Nat, (nextsL m rs).getD k 0 = (v : Int) ∧ v < 2 * m := by
  have hl : k < (nextsL m rs).length := by unfold nextsL; rw [nAll_length]; exact hk
  rw [List.getD_eq_getElem?_getD, List.getElem?_eq_getElem hl]
  obtain ⟨h1, h2⟩ := nextsL_in (by omega) hin _ (List.getElem_mem hl)
  exact ⟨((nextsL m rs)[k]).toNat, by show (nextsL m rs)[k] = _; omega, by omega⟩

/-- the faces so far: a row of rows, all of the call's own -/
def FacesOwn (w : World) (b0 : Nat) (v : Value) (F : List (List Int)) : Prop :=
  ∃ sl : List Value, w.ownsRow b0 27 1 v F.length sl ∧ ∀ i (h : i < F.length), ∃ Ai ci, sl[i]? = some (.slice Ai F[i].length ci) ∧ w.ownsRow b0 3 1 (.slice Ai F[i].length ci) F[i].length (intCells F[i])
theorem own_other {w : World} {base size n gs : Nat} {e t : TypeId} {v : Value} {xs : List Value} {cs : Array Value} (h : w.ownsRow base e size v n xs) (hb : Blk w gs t cs) (ht : e ≠ t) : v.ownBlock = none ∨ v.ownBlock ≠ some gs := by
  rcases h.2 with ⟨rfl, _⟩ | ⟨k, cap, cur, rfl, _, hh, _⟩
  · exact .inl rfl
  · refine .inr fun e1 => ?_
    simp [Value.ownBlock] at e1
    subst e1
    unfold Blk at hb
    rw [hh] at hb
    injection hb with hb
    injection hb with _ hb
    exact ht hb
theorem own_grown {w w' : World} {base size n gs : Nat} {e t : TypeId} {v : Value} {xs : List Value} {cs : Array Value} (h : w.ownsRow base e size v n xs) (hb : Blk w gs t cs) (ht : e ≠ t) (hg : w.grownBy w' (some gs)) : w'.ownsRow base e size v n xs :=
  h.kept hg (own_other h hb ht)
theorem only_app {a w w' : World} {gs : Nat} {row : Option Nat} (h : a.grownBy w (some gs)) (hg : w.grownBy w' row) (hr : ∀ k, row = some k → a.heap.size ≤ k) : a.grownBy w' (some gs) :=
  ⟨hg.os.trans h.os, hg.tape.trans h.tape, hg.output.trans h.output, Nat.le_trans h.size hg.size, fun i hi hne => (hg.block i (Nat.lt_of_lt_of_le hi h.size) (fun e => by have := hr i e.symm; omega)).trans (h.block i hi hne)⟩
theorem FacesOwn.grown {w w' : World} {b0 gs : Nat} {v : Value} {F : List (List Int)} {cs : Array Value} (h : FacesOwn w b0 v F) (hb : Blk w gs 4 cs) (hg : w.grownBy w' (some gs)) : FacesOwn w' b0 v F := by
  obtain ⟨sl, h1, h2⟩ := h
  refine ⟨sl, own_grown h1 hb (by decide) hg, fun i hi => ?_⟩
  obtain ⟨Ai, ci, h3, h4⟩ := h2 i hi
  exact ⟨Ai, ci, h3, own_grown h4 hb (by decide) hg⟩
theorem FacesOwn.push {w w' : World} {b0 : Nat} {v v' : Value} {F : List (List Int)} {sl : List Value} {f : List Int} {A : Option Addr} {c : Nat} (ho : w.ownsRow b0 27 1 v F.length sl)
    (h2 : ∀ i (h : i < F.length), ∃ Ai ci, sl[i]? = some (.slice Ai F[i].length ci) ∧ w.ownsRow b0 3 1 (.slice Ai F[i].length ci) F[i].length (intCells F[i])) (hf : w.ownsRow b0 3 1 (.slice A f.length c) f.length (intCells f))
    (hg : w.grownBy w' v.ownBlock) (h' : w'.ownsRow b0 27 1 v' (F.length + 1) (sl ++ [.slice A f.length c])) : FacesOwn w' b0 v' (F ++ [f]) := by
  have hev : Evo b0 [27] w w' := Evo.of_grown ho hg (by simp) (Nat.le_refl _)
  have hsl : sl.length = F.length := by have := ho.1; omega
  refine ⟨_, by simpa using h', fun i hi => ?_⟩
  by_cases hlt : i < F.length
  · obtain ⟨Ai, ci, h3, h4⟩ := h2 i hlt
    rw [List.getElem_append_left hlt]
    exact ⟨Ai, ci, by rw [List.getElem?_append_left (by omega)]; exact h3, own_evo h4 hev (by decide)⟩
  · have hie : i = F.length := by simp at hi; omega
    subst hie
    simp only [List.getElem_concat_length]
    exact ⟨A, c, by rw [List.getElem?_append_right (by omega), hsl]; simp, own_evo hf hev (by decide)⟩
theorem FacesOwn.rows {w : World} {b0 : Nat} {v : Value} {F : List (List Int)} (h : FacesOwn w b0 v F) : ∃ A c, v = .slice A F.length c ∧ RowsAt w w.heap.size A F := by
  obtain ⟨sl, h1, h2⟩ := h
  obtain ⟨A, c, rfl⟩ := own_slice h1
  refine ⟨A, c, rfl, fun hn => ?_⟩
  have hsl : sl.length = F.length := by have := h1.1; omega
  obtain ⟨b, off, he, hb, hc⟩ := Cells.of_own h1 (by omega)
  refine ⟨b, off, he, hb, fun i hi => ?_⟩
  obtain ⟨Ai, ci, h3, h4⟩ := h2 i hi
  exact ⟨Ai, ci, hc i _ h3, Cells.of_own h4⟩
theorem elemRows : Elem Try.prog 44 27 (.slice none 0 0) 1 24 := Elem.mk' Try.underlying44 (by kernel_rfl) rfl (by omega)
end Go.Proofs.Ythdifhfmgmmljaa
