/-
  The reference's Encode: what it tells. Written by an AI agent.
-/
import Derived.Test.YtmlbjcngboegfaaRefL
namespace Go.Proofs.Ytmlbjcngboegfaa
open Go.RowKit

/-- is it none of a kind, or has it what belongs to another? -/
def badB (k : Int) (p t d b e : Bool) : Bool := decide (k < 1) || decide (6 < k) || (p && k != 1) || (t && k != 2) || (d && k != 3) || (b && k != 4) || (e && decide (k < 5))
def refBad (x : Crt) : Bool :=
  badB x.k (decide (0 < x.ord.length + x.outs.length)) (decide (0 < x.turn.length) || x.outer != 0) (decide (0 < x.pts.length + x.lines.length))
    (decide (0 < x.b0.length) || decide (0 < x.b1.length) || decide (0 < x.b2.length) || decide (0 < x.b3.length)) (decide (0 < x.edges.length))

theorem bad_range {x : Crt} (h : refBad x = false) : 1 ≤ x.k ∧ x.k ≤ 6 := by
  unfold refBad badB at h
  simp only [Bool.or_eq_false_iff, decide_eq_false_iff_not] at h
  omega
/-- what stands behind the kind -/
def refI (x : Crt) : Option (List Int) :=
  if x.k = 1 then (listO numO x.ord).bind fun a => (listO (listO numO) x.outs).map (a ++ ·)
  else if x.k = 2 then (listO (listO numO) x.turn).bind fun a => (numO x.outer).map (a ++ ·)
  else if x.k = 3 then (listO ptO x.pts).bind fun a => (listO (listO ptO) x.lines).map (a ++ ·)
  else if x.k = 4 then goO (listO numO) [x.b0, x.b1, x.b2, x.b3]
  else listO numO x.edges
/-- the reference's Encode -/
def refE (x : Crt) : Option (List Int) := if refBad x = true then none else (refI x).map (x.k :: ·)
def RefEncPost (x : Crt) (w : World) (e : Ending) (w' : World) : Prop :=
  Below w.heap.size w w' ∧ (refE x = none → ∃ A m c, e = .returned (.tuple #[.slice A m c, .bool false])) ∧ ∀ bs, refE x = some bs → ∃ A c, e = .returned (.tuple #[.slice A bs.length c, .bool true]) ∧ Cells w' w'.heap.size A (byteCells bs)
theorem OptPost.out {o : Option (List Int)} {w w' : World} {e : Ending} (h : OptPost o w e w') (K : Nat) (hK : ∀ bs, o = some bs → bs.length ≤ K) :
    Below w.heap.size w w' ∧ ∃ A c bs ok, e = .returned (.tuple #[.slice A (bs : List Int).length c, .bool ok]) ∧ bs.length ≤ K ∧ Cells w' w'.heap.size A (byteCells bs) ∧ (∀ ad, A = some ad → w.heap.size ≤ ad.block) ∧ o = (if ok = true then some bs else none) := by
  obtain ⟨h1, h2, h3⟩ := h
  refine ⟨h1, ?_⟩
  cases ho : o with
  | none => exact ⟨none, 0, [], false, h2 ho, Nat.zero_le _, Cells.nil, fun ad h => (by cases h), by simp⟩
  | some bs =>
    obtain ⟨A, c, e1, e2, e3⟩ := h3 bs ho
    exact ⟨A, c, bs, true, e1, hK bs ho, e2, e3, by simp⟩
theorem refe_fin {x : Crt} {w w' : World} {A : Option Addr} {n c base : Nat} {cs : List Int} {ok : Bool} (hb : Below w.heap.size w w') (ho : w'.ownsRow base 5 1 (.slice A n c) n (byteCells (x.k :: cs))) (hv : refBad x = false) (hi : refI x = if ok = true then some cs else none) :
    RefEncPost x w (.returned (.tuple #[.slice A n c, .bool ok])) w' := by
  have hn : n = (x.k :: cs).length := by have := ho.1; rw [byteCells_length] at this; omega
  subst hn
  refine ⟨hb, fun h => ?_, fun bs h => ?_⟩
  · unfold refE at h
    rw [if_neg (by rw [hv]; simp), hi] at h
    cases ok with
    | true => simp at h
    | false => exact ⟨_, _, _, rfl⟩
  · unfold refE at h
    rw [if_neg (by rw [hv]; simp), hi] at h
    cases ok with
    | false => simp at h
    | true =>
      simp at h
      subst h
      exact ⟨_, _, rfl, Cells.of_own ho⟩
theorem bar_le {x : Crt} (h : CrtLe x) {i : Nat} (hi : i < 4) : (barOf x i).length ≤ 3000 := by
  have e : i = 0 ∨ i = 1 ∨ i = 2 ∨ i = 3 := by omega
  rcases e with rfl | rfl | rfl | rfl
  · exact h.l7
  · exact h.l8
  · exact h.l9
  · exact h.l10
theorem goO_step {α : Type} (e : α → Option (List Int)) {l : List α} {i : Nat} (hl : i < l.length) : goO e (l.take (i + 1)) = (goO e (l.take i)).bind fun p => (e l[i]).map (p ++ ·) := by
  rw [List.take_succ_eq_append_getElem hl, goO_append]
  congr 1
  funext p
  rw [goO, goO]
  cases e l[i] <;> simp
theorem bar_step (x : Crt) {i : Nat} (hi : i < 4) : goO (listO numO) ([x.b0, x.b1, x.b2, x.b3].take (i + 1)) = (goO (listO numO) ([x.b0, x.b1, x.b2, x.b3].take i)).bind fun p => (listO numO (barOf x i)).map (p ++ ·) := by
  have hl : i < [x.b0, x.b1, x.b2, x.b3].length := by simpa using hi
  have e : [x.b0, x.b1, x.b2, x.b3][i] = barOf x i := by
    have e : i = 0 ∨ i = 1 ∨ i = 2 ∨ i = 3 := by omega
    rcases e with rfl | rfl | rfl | rfl <;> rfl
  rw [List.take_succ_eq_append_getElem hl, goO_append, e]
  congr 1
  funext p
  rw [goO, goO]
  cases listO numO (barOf x i) <;> simp
theorem numsO2_len (l : List (List Int)) (a : List Int) (h : listO (listO numO) l = some a) : a.length ≤ 65665 := listO_len numsO_len l a h
theorem ptsO_len (l : List (Int × Int)) (a : List Int) (h : listO ptO l = some a) : a.length ≤ 1025 := listO_len ptO_len l a h

/-- the rest behind n statements -/
def restC : Nat → Code → Code
  | 0, c => c
  | n + 1, .seq _ b => restC n b
  | _ + 1, c => c
def fstC : Code → Code
  | .seq a _ => a
  | c => c
def sndC : Code → Code
  | .seq _ b => b
  | c => c
theorem then_k {K K' : Act → World → Prop} {Q : Exit → Act → World → Prop} (h : ∀ a w, K a w → K' a w) : ∀ e a w, Exit.then K Q e a w → Exit.then K' Q e a w := by
  intro e a w hq
  cases e with
  | normal => exact h _ _ hq
  | exit id => exact hq
  | goto l => exact hq
  | ret => exact hq
  | panic ch => exact hq
  | outgrown => exact hq
theorem then_open {P : Program} {s : Code} {R : Act → World → Prop} {Q : Exit → Act → World → Prop} {a : Act} {w : World} (h : ∀ K : Act → World → Prop, (∀ a w, R a w → K a w) → s.wp P (Exit.then K Q) a w) : s.wp P (Exit.then R Q) a w := h R fun _ _ h => h
theorem ok_step_true {a b : Bool} (h : true = (a && b)) (c : Bool) : c = (a && (b && c)) := by cases a <;> cases b <;> simp_all
theorem ok_step_false {a b : Bool} (h : false = (a && b)) (c : Bool) : false = (a && (b && c)) := by cases a <;> cases b <;> simp_all
theorem bad_ret {x : Crt} {w w1 : World} (hb : Below w.heap.size w w1) (h : refBad x = true) (A : Option Addr) (m c : Nat) : RefEncPost x w (.returned (.tuple #[.slice A m c, .bool false])) w1 :=
  ⟨hb, fun _ => ⟨A, m, c, rfl⟩, fun bs h2 => by unfold refE at h2; rw [if_pos h] at h2; cases h2⟩

end Go.Proofs.Ytmlbjcngboegfaa
