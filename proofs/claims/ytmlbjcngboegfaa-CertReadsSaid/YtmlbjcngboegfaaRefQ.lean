/-
  The reference's Encode and the program's tell the same bytes (plain law). Written by an AI agent.
-/
import Derived.Test.YtmlbjcngboegfaaRefE
namespace Go.Proofs.Ytmlbjcngboegfaa

section
variable {α : Type} {w : α → CS → CS} {e : α → Option (List Int)}
/-- the coder writes what the reference tells, or is bad where it tells none -/
def WO {α : Type} (w : α → CS → CS) (e : α → Option (List Int)) : Prop :=
  (∀ x s, s.bad = true → (w x s).bad = true) ∧ ∀ x s, s.bad = false → (e x = none → (w x s).bad = true) ∧ ∀ bs, e x = some bs → w x s = ⟨s.inn, s.out ++ bs, false⟩
theorem wLoop_bad (h : WO w e) : ∀ (l : List α) (s : CS), s.bad = true → (wLoop w l s).bad = true
  | [], s, hs => hs
  | x :: r, s, hs => by rw [wLoop, if_pos hs]; exact hs
theorem wLoop_wo (h : WO w e) : ∀ (l : List α) (s : CS), s.bad = false → (goO e l = none → (wLoop w l s).bad = true) ∧ ∀ bs, goO e l = some bs → wLoop w l s = ⟨s.inn, s.out ++ bs, false⟩
  | [], s, hs => ⟨fun h => by simp [goO] at h, fun bs hb => by
      simp [goO] at hb
      subst hb
      rw [wLoop, List.append_nil]
      exact CS.ok hs⟩
  | x :: r, s, hs => by
    rw [wLoop, if_neg (by simp [hs]), goO]
    obtain ⟨h1, h2⟩ := h.2 x s hs
    cases hx : e x with
    | none => exact ⟨fun _ => wLoop_bad h r _ (h1 hx), fun bs hb => by cases hb⟩
    | some a =>
      rw [h2 a hx]
      obtain ⟨i1, i2⟩ := wLoop_wo h r ⟨s.inn, s.out ++ a, false⟩ rfl
      cases hr : goO e r with
      | none => exact ⟨fun _ => i1 hr, fun bs hb => by cases hb⟩
      | some b =>
        refine ⟨fun hn => (by cases hn), fun bs hb => ?_⟩
        have hb : a ++ b = bs := Option.some.inj hb
        rw [i2 b hr, ← hb, List.append_assoc]
theorem wList_wo (h : WO w e) : WO (wList w) (listO e) := by
  refine ⟨fun l s hs => ?_, fun l s hs => ?_⟩
  · unfold wList
    split
    · rfl
    · exact wLoop_bad h _ _ hs
  · unfold wList listO
    by_cases hl : 128 < l.length
    · rw [if_pos hl, if_pos hl]
      exact ⟨fun _ => rfl, fun bs hb => by cases hb⟩
    · rw [if_neg hl, if_neg hl]
      obtain ⟨i1, i2⟩ := wLoop_wo h l ⟨s.inn, s.out ++ [(l.length : Int)], s.bad⟩ hs
      cases hr : goO e l with
      | none => exact ⟨fun _ => i1 hr, fun bs hb => by cases hb⟩
      | some b =>
        refine ⟨fun hn => (by cases hn), fun bs hb => ?_⟩
        have hb : (l.length : Int) :: b = bs := Option.some.inj hb
        rw [i2 b hr, ← hb]
        simp
/-- two, one behind the other -/
theorem WO.two {β : Type} {v : β → CS → CS} {f : β → Option (List Int)} (h : WO w e) (g : WO v f) (x : α) (y : β) (s : CS) (hs : s.bad = false) :
    (((e x).bind fun a => (f y).map (a ++ ·)) = none → (v y (w x s)).bad = true) ∧ ∀ bs, ((e x).bind fun a => (f y).map (a ++ ·)) = some bs → v y (w x s) = ⟨s.inn, s.out ++ bs, false⟩ := by
  obtain ⟨h1, h2⟩ := h.2 x s hs
  cases hx : e x with
  | none => exact ⟨fun _ => g.1 _ _ (h1 hx), fun bs hb => by cases hb⟩
  | some a =>
    rw [h2 a hx]
    obtain ⟨i1, i2⟩ := g.2 y ⟨s.inn, s.out ++ a, false⟩ rfl
    cases hr : f y with
    | none => exact ⟨fun _ => i1 hr, fun bs hb => by cases hb⟩
    | some b =>
      refine ⟨fun hn => (by cases hn), fun bs hb => ?_⟩
      have hb : a ++ b = bs := Option.some.inj hb
      rw [i2 b hr, ← hb, List.append_assoc]
end
theorem wPut_wo : WO wPut numO := by
  refine ⟨fun n s hs => ?_, fun n s hs => ?_⟩
  · unfold wPut
    split
    · rfl
    · exact hs
  · unfold wPut numO
    by_cases hn : n < -134217728 ∨ 134217728 ≤ n
    · rw [if_pos hn, if_pos hn]
      exact ⟨fun _ => rfl, fun bs hb => by cases hb⟩
    · rw [if_neg hn, if_neg hn]
      refine ⟨fun hn => (by cases hn), fun bs hb => ?_⟩
      have hb : vb (zz n) = bs := Option.some.inj hb
      rw [hb, hs]
theorem wPt_wo : WO wPt ptO := ⟨fun p s hs => wPut_wo.1 _ _ (wPut_wo.1 _ _ hs), fun p s hs => wPut_wo.two wPut_wo p.1 p.2 s hs⟩
theorem wInts_wo : WO wInts (listO numO) := wList_wo wPut_wo
theorem wRows_wo : WO wRows (listO (listO numO)) := wList_wo wInts_wo
theorem wPts_wo : WO wPts (listO ptO) := wList_wo wPt_wo
theorem wLines_wo : WO wLines (listO (listO ptO)) := wList_wo wPts_wo

theorem owns_bad (x : Crt) : refBad x = false ↔ Owns x ∧ 1 ≤ x.k ∧ x.k ≤ 6 := by
  unfold refBad badB Owns
  simp only [Bool.or_eq_false_iff, Bool.and_eq_false_iff, decide_eq_false_iff_not, bne_eq_false_iff_eq]
  omega
theorem walk_ref (x : Crt) (s : CS) (hs : s.bad = false) (hk : 1 ≤ x.k ∧ x.k ≤ 6) : (wWalk x s).1 = true ∧ (refI x = none → (wWalk x s).2.bad = true) ∧ ∀ bs, refI x = some bs → (wWalk x s).2 = ⟨s.inn, s.out ++ bs, false⟩ := by
  unfold wWalk refI
  by_cases k1 : x.k = 1
  · simp only [if_pos k1]
    exact ⟨trivial, wInts_wo.two wRows_wo x.ord x.outs s hs⟩
  simp only [if_neg k1]
  by_cases k2 : x.k = 2
  · simp only [if_pos k2]
    exact ⟨trivial, wRows_wo.two wPut_wo x.turn x.outer s hs⟩
  simp only [if_neg k2]
  by_cases k3 : x.k = 3
  · simp only [if_pos k3]
    exact ⟨trivial, wPts_wo.two wLines_wo x.pts x.lines s hs⟩
  simp only [if_neg k3]
  by_cases k4 : x.k = 4
  · simp only [if_pos k4]
    have key := wLoop_wo wInts_wo [x.b0, x.b1, x.b2, x.b3] s hs
    refine ⟨trivial, ?_⟩
    have e : ∀ (l : List (List Int)) (s : CS), (wLoop wInts l s).bad = false → wLoop wInts l s = l.foldl (fun s x => wInts x s) s := by
      intro l
      induction l with
      | nil => intro s _; rfl
      | cons a r ih =>
        intro s h
        rw [wLoop] at h ⊢
        cases hb : s.bad with
        | true => rw [if_pos hb] at h; rw [hb] at h; cases h
        | false =>
          rw [if_neg (by simp [hb])] at h ⊢
          exact ih _ h
    have e2 : ∀ (l : List (List Int)) (s : CS), (wLoop wInts l s).bad = true → (l.foldl (fun s x => wInts x s) s).bad = true := by
      intro l
      induction l with
      | nil => intro s h; exact h
      | cons a r ih =>
        intro s h
        rw [wLoop] at h
        cases hb : s.bad with
        | true =>
          have : ∀ (l : List (List Int)) (s : CS), s.bad = true → (l.foldl (fun s x => wInts x s) s).bad = true := by
            intro l
            induction l with
            | nil => intro s h; exact h
            | cons a r ih => intro s h; exact ih _ (wInts_wo.1 _ _ h)
          exact this (a :: r) s hb
        | false =>
          rw [if_neg (by simp [hb])] at h
          exact ih _ h
    refine ⟨fun h => e2 _ _ (key.1 h), fun bs h => ?_⟩
    have k := key.2 bs h
    rw [← k]
    exact (e _ _ (by rw [k])).symm
  simp only [if_neg k4]
  rw [if_pos (by omega)]
  exact ⟨rfl, wInts_wo.2 x.edges s hs⟩
theorem refE_encF (x : Crt) : refE x = encF x := by
  unfold refE encF
  cases hb : refBad x with
  | true =>
    rw [if_pos rfl, if_neg]
    intro h
    have hk : 1 ≤ x.k ∧ x.k ≤ 6 := by
      have h2 := h.2.1
      unfold wAll wWalk at h2
      split at h2
      · omega
      split at h2
      · omega
      split at h2
      · omega
      split at h2
      · omega
      split at h2
      · omega
      cases h2
    have := (owns_bad x).2 ⟨h.1, hk⟩
    rw [hb] at this
    cases this
  | false =>
    obtain ⟨ho, hk⟩ := (owns_bad x).1 hb
    rw [if_neg (by simp)]
    have ek : x.k % 256 = x.k := by omega
    obtain ⟨h1, h2, h3⟩ := walk_ref x ⟨[], [x.k % 256], false⟩ rfl hk
    cases hr : refI x with
    | none => rw [if_neg (fun h => by have := h.2.2; unfold wAll at this; rw [h2 hr] at this; cases this)]; rfl
    | some bs =>
      have h3 := h3 bs hr
      have e : wAll x = (true, ⟨[], x.k :: bs, false⟩) := by
        unfold wAll
        rw [Prod.ext_iff]
        refine ⟨h1, h3.trans ?_⟩
        rw [ek]
        rfl
      rw [if_pos (by rw [e]; exact ⟨ho, rfl, rfl⟩), e]
      rfl
end Go.Proofs.Ytmlbjcngboegfaa
