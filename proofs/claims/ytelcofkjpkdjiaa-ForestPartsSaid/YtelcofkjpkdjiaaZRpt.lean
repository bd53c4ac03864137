import Derived.Test.YtelcofkjpkdjiaaZWeb
import Derived.Test.YtelcofkjpkdjiaaZPts1
import Derived.Test.YtelcofkjpkdjiaaZPtM
import Derived.Test.YtelcofkjpkdjiaaZPts2
/-
  Marks made lesser again and again come to the leaders (plain law). Written by an AI agent.
-/
namespace Go.Proofs.Ytelcofkjpkdjiaa
open Go.RowKit

def mk1 (q p : Quad) (M : List Nat) : List Nat := if q.2.2.2 = 2 ∧ p.2.2.2 = 2 ∧ q.2.1 = p.2.1 ∧ M.getD p.2.2.1 0 < M.getD q.2.2.1 0 then M.set q.2.2.1 (M.getD p.2.2.1 0) else M
def mkRow (L : List Quad) (q : Quad) (M : List Nat) : List Nat := L.foldl (fun M p => mk1 q p M) M
def mkRound (L : List Quad) (M : List Nat) : List Nat := L.foldl (fun M q => mkRow L q M) M
def mkRounds (L : List Quad) : Nat → List Nat → List Nat
  | 0, M => M
  | t + 1, M => mkRound L (mkRounds L t M)
theorem foldl_take_succ {α β : Type} (f : β → α → β) (b : β) (l : List α) {i : Nat} (hi : i < l.length) : (l.take (i + 1)).foldl f b = f ((l.take i).foldl f b) l[i] := by
  rw [List.take_succ_eq_append_getElem hi, List.foldl_append]
  rfl
theorem mk1_length (q p : Quad) (M : List Nat) : (mk1 q p M).length = M.length := by
  unfold mk1
  split
  · exact List.length_set
  · rfl
theorem countP_lt {α : Type} {p q : α → Bool} : ∀ {l : List α}, (∀ x ∈ l, p x = true → q x = true) → (∃ x ∈ l, q x = true ∧ p x = false) → l.countP p < l.countP q
  | [], _, ⟨_, h, _⟩ => by cases h
  | a :: l, h, ⟨x, hx, h1, h2⟩ => by
    have hle : l.countP p ≤ l.countP q := List.countP_mono_left fun y hy => h y (by simp [hy])
    rcases List.mem_cons.1 hx with e | e
    · subst e
      rw [List.countP_cons_of_pos h1, List.countP_cons_of_neg (by rw [h2]; simp)]
      omega
    · have ih := countP_lt (l := l) (fun y hy => h y (by simp [hy])) ⟨x, e, h1, h2⟩
      rw [List.countP_cons, List.countP_cons]
      by_cases ha : p a = true
      · rw [if_pos ha, if_pos (h a (by simp) ha)]; omega
      · rw [if_neg ha]; omega
section
variable {F N : Nat} {L : List Quad} {ro : Nat → Nat}
/-- each face's mark is of its own part, and no greater than it -/
structure MarkI (F : Nat) (ro : Nat → Nat) (M : List Nat) : Prop where
  len : M.length = F
  le : ∀ f, f < F → M.getD f 0 ≤ f
  same : ∀ f, f < F → ro (M.getD f 0) = ro f
theorem MarkI.lead {M : List Nat} (h : MarkI F ro M) (hL : LeadP (F + N) ro) {f : Nat} (hf : f < F) : ro f ≤ M.getD f 0 := by
  have h1 := hL.le (M.getD f 0) (by have := h.le f hf; omega)
  rw [h.same f hf] at h1
  exact h1
theorem getD_setN {M : List Nat} {i j v : Nat} (hi : i < M.length) : (M.set i v).getD j 0 = if j = i then v else M.getD j 0 := by
  rw [List.getD_eq_getElem?_getD, List.getElem?_set, List.getD_eq_getElem?_getD]
  by_cases h : i = j
  · subst h; rw [if_pos rfl, if_pos hi, if_pos rfl]; rfl
  · rw [if_neg h, if_neg (fun e => h e.symm)]
/-- what is right: whose mark is the leader -/
abbrev okM (ro : Nat → Nat) (M : List Nat) (f : Nat) : Prop := M.getD f 0 = ro f
def WebQ (F N : Nat) (ro : Nat → Nat) (L : List Quad) : Prop := (∀ q ∈ L, q.2.2.1 < F ∧ q.2.1 < N) ∧ ∀ q ∈ L, q.2.2.2 = 2 → ro q.2.2.1 = ro (F + q.2.1)
theorem mk1_step (hL : LeadP (F + N) ro) (hW : WebQ F N ro L) {M : List Nat} (h : MarkI F ro M) {q p : Quad} (hq : q ∈ L) (hp : p ∈ L) :
    MarkI F ro (mk1 q p M) ∧ (∀ f, f < F → okM ro M f → okM ro (mk1 q p M) f) ∧ (q.2.2.2 = 2 → p.2.2.2 = 2 → q.2.1 = p.2.1 → okM ro M p.2.2.1 → okM ro (mk1 q p M) q.2.2.1) := by
  have fq := (hW.1 q hq).1
  have fp := (hW.1 p hp).1
  unfold mk1
  by_cases hc : q.2.2.2 = 2 ∧ p.2.2.2 = 2 ∧ q.2.1 = p.2.1 ∧ M.getD p.2.2.1 0 < M.getD q.2.2.1 0
  · rw [if_pos hc]
    obtain ⟨k1, k2, k3, k4⟩ := hc
    have hr : ro p.2.2.1 = ro q.2.2.1 := by rw [hW.2 p hp k2, hW.2 q hq k1, k3]
    have hM := fun j => getD_setN (M := M) (i := q.2.2.1) (j := j) (v := M.getD p.2.2.1 0) (by rw [h.len]; exact fq)
    refine ⟨⟨by rw [List.length_set]; exact h.len, fun f hf => ?_, fun f hf => ?_⟩, fun f hf ho => ?_, fun _ _ _ ho => ?_⟩
    · rw [hM]
      have := h.le f hf
      split
      · rename_i e; subst e; omega
      · exact this
    · rw [hM]
      split
      · rename_i e; subst e; rw [h.same _ fp, hr]
      · exact h.same f hf
    · unfold okM at ho ⊢
      rw [hM]
      split
      · rename_i e
        subst e
        have := h.lead hL fp
        rw [hr] at this
        omega
      · exact ho
    · unfold okM at ho ⊢
      rw [hM, if_pos rfl, ho, hr]
  · rw [if_neg hc]
    refine ⟨h, fun _ _ ho => ho, fun k1 k2 k3 ho => ?_⟩
    have hr : ro p.2.2.1 = ro q.2.2.1 := by rw [hW.2 p hp k2, hW.2 q hq k1, k3]
    have h1 := h.lead hL fq
    unfold okM at ho ⊢
    have h2 : ¬ M.getD p.2.2.1 0 < M.getD q.2.2.1 0 := fun h4 => hc ⟨k1, k2, k3, h4⟩
    omega
theorem mkRow_step (hL : LeadP (F + N) ro) (hW : WebQ F N ro L) {q : Quad} (hq : q ∈ L) : ∀ (K : List Quad) {M : List Nat}, (∀ p ∈ K, p ∈ L) → MarkI F ro M →
    MarkI F ro (mkRow K q M) ∧ (∀ f, f < F → okM ro M f → okM ro (mkRow K q M) f) ∧ ∀ p ∈ K, q.2.2.2 = 2 → p.2.2.2 = 2 → q.2.1 = p.2.1 → okM ro M p.2.2.1 → okM ro (mkRow K q M) q.2.2.1
  | [], M, _, h => ⟨h, fun _ _ ho => ho, fun p hp => by cases hp⟩
  | a :: K, M, hK, h => by
    obtain ⟨a1, a2, a3⟩ := mk1_step hL hW h hq (hK a (by simp))
    obtain ⟨b1, b2, b3⟩ := mkRow_step hL hW hq K (M := mk1 q a M) (fun p hp => hK p (by simp [hp])) a1
    refine ⟨b1, fun f hf ho => b2 f hf (a2 f hf ho), fun p hp k1 k2 k3 ho => ?_⟩
    rcases List.mem_cons.1 hp with e | e
    · subst e
      exact b2 _ (hW.1 q hq).1 (a3 k1 k2 k3 ho)
    · exact b3 p e k1 k2 k3 (a2 _ (hW.1 p (hK p hp)).1 ho)
theorem mkRound_step (hL : LeadP (F + N) ro) (hW : WebQ F N ro L) : ∀ (K : List Quad) {M : List Nat}, (∀ p ∈ K, p ∈ L) → MarkI F ro M →
    MarkI F ro (K.foldl (fun M q => mkRow L q M) M) ∧ (∀ f, f < F → okM ro M f → okM ro (K.foldl (fun M q => mkRow L q M) M) f) ∧ ∀ q ∈ K, ∀ p ∈ L, q.2.2.2 = 2 → p.2.2.2 = 2 → q.2.1 = p.2.1 → okM ro M p.2.2.1 → okM ro (K.foldl (fun M q => mkRow L q M) M) q.2.2.1
  | [], M, _, h => ⟨h, fun _ _ ho => ho, fun q hq => by cases hq⟩
  | a :: K, M, hK, h => by
    have ha := hK a (by simp)
    obtain ⟨a1, a2, a3⟩ := mkRow_step hL hW ha L (fun p hp => hp) h
    obtain ⟨b1, b2, b3⟩ := mkRound_step hL hW K (M := mkRow L a M) (fun p hp => hK p (by simp [hp])) a1
    refine ⟨b1, fun f hf ho => b2 f hf (a2 f hf ho), fun q hq p hp k1 k2 k3 ho => ?_⟩
    rcases List.mem_cons.1 hq with e | e
    · subst e
      exact b2 _ (hW.1 q ha).1 (a3 p hp k1 k2 k3 ho)
    · exact b3 q e p hp k1 k2 k3 (a2 _ (hW.1 p hp).1 ho)
end
/-- behind as many rounds as there are faces, all marks are the leaders -/
theorem marks_done {F N : Nat} {L : List Quad} (hIn : ∀ q ∈ L, q.2.2.1 < F ∧ q.2.1 < N) : MarkI F (roH F (L.filter hiQ)) (mkRounds L F (List.range F)) ∧ ∀ f, f < F → (mkRounds L F (List.range F)).getD f 0 = roH F (L.filter hiQ) f := by
  have hInH : InH F N (L.filter hiQ) := fun q hq => hIn q (List.mem_filter.1 hq).1
  have hL := roH_ok hInH
  have hW : WebQ F N (roH F (L.filter hiQ)) L := ⟨hIn, fun q hq h2 => roH_has (List.mem_filter.2 ⟨hq, by unfold hiQ; rw [h2]; rfl⟩)⟩
  have hmem : ∀ q ∈ L.filter hiQ, q ∈ L ∧ q.2.2.2 = 2 := fun q hq => by
    obtain ⟨h1, h2⟩ := List.mem_filter.1 hq
    unfold hiQ at h2
    simp at h2
    exact ⟨h1, h2⟩
  have hfaces := fun f (hf : f < F) => roH_face_lt hInH hf
  have hleast := fun (R : Nat → Nat → Prop) h1 h2 h3 h4 x y h5 => roH_least (F := F) (H := L.filter hiQ) (R := R) h1 h2 h3 h4 (x := x) (y := y) h5
  obtain ⟨ro, hro⟩ : ∃ ro, ro = roH F (L.filter hiQ) := ⟨_, rfl⟩
  rw [← hro] at hL hW hfaces hleast ⊢
  have key : ∀ t, MarkI F ro (mkRounds L t (List.range F)) ∧ ((∀ f, f < F → okM ro (mkRounds L t (List.range F)) f) ∨ t ≤ (List.range F).countP fun f => decide (okM ro (mkRounds L t (List.range F)) f)) := by
    intro t
    induction t with
    | zero =>
      refine ⟨⟨by simp [mkRounds], fun f hf => ?_, fun f hf => ?_⟩, .inr (Nat.zero_le _)⟩ <;> (unfold mkRounds; rw [List.getD_eq_getElem?_getD, List.getElem?_range hf]; simp)
    | succ t ih =>
      obtain ⟨h1, h2⟩ := ih
      show MarkI F ro (mkRound L (mkRounds L t (List.range F))) ∧ ((∀ f, f < F → okM ro (mkRound L (mkRounds L t (List.range F))) f) ∨ t + 1 ≤ (List.range F).countP fun f => decide (okM ro (mkRound L (mkRounds L t (List.range F))) f))
      generalize mkRounds L t (List.range F) = M at h1 h2
      obtain ⟨a1, a2, a3⟩ := mkRound_step hL hW L (fun p hp => hp) h1
      refine ⟨a1, ?_⟩
      change ∀ f, f < F → okM ro M f → okM ro (mkRound L M) f at a2
      change ∀ q ∈ L, ∀ p ∈ L, q.2.2.2 = 2 → p.2.2.2 = 2 → q.2.1 = p.2.1 → okM ro M p.2.2.1 → okM ro (mkRound L M) q.2.2.1 at a3
      by_cases hnew : ∀ f, f < F → okM ro (mkRound L M) f → okM ro M f
      · refine .inl fun f hf => a2 f hf ?_
        let P : Nat → Prop := fun z => if z < F then okM ro M z else ∃ q ∈ L.filter hiQ, q.2.1 = z - F ∧ okM ro M q.2.2.1
        have hP := hleast (fun x y => P x ↔ P y) (fun _ => Iff.rfl) (fun _ _ h => h.symm) (fun _ _ _ h k => h.trans k) (fun q hq => by
          have hqL := hmem q hq
          have fq := (hIn q hqL.1).1
          show P q.2.2.1 ↔ P (F + q.2.1)
          simp only [P]
          rw [if_pos fq, if_neg (by omega)]
          constructor
          · intro ho
            exact ⟨q, hq, by omega, ho⟩
          · rintro ⟨p, hp, hv, ho⟩
            have hpL := hmem p hp
            exact hnew _ fq (a3 q hqL.1 p hpL.1 hqL.2 hpL.2 (by omega) ho)) f (ro f) (hL.fix f (by omega)).symm
        simp only [P] at hP
        rw [if_pos hf, if_pos (hfaces f hf)] at hP
        refine hP.2 ?_
        have hlt := hfaces f hf
        have l1 := h1.le (ro f) hlt
        have l2 := h1.lead hL hlt
        have l3 := hL.fix f (by omega)
        unfold okM
        omega
      · obtain ⟨f, hf⟩ := Classical.not_forall.1 hnew
        obtain ⟨hf1, hf2⟩ := Classical.not_imp.1 hf
        obtain ⟨hf2, hf3⟩ := Classical.not_imp.1 hf2
        rcases h2 with h2 | h2
        · exact absurd (h2 f hf1) hf3
        · right
          have := countP_lt (p := fun f => decide (okM ro M f)) (q := fun f => decide (okM ro (mkRound L M) f)) (l := List.range F) (fun x hx hx2 => by
            simp only [decide_eq_true_eq] at hx2 ⊢
            exact a2 x (List.mem_range.1 hx) hx2) ⟨f, List.mem_range.2 hf1, by simpa using hf2, by simpa using hf3⟩
          omega
  obtain ⟨h1, h2⟩ := key F
  refine ⟨h1, ?_⟩
  rcases h2 with h2 | h2
  · exact h2
  · intro f hf
    have h3 : (List.range F).countP (fun f => decide (okM ro (mkRounds L F (List.range F)) f)) = (List.range F).length := by
      have := List.countP_le_length (p := fun f => decide (okM ro (mkRounds L F (List.range F)) f)) (l := List.range F)
      simp only [List.length_range] at this ⊢
      omega
    have := List.countP_eq_length.1 h3 f (List.mem_range.2 hf)
    exact of_decide_eq_true this
end Go.Proofs.Ytelcofkjpkdjiaa
/-
  The reference's parts, counted by its loops (plain law). Written by an AI agent.
-/
namespace Go.Proofs.Ytelcofkjpkdjiaa
open Go.RowKit

theorem pos_inj {ro : Nat → Nat} {F c f : Nat} (hc : ro c = c) (hf : ro f = f) (h1 : c < F) (h2 : f < F) : pos ro c = pos ro f ↔ c = f := by
  constructor
  · intro e
    have a := pos_get hc h1
    have b := pos_get hf h2
    rw [e, b] at a
    injection a with a
    exact a.symm
  · intro e; rw [e]
def hitQ (ro : Nat → Nat) (f x : Nat) (q : Quad) : Bool := decide (q.2.2.2 = 2 ∧ q.2.1 = x ∧ ro q.2.2.1 = f)
def cV (ro : Nat → Nat) (Q : List Quad) (f x : Nat) : Nat := Q.countP fun q => decide (q.2.2.2 = 2 ∧ q.2.1 < x ∧ ro q.2.2.1 = f)
def cI (ro : Nat → Nat) (Q : List Quad) (f x i : Nat) : Nat := (Q.take i).countP (hitQ ro f x)
theorem cI_succ {ro : Nat → Nat} {Q : List Quad} {f x i : Nat} (hi : i < Q.length) : cI ro Q f x (i + 1) = cI ro Q f x i + if hitQ ro f x Q[i] = true then 1 else 0 := by
  unfold cI
  rw [List.take_succ_eq_append_getElem hi, List.countP_append]
  by_cases h : hitQ ro f x Q[i] = true <;> simp [h]
theorem cI_le (ro : Nat → Nat) (Q : List Quad) (f x i : Nat) : cI ro Q f x i ≤ Q.length := Nat.le_trans List.countP_le_length (by simp; omega)
theorem cV_le (ro : Nat → Nat) (Q : List Quad) (f x : Nat) : cV ro Q f x ≤ Q.length := List.countP_le_length
theorem cV_zero (ro : Nat → Nat) (Q : List Quad) (f : Nat) : cV ro Q f 0 = 0 := by
  unfold cV
  rw [List.countP_eq_zero]
  intro q _
  simp
theorem cV_succ (ro : Nat → Nat) (f x : Nat) : ∀ (Q : List Quad), cV ro Q f (x + 1) = cV ro Q f x + cI ro Q f x Q.length
  | [] => rfl
  | q :: Q => by
    have ih := cV_succ ro f x Q
    unfold cI cV at ih ⊢
    rw [List.take_length] at ih ⊢
    rw [List.countP_cons, List.countP_cons, List.countP_cons, ih]
    unfold hitQ
    by_cases h1 : q.2.2.2 = 2
    · by_cases h3 : ro q.2.2.1 = f
      · rcases Nat.lt_trichotomy q.2.1 x with h | h | h
        · rw [if_pos (by simp [h1, h3]; omega), if_pos (by simp [h1, h3, h]), if_neg (by simp [h1, h3]; omega)]
          omega
        · rw [if_pos (by simp [h1, h3]; omega), if_neg (by simp [h1, h3]; omega), if_pos (by simp [h1, h3, h])]
          omega
        · rw [if_neg (by simp [h1, h3]; omega), if_neg (by simp [h1, h3]; omega), if_neg (by simp [h1, h3]; omega)]
          omega
      · rw [if_neg (by simp [h3]), if_neg (by simp [h3]), if_neg (by simp [h3])]
        omega
    · rw [if_neg (by simp [h1]), if_neg (by simp [h1]), if_neg (by simp [h1])]
      omega
section
variable {F N : Nat} {Q : List Quad}
theorem cV_all (hIn : ∀ q ∈ Q, q.2.2.1 < F ∧ q.2.1 < N) {f : Nat} (hf : f < F) (hff : roH F (Q.filter hiQ) f = f) : cV (roH F (Q.filter hiQ)) Q f N = cA (roH F (Q.filter hiQ)) (Q.filter hiQ) (pos (roH F (Q.filter hiQ)) f) := by
  have hL := roH_ok (F := F) (N := N) (H := Q.filter hiQ) fun q hq => hIn q (List.mem_filter.1 hq).1
  have hfl := fun y (hy : y < F) => roH_face_lt (F := F) (N := N) (H := Q.filter hiQ) (fun q hq => hIn q (List.mem_filter.1 hq).1) hy
  generalize hr : roH F (Q.filter hiQ) = ro at *
  unfold cA cV
  rw [List.countP_filter]
  refine List.countP_congr fun q hq => ?_
  obtain ⟨h1, h2⟩ := hIn q hq
  have hp := pos_inj (hL.fix q.2.2.1 (by omega)) hff (hfl _ h1) hf
  unfold hiQ
  simp only [Bool.and_eq_true, decide_eq_true_eq]
  rw [hp]
  constructor
  · rintro ⟨a, _, b⟩; exact ⟨b, a⟩
  · rintro ⟨b, a⟩; exact ⟨a, h2, b⟩
theorem hit_iff (hIn : ∀ q ∈ Q, q.2.2.1 < F ∧ q.2.1 < N) {f x : Nat} (hx : x < N) (hf : f < F) (hff : roH F (Q.filter hiQ) f = f) :
    0 < cI (roH F (Q.filter hiQ)) Q f x Q.length ↔ roH F (Q.filter hiQ) (F + x) < F ∧ pos (roH F (Q.filter hiQ)) (roH F (Q.filter hiQ) (F + x)) = pos (roH F (Q.filter hiQ)) f := by
  have hInH : InH F N (Q.filter hiQ) := fun q hq => hIn q (List.mem_filter.1 hq).1
  have hL := roH_ok hInH
  have hp := fun (h : roH F (Q.filter hiQ) (F + x) < F) => pos_inj (hL.fix (F + x) (by omega)) hff h hf
  unfold cI
  rw [List.take_length, List.countP_pos_iff]
  unfold hitQ
  simp only [decide_eq_true_eq]
  constructor
  · rintro ⟨q, hq, h1, h2, h3⟩
    have hm : q ∈ Q.filter hiQ := List.mem_filter.2 ⟨hq, by unfold hiQ; rw [h1]; rfl⟩
    have e := roH_has (F := F) hm
    rw [h3, h2] at e
    have hlt : roH F (Q.filter hiQ) (F + x) < F := by omega
    exact ⟨hlt, (hp hlt).2 e.symm⟩
  · rintro ⟨hlt, hpos⟩
    have e := (hp hlt).1 hpos
    by_cases hn : ∀ q ∈ Q.filter hiQ, q.2.1 ≠ x
    · have := roH_bare hn hInH
      omega
    · obtain ⟨q, hq⟩ := Classical.not_forall.1 hn
      obtain ⟨hq1, hq2⟩ := Classical.not_imp.1 hq
      have hq2 : q.2.1 = x := Classical.not_not.1 hq2
      obtain ⟨m1, m2⟩ := List.mem_filter.1 hq1
      unfold hiQ at m2
      refine ⟨q, m1, by simpa using m2, hq2, ?_⟩
      rw [roH_has hq1, hq2, e]
end
/-- the rows while the part at place m is under way: its faces told up to k -/
def rl1 (ro : Nat → Nat) (F N m k : Nat) (i : Nat) : List Int := if i < 2 * m then rlB ro F N i else if i = 2 * m then rlF ro k m else []
/-- its vertices told up to x -/
def rl2 (ro : Nat → Nat) (F N m x : Nat) (i : Nat) : List Int := if i < 2 * m then rlB ro F N i else if i = 2 * m then rlF ro F m else rlV ro F x m
def an1 (ro : Nat → Nat) (H : List Quad) (m c : Nat) (k : Nat) : Nat := if k < m then cA ro H k else c
theorem rl1_at (ro : Nat → Nat) (F N m k : Nat) : rl1 ro F N m k (2 * m + 0) = rlF ro k m := by
  unfold rl1; rw [if_neg (by omega), if_pos (by omega)]
theorem rl2_at (ro : Nat → Nat) (F N m x : Nat) : rl2 ro F N m x (2 * m + 1) = rlV ro F x m := by
  unfold rl2; rw [if_neg (by omega), if_neg (by omega)]
theorem rl1_succ (ro : Nat → Nat) (F N m k : Nat) (h : pos ro (ro k) = m) (i : Nat) : rl1 ro F N m (k + 1) i = if i = 2 * m + 0 then rl1 ro F N m k (2 * m + 0) ++ [(k : Int)] else rl1 ro F N m k i := by
  by_cases h1 : i = 2 * m + 0
  · rw [if_pos h1, h1, rl1_at, rl1_at, rlF_succ, if_pos h]
  · rw [if_neg h1]
    unfold rl1
    rw [if_neg (show ¬ i = 2 * m by omega), if_neg (show ¬ i = 2 * m by omega)]
theorem rl1_same (ro : Nat → Nat) (F N m k : Nat) (h : pos ro (ro k) ≠ m) (i : Nat) : rl1 ro F N m (k + 1) i = rl1 ro F N m k i := by
  unfold rl1
  rw [rlF_succ, if_neg h, List.append_nil]
theorem rl2_succ (ro : Nat → Nat) (F N m x : Nat) (h : ro (F + x) < F ∧ pos ro (ro (F + x)) = m) {i : Nat} (hi : i < 2 * (m + 1)) : rl2 ro F N m (x + 1) i = if i = 2 * m + 1 then rl2 ro F N m x (2 * m + 1) ++ [(x : Int)] else rl2 ro F N m x i := by
  by_cases h1 : i = 2 * m + 1
  · rw [if_pos h1, h1, rl2_at, rl2_at, rlV_succ, if_pos h]
  · rw [if_neg h1]
    unfold rl2
    by_cases h2 : i < 2 * m
    · rw [if_pos h2, if_pos h2]
    · rw [if_neg h2, if_neg h2, if_pos (by omega), if_pos (by omega)]
theorem rl2_same (ro : Nat → Nat) (F N m x : Nat) (h : ¬ (ro (F + x) < F ∧ pos ro (ro (F + x)) = m)) (i : Nat) : rl2 ro F N m (x + 1) i = rl2 ro F N m x i := by
  unfold rl2
  rw [rlV_succ, if_neg h, List.append_nil]
theorem rl12 (ro : Nat → Nat) (F N m i : Nat) : rl2 ro F N m 0 i = rl1 ro F N m F i := by
  unfold rl2 rl1
  rfl
theorem rl2_end (ro : Nat → Nat) (F N m : Nat) {i : Nat} (hi : i < 2 * (m + 1)) : rl2 ro F N m N i = rlB ro F N i := by
  unfold rl2
  by_cases h : i < 2 * m
  · rw [if_pos h]
  · rw [if_neg h]
    unfold rlB
    by_cases h2 : i = 2 * m
    · rw [if_pos h2, if_pos (by omega), show i / 2 = m by omega]
    · rw [if_neg h2, if_neg (by omega), show i / 2 = m by omega]
end Go.Proofs.Ytelcofkjpkdjiaa
/-
  The reference's parts in memory: those that are done, and the one under way. Written by an AI agent.
-/
namespace Go.Proofs.Ytelcofkjpkdjiaa
open Go.RowKit

/-- v holds m parts (the reference's type); rows of M parts -/
structure PartR (w : World) (B : Nat) (v : Value) (m M : Nat) (rl : Nat → List Int) (an : Nat → Nat) (rv : Nat → Value) : Prop where
  own : w.ownsRow B 57 3 v m (tri m rv an)
  rows : RowsW w B ((List.range (2 * M)).map rv) ((List.range (2 * M)).map rl)
/-- m parts are done, and one more is under way, boxed at gp -/
structure PartB (w : World) (B gp : Nat) (v : Value) (m : Nat) (rl : Nat → List Int) (an : Nat → Nat) (rv : Nat → Value) : Prop where
  p : PartR w B v m (m + 1) rl an rv
  box : Blk w gp 57 #[rv (2 * m), rv (2 * m + 1), .int .i64 (an m : Nat)]
  ne : v.ownBlock ≠ some gp
  le : B ≤ gp
theorem tri_congr {m : Nat} {rv rv' : Nat → Value} {an an' : Nat → Nat} (h1 : ∀ i, i < 2 * m → rv i = rv' i) (h2 : ∀ k, k < m → an k = an' k) : tri m rv an = tri m rv' an' := by
  unfold tri
  refine List.map_congr_left fun i hi => ?_
  have := List.mem_range.1 hi
  by_cases h3 : i % 3 = 2
  · rw [if_pos h3, if_pos h3, h2 _ (by omega)]
  · rw [if_neg h3, if_neg h3, h1 _ (by omega)]
section
variable {w w' : World} {B gp m M : Nat} {v v' : Value} {rl rl' : Nat → List Int} {an an' : Nat → Nat} {rv rv' : Nat → Value}
theorem PartR.congr (h : PartR w B v m M rl an rv) (hm : m ≤ M) (h0 : ∀ i, i < 2 * M → rv i = rv' i) (h1 : ∀ i, i < 2 * M → rl i = rl' i) (h2 : ∀ k, k < m → an k = an' k) : PartR w B v m M rl' an' rv' := by
  refine ⟨?_, ?_⟩
  · rw [← tri_congr (fun i hi => h0 i (by omega)) h2]
    exact h.own
  · have e1 : (List.range (2 * M)).map rl' = (List.range (2 * M)).map rl := List.map_congr_left fun i hi => (h1 i (List.mem_range.1 hi)).symm
    have e2 : (List.range (2 * M)).map rv' = (List.range (2 * M)).map rv := List.map_congr_left fun i hi => (h0 i (List.mem_range.1 hi)).symm
    rw [e1, e2]
    exact h.rows
theorem PartB.congr (h : PartB w B gp v m rl an rv) (h1 : ∀ i, i < 2 * (m + 1) → rl i = rl' i) (h2 : ∀ k, k < m + 1 → an k = an' k) : PartB w B gp v m rl' an' rv :=
  ⟨h.p.congr (by omega) (fun _ _ => rfl) h1 (fun k hk => h2 k (by omega)), by rw [← h2 m (by omega)]; exact h.box, h.ne, h.le⟩
theorem PartR.below {B' : Nat} (h : PartR w B v m M rl an rv) (hb : Below B' w w') (hB : w.heap.size ≤ B') : PartR w' B v m M rl an rv := ⟨own_below h.own hb hB, h.rows.below hb hB⟩
theorem PartR.drew (h : PartR w B v m M rl an rv) : PartR w.drew B v m M rl an rv := ⟨h.own, h.rows.drew⟩
theorem PartB.drew (h : PartB w B gp v m rl an rv) : PartB w.drew B gp v m rl an rv := ⟨h.p.drew, h.box.drew, h.ne, h.le⟩
/-- a part begun -/
theorem PartR.start (h : PartR w B v m m rl an rv) (hB : B ≤ w.heap.size) :
    PartB (w.alloc (.cells #[.slice none 0 0, .slice none 0 0, .int .i64 0] 57)) B w.heap.size v m (fun i => if i < 2 * m then rl i else []) (fun k => if k < m then an k else 0) (fun i => if i < 2 * m then rv i else .slice none 0 0) := by
  have hb := (Below.refl w.heap.size w).alloc (Nat.le_refl _) (.cells #[.slice none 0 0, .slice none 0 0, .int .i64 0] 57)
  have e1 : ∀ (α : Type) (f : Nat → α) (d : α), (List.range (2 * m)).map (fun i => if i < 2 * m then f i else d) = (List.range (2 * m)).map f := fun α f d => List.map_congr_left fun i hi => by rw [if_pos (List.mem_range.1 hi)]
  refine ⟨⟨?_, ?_⟩, ?_, ?_, hB⟩
  · rw [← tri_congr (rv := rv) (an := an) (fun i hi => (if_pos hi).symm) (fun k hk => (if_pos hk).symm)]
    exact own_below h.own hb (Nat.le_refl _)
  · have hr := (h.rows.below hb (Nat.le_refl _)).snoc_nil.snoc_nil
    rw [show 2 * (m + 1) = 2 * m + 1 + 1 by omega, List.range_succ, List.range_succ]
    simp only [List.map_append, List.map_cons, List.map_nil, Nat.lt_irrefl, if_false, show ¬ 2 * m + 1 < 2 * m by omega, e1]
    exact hr
  · simp only [Nat.lt_irrefl, if_false, show ¬ 2 * m + 1 < 2 * m by omega]
    exact Blk.new w _ _
  · intro e
    have := ownBlock_lt h.own e
    omega
/-- one thing more in its row j -/
theorem PartB.app (h : PartB w B gp v m rl an rv) {j k0 : Nat} {x : Int} (hj : j < 2)
    (ho : w'.ownsRow B 3 1 v' ((rl (2 * m + j)).length + 1) (intCells (rl (2 * m + j)) ++ [.int .i64 x])) (hg : w.grownBy w' (rv (2 * m + j)).ownBlock) (hb : v'.ownBlock = (rv (2 * m + j)).ownBlock ∨ v'.ownBlock = some k0) (hk0 : w.heap.size ≤ k0) :
    PartB (w'.setCell ⟨gp, j, none⟩ v') B gp v m (fun i => if i = 2 * m + j then rl (2 * m + j) ++ [x] else rl i) an (fun i => if i = 2 * m + j then v' else rv i) := by
  have hi : 2 * m + j < 2 * (m + 1) := by omega
  have ho' : w'.ownsRow B 3 1 v' (rl (2 * m + j) ++ [x]).length (intCells (rl (2 * m + j) ++ [x])) := by simpa [intCells] using ho
  have hrow : w.ownsRow B 3 1 (rv (2 * m + j)) (rl (2 * m + j)).length (intCells (rl (2 * m + j))) := by
    have := h.p.rows.own (2 * m + j) (by simpa using hi) (by simpa using hi)
    simpa using this
  have hev := Evo.of_grown (T := [3]) (B := B) hrow hg (by simp) (Nat.le_refl _)
  have own1 := own_evo h.p.own hev (by decide)
  have box1 := h.box.evo hev (.inr (by decide))
  have hbt := But.set_ w' (show gp ∈ [gp] by simp) j v'
  have hgr : w'.grownBy (w'.setCell ⟨gp, j, none⟩ v') (some gp) := ⟨hbt.os, hbt.tape, hbt.output, hbt.size, fun k hk hn => hbt.block k hk (by
    intro e
    have : k = gp := by simpa using e
    exact hn (by rw [this]))⟩
  have own2 := own1.kept hgr (.inr h.ne)
  have hev2 := Evo.set_ (T := [57]) (B := B) box1 (by simp) h.le j v'
  refine ⟨⟨?_, ?_⟩, ?_, h.ne, h.le⟩
  · rw [tri_congr (rv' := rv) (an' := an) (fun i hi2 => if_neg (by omega)) (fun _ _ => rfl)]
    exact own2
  · have r1 := h.p.rows.app2 (x := 2 * m + j) (by simpa using hi) (by simpa using hi) ho' (by simpa using hg) (by simpa using hb) hk0
    rw [map_range_set _ _ _ (fun i => if i = 2 * m + j then v' else rv i) _ (if_pos rfl) (fun x hx => if_neg hx), map_range_set _ _ _ (fun i => if i = 2 * m + j then rl (2 * m + j) ++ [x] else rl i) _ (if_pos rfl) (fun x hx => if_neg hx)] at r1
    exact r1.evo hev2 (by decide)
  · have hb2 := box1.set_ j v'
    match j, hj with
    | 0, _ =>
      simp only [Nat.add_zero, if_true, show ¬ 2 * m + 1 = 2 * m by omega, if_false]
      simpa using hb2
    | 1, _ =>
      simp only [if_true, show ¬ 2 * m = 2 * m + 1 by omega, if_false]
      simpa using hb2
/-- another number -/
theorem PartB.num (h : PartB w B gp v m rl an rv) {c : Nat} : PartB (w.setCell ⟨gp, 2, none⟩ (.int .i64 (c : Nat))) B gp v m rl (fun k => if k = m then c else an k) rv := by
  have hbt := But.set_ w (show gp ∈ [gp] by simp) 2 (.int .i64 (c : Nat))
  have hgr : w.grownBy (w.setCell ⟨gp, 2, none⟩ (.int .i64 (c : Nat))) (some gp) := ⟨hbt.os, hbt.tape, hbt.output, hbt.size, fun k hk hn => hbt.block k hk (by
    intro e
    have : k = gp := by simpa using e
    exact hn (by rw [this]))⟩
  have own2 := h.p.own.kept hgr (.inr h.ne)
  have hev2 := Evo.set_ (T := [57]) (B := B) h.box (by simp) h.le 2 (.int .i64 (c : Nat))
  refine ⟨⟨?_, h.p.rows.evo hev2 (by decide)⟩, ?_, h.ne, h.le⟩
  · rw [tri_congr (rv' := rv) (an' := an) (fun i _ => rfl) (fun k hk => if_neg (by omega))]
    exact own2
  · rw [if_pos rfl]
    simpa using h.box.set_ 2 (.int .i64 (c : Nat))
/-- the part is done -/
theorem PartB.done (h : PartB w B gp v m rl an rv) (ho : w'.ownsRow B 57 3 v' (m + 1) (tri m rv an ++ [rv (2 * m), rv (2 * m + 1), .int .i64 (an m : Nat)])) (hg : w.grownBy w' v.ownBlock) : PartR w' B v' (m + 1) (m + 1) rl an rv :=
  ⟨by rw [tri_snoc]; exact ho, h.p.rows.evo (Evo.of_grown (T := [57]) (B := B) h.p.own hg (by simp) (Nat.le_refl _)) (by decide)⟩
theorem PartB.row (h : PartB w B gp v m rl an rv) {i : Nat} (hi : i < 2 * (m + 1)) : w.ownsRow B 3 1 (rv i) (rl i).length (intCells (rl i)) := by
  have := h.p.rows.own i (by simpa using hi) (by simpa using hi)
  simpa using this
theorem PartB.low (h : PartB w B gp v m rl an rv) {j : Nat} (hj : j < 2) (hg : w.grownBy w' (rv (2 * m + j)).ownBlock) (hB : B ≤ w.heap.size) (u : Value) : Below B w (w'.setCell ⟨gp, j, none⟩ u) := by
  have h1 : Below B w w' := (Evo.of_grown (T := [3]) (B := B) (h.row (i := 2 * m + j) (by omega)) hg (by simp) (Nat.le_refl _)).below hB
  have h2 := But.set_ w' (show gp ∈ [gp] by simp) j u
  exact h1.trans (h2.below (Nat.le_trans hB hg.size) (fun k hk => by
    have : k = gp := by simpa using hk
    have := h.le
    omega))
theorem PartB.lowN (h : PartB w B gp v m rl an rv) (hB : B ≤ w.heap.size) (j : Nat) (u : Value) : Below B w (w.setCell ⟨gp, j, none⟩ u) := by
  have h2 := But.set_ w (show gp ∈ [gp] by simp) j u
  exact h2.below hB (fun k hk => by
    have : k = gp := by simpa using hk
    have := h.le
    omega)
theorem PartB.boxApp (h : PartB w B gp v m rl an rv) {j : Nat} (hj : j < 2) (hg : w.grownBy w' (rv (2 * m + j)).ownBlock) : Blk w' gp 57 #[rv (2 * m), rv (2 * m + 1), .int .i64 (an m : Nat)] :=
  h.box.evo (Evo.of_grown (T := [3]) (B := B) (h.row (i := 2 * m + j) (by omega)) hg (by simp) (Nat.le_refl _)) (.inr (by decide))
end
end Go.Proofs.Ytelcofkjpkdjiaa
/-
  The reference's Parts: its last loop: the parts told, one by one. (Printed by refpgen.py.) Written by an AI agent.
-/
namespace Go.Proofs.Ytelcofkjpkdjiaa
open Go.RowKit

def RPartsQ (Q : List Quad) (ro : Nat → Nat) (F N : Nat) (w : World) (e : Ending) (w' : World) : Prop := ∃ v, e = .returned v ∧ Below w.heap.size w w' ∧ ∃ rv, PartR w' w.heap.size v (pos ro F) (pos ro F) (rlB ro F N) (cA ro (Q.filter hiQ)) rv
theorem elemPartR : Elem Try.prog 52 57 (.agg #[.slice none 0 0, .slice none 0 0, .int .i64 0]) 3 56 := Elem.mk' Try.underlying52 (by kernel_rfl) rfl (by omega)
theorem own_of_blk3 {w : World} {base g : Nat} {t : TypeId} (h : Blk w g t #[]) (hb : base ≤ g) : w.ownsRow base t 3 (.slice (some ⟨g, 0, none⟩) 0 0) 0 [] :=
  ⟨rfl, .inr ⟨g, 0, _, rfl, hb, h, Nat.le_refl _, by unfold maxLen; omega, rfl, rfl⟩⟩
theorem cells_lowA {B : Nat} {w w' : World} {xs : List Value} {A : Option Addr} (hc : Cells w B A xs) (hb : Below B w w') : Cells w' B A xs := fun hn => by
  obtain ⟨b, off, e, hlt, hc⟩ := hc hn
  refine ⟨b, off, e, hlt, fun j u hj => ?_⟩
  rw [← hc j u hj]
  unfold World.cell?
  rw [hb.block b hlt]
set_option maxRecDepth 100000 in
set_option maxHeartbeats 4000000 in
theorem refOut (gb gm g0 F N c5 B : Nat) (A5 : Option Addr) (Q : List Quad) (M : List Int) (ro : Nat → Nat) (w wc : World) (hQ : Cells wc B A5 (qCells Q)) (hM : Blk wc gm 3 (intCells M).toArray) (hMl : M.length = F) (hMr : ∀ f, f < F → M.getD f 0 = (ro f : Nat)) (hG : wc.cell? ⟨gb, 0, none⟩ = some (.int .i64 N)) (hO : wc.ownsRow B 57 3 (.slice (some ⟨g0, 0, none⟩) 0 0) 0 []) (hlt : gm < B ∧ gb < B ∧ B ≤ wc.heap.size) (hIn : ∀ q ∈ Q, q.2.2.1 < F ∧ q.2.1 < N) (hro : ro = roH F (Q.filter hiQ)) (hlen : F + N ≤ 1000) (hQl : Q.length ≤ 1000) (hB : Below w.heap.size w wc) (hBw : w.heap.size ≤ B) (u0 u1 u3 u4 u8 u9 u10 u11 u13 u14 u15 u16 u17 u18 u19 u20 u21 u22 u23 u24 u25 u26 u27 u28 u29 u30 u31 u32 u33 u34 u35 u36 u37 u38 u39 u40 u41 u42 u43 u44 u45 u46 u47 u48 u49 u50 u51 u52 u53 u54 u55 u56 u57 u58 u59 u60 u61 u62 u63 u64 u65 u66 u67 u68 u69 u70 u71 u72 u73 u74 u75 u76 u77 u78 u79 u80 u81 u82 u83 u84 u85 u86 u87 u88 u89 u90 u91 u92 u93 u94 u95 u96 u97 u98 u99 u100 u101 u102 u103 u104 u105 u106 u107 u108 u109 u110 u111 u112 u113 u114 u115 u116 u117 u118 u119 u120 u121 u122 u123 u124 u125 u126 u127 u128 u129 u130 u131 u132 u133 u134 u135 u136 u137 u138 u139 u140 u141 u142 u143 u144 u145 u146 u147 u148 u149 u150 u151 u152 u153 u154 u155 u156 u157 u158 u159 u160 u161 u162 u163 u164 u165 u166 u167 u168 u169 u170 u171 u172 u173 u174 u175 u176 u177 u178 u179 u180 u181 u182 u183 u184 u185 u186 u187 u188 u189 u190 u191 u192 u193 u194 u195 u196 u197 u198 u199 : Value) (K : Act → World → Prop) (hK : ∀ a0 w0, Code.wp Try.prog (sndC (restC 7 ((Try.f26.body).getD .skip))) (bodyPost Try.prog Try.f26 (RPartsQ Q ro F N w)) a0 w0 → K a0 w0) (K4 : Act → World → Prop) (hK4 : ∀ a0 w0, Code.wp Try.prog (sndC (fstC (restC 7 ((Try.f26.body).getD .skip)))) (Exit.then K (bodyPost Try.prog Try.f26 (RPartsQ Q ro F N w))) a0 w0 → K4 a0 w0) : Code.wp Try.prog (fstC (fstC (restC 7 ((Try.f26.body).getD .skip)))) (Exit.then K4 (Exit.then K (bodyPost Try.prog Try.f26 (RPartsQ Q ro F N w)))) ⟨#[u0, u1, .pointer (some ⟨gb, 0, none⟩), u3, u4, .slice A5 Q.length c5, .int .i64 F, .slice (some ⟨gm, 0, none⟩) F F, u8, u9, u10, u11, .slice (some ⟨g0, 0, none⟩) 0 0, u13, u14, u15, u16, u17, u18, u19, u20, u21, u22, u23, u24, u25, u26, u27, u28, u29, u30, u31, u32, u33, u34, u35, u36, u37, u38, u39, u40, u41, u42, u43, u44, u45, u46, u47, u48, u49, u50, u51, u52, u53, u54, u55, u56, u57, u58, u59, u60, u61, u62, u63, u64, u65, u66, u67, u68, u69, u70, u71, u72, u73, u74, u75, u76, u77, u78, u79, u80, u81, u82, u83, u84, u85, u86, u87, u88, u89, u90, u91, u92, u93, u94, u95, u96, u97, u98, u99, u100, u101, u102, u103, u104, u105, u106, u107, u108, u109, u110, u111, u112, u113, u114, u115, u116, u117, u118, u119, u120, u121, u122, u123, u124, u125, u126, u127, u128, u129, u130, u131, u132, u133, u134, u135, u136, u137, u138, u139, u140, u141, u142, u143, u144, u145, u146, u147, u148, u149, u150, u151, u152, u153, u154, u155, u156, u157, u158, u159, u160, u161, u162, u163, u164, u165, u166, u167, u168, u169, u170, u171, u172, u173, u174, u175, u176, u177, u178, u179, u180, u181, u182, u183, u184, u185, u186, u187, u188, u189, u190, u191, u192, u193, u194, u195, u196, u197, u198, u199], []⟩ wc := by
  conv => arg 2; whnf
  conv at hK => intro a0 w0; arg 1; arg 2; whnf
  conv at hK4 => intro a0 w0; arg 1; arg 2; whnf
  have HQ := Lib.hid hQ
  have HM := Lib.hid hM
  have HML := Lib.hid hMl
  have HMR := Lib.hid hMr
  have HG := Lib.hid hG
  have HLT := Lib.hid hlt
  have HIN := Lib.hid hIn
  have HRO := Lib.hid hro
  have HB := Lib.hid hB
  have HBW := Lib.hid hBw
  have HL := Lib.hid (show LeadP (F + N) ro by rw [hro]; exact roH_ok (fun q hq => hIn q (List.mem_filter.1 hq).1))
  have HFL := Lib.hid (show ∀ f, f < F → ro f < F from fun f hf => by rw [hro]; exact roH_face_lt (N := N) (fun q hq => hIn q (List.mem_filter.1 hq).1) hf)
  have HALL := Lib.hid (show ∀ f, f < F → ro f = f → cV ro Q f N = cA ro (Q.filter hiQ) (pos ro f) from fun f hf hff => by rw [hro] at hff ⊢; exact cV_all hIn hf hff)
  have HHIT := Lib.hid (show ∀ f x, x < N → f < F → ro f = f → (0 < cI ro Q f x Q.length ↔ ro (F + x) < F ∧ pos ro (ro (F + x)) = pos ro f) from fun f x hx hf hff => by rw [hro] at hff ⊢; exact hit_iff hIn hx hf hff)
  have HO0 := Lib.hid (show PartR wc B (.slice (some ⟨g0, 0, none⟩) 0 0) 0 0 (rlB ro F N) (cA ro (Q.filter hiQ)) (fun _ => .slice none 0 0) from ⟨hO, ⟨rfl, fun _ h => absurd h (by simp), fun _ _ h => absurd h (by simp)⟩⟩)
  clear hQ hM hMl hMr hG hlt hIn hro hB hBw hO
  go_wp2_with fail
  go_loopg [12, 13] F (fun k s12 s13 wr => ∃ (f : Nat) (rv : Nat → Value), s13 = .int .i64 f ∧ f ≤ F ∧ k = F - f ∧ PartR wr B s12 (pos ro f) (pos ro f) (rlB ro F N) (cA ro (Q.filter hiQ)) rv ∧ Below B wc wr)
  case atStart => exact ⟨0, _, rfl, Nat.zero_le _, rfl, HO0.out, Below.refl _ _⟩
  case round =>
    obtain ⟨f, rvx, rfl, hf, hk, hP1, hB1⟩ := hrel
    have Hk := Lib.hid hk
    have HP1 := Lib.hid hP1
    have HB1 := Lib.hid hB1
    clear hk hP1 hB1
    by_cases hlt : f < F
    · have hlt' : (f : Int) < F := by omega
      have hmk := ((HM.out.below HB1.out HLT.out.1).cell f)
      rw [show (intCells M).toArray[f]? = some (.int .i64 (ro f : Nat)) from (by
        have h1 : f < M.length := by rw [HML.out]; exact hlt
        have h2 := HMR.out f hlt
        rw [List.getD_eq_getElem?_getD, List.getElem?_eq_getElem h1, Option.getD_some] at h2
        simp [intCells, h1, h2])] at hmk
      by_cases hff : ro f = f
      · rw [hff] at hmk
        have hne : ((f : Int) != (f : Int)) = false := by simp
        obtain ⟨m, hm⟩ : ∃ m, m = pos ro f := ⟨_, rfl⟩
        have hmf : m ≤ f := by rw [hm]; exact pos_le f
        have hBr : B ≤ wr.heap.size := by have := HLT.out; have := HB1.out.size; omega
        rw [← hm] at HP1
        have HPS := Lib.hid (show pos ro (f + 1) = m + 1 by rw [pos_succ, if_pos hff, hm])
        have HEQ := Lib.hid (show ∀ y, y < F → (pos ro (ro y) = m ↔ ro y = f) from fun y hy => by rw [hm]; exact pos_inj (HL.out.fix y (by omega)) hff (HFL.out y hy) hlt)
        have HAN := Lib.hid (show cV ro Q f N = cA ro (Q.filter hiQ) m by rw [hm]; exact HALL.out f hlt hff)
        have HHT := Lib.hid (show ∀ x, x < N → (0 < cI ro Q f x Q.length ↔ ro (F + x) < F ∧ pos ro (ro (F + x)) = m) from fun x hx => by rw [hm]; exact HHIT.out f x hx hlt hff)
        have HNW := Lib.hid (show rlF ro 0 m = [] from rfl)
        have hp := HP1.out.start hBr
        obtain ⟨gp, hgp⟩ : ∃ gp, gp = wr.heap.size := ⟨_, rfl⟩
        have HBA := Lib.hid (HB1.out.trans ((Below.refl wr.heap.size wr).alloc (Nat.le_refl _) (.cells #[.slice none 0 0, .slice none 0 0, .int .i64 0] 57) |>.mono hBr))
        obtain ⟨v0, hv0⟩ : ∃ v, v = u12 := ⟨_, rfl⟩
        have hz := World.size_alloc wr (.cells #[.slice none 0 0, .slice none 0 0, .int .i64 0] 57)
        rw [← hgp] at hp
        have HPB := Lib.hid (hp.congr (rl' := rl1 ro F N m 0) (an' := an1 ro (Q.filter hiQ) m 0) (fun i hi => by
          unfold rl1
          by_cases h1 : i < 2 * m
          · rw [if_pos h1, if_pos h1]
          · rw [if_neg h1, if_neg h1]
            by_cases h2 : i = 2 * m
            · rw [if_pos h2]; exact HNW.out.symm
            · rw [if_neg h2]) (fun _ _ => rfl))
        clear hp hm hff HP1 HB1 HNW
        go_upto_region 25 with fail
        rw [← hgp]
        rw [← hgp] at hz
        generalize wr.alloc (.cells #[.slice none 0 0, .slice none 0 0, .int .i64 0] 57) = w1 at *
        obtain ⟨rv1, hrv1⟩ : ∃ r : Nat → Value, r = fun i => if i < 2 * m then rvx i else .slice none 0 0 := ⟨_, rfl⟩
        rw [← hrv1] at HPB
        have hBr1 : B ≤ w1.heap.size := by omega
        clear hmk hrv1 hgp hz hv0
        go_wp2_with fail
        obtain ⟨w2, rfl⟩ : ∃ y, y = w1 := ⟨_, rfl⟩
        go_loopg [15] F (fun k s15 wr => ∃ (y : Nat) (rv : Nat → Value), s15 = .int .i64 y ∧ y ≤ F ∧ k = F - y ∧ PartB wr B gp u12 m (rl1 ro F N m y) (an1 ro (Q.filter hiQ) m 0) rv ∧ Below B wc wr)
        case atStart => exact ⟨0, _, rfl, Nat.zero_le _, rfl, HPB.out, HBA.out⟩
        case round =>
          obtain ⟨y, rvy, rfl, hy, hk2, hP2, hB2⟩ := hrel
          have Hk2 := Lib.hid hk2
          have HP2 := Lib.hid hP2
          have HB2 := Lib.hid hB2
          clear hk2 hP2 hB2 HPB HBA
          have hBr2 : B ≤ wr.heap.size := by have := HLT.out; have := HB2.out.size; omega
          by_cases hyl : y < F
          · have hyl' : (y : Int) < F := by omega
            have hmk := ((HM.out.below HB2.out HLT.out.1).cell y)
            rw [show (intCells M).toArray[y]? = some (.int .i64 (ro y : Nat)) from (by
              have h1 : y < M.length := by rw [HML.out]; exact hyl
              have h2 := HMR.out y hyl
              rw [List.getD_eq_getElem?_getD, List.getElem?_eq_getElem h1, Option.getD_some] at h2
              simp [intCells, h1, h2])] at hmk
            have hpe := HEQ.out y hyl
            have hroy := HFL.out y hyl
            obtain ⟨c0, hc0⟩ : ∃ c0, c0 = ro y := ⟨_, rfl⟩
            rw [← hc0] at hmk hpe
            have HC0 := Lib.hid hc0
            clear hc0
            by_cases hcf : c0 = f
            · have hceq : ((c0 : Int) == (f : Int)) = true := by rw [hcf]; simp
              have HST := Lib.hid (fun i => rl1_succ ro F N m y (by rw [← HC0.out]; exact hpe.2 hcf) i)
              have how := HP2.out.row (i := 2 * m + 0) (by omega)
              have hbox := HP2.out.box
              have hle : (rl1 ro F N m y (2 * m + 0)).length ≤ y := by rw [rl1_at]; exact rlF_length _ _
              obtain ⟨ln, hln⟩ : ∃ ln, ln = (rl1 ro F N m y (2 * m + 0)).length := ⟨_, rfl⟩
              rw [← hln] at how hle
              have HLN := Lib.hid hln
              have b0 := hbox.cell 0
              simp only [List.getElem?_toArray, List.getElem?_cons_zero] at b0
              clear hln hpe hbox hcf
              go_wp2_with (at_builtin; refine wp_app elemInt rfl _ _ rfl B (rvy (2 * m)) ln _ rfl wr.heap.size [.int .i64 (y : Int)] rfl rfl how rfl rfl ?a2 ?a3 ?a4 ?_)
              case a2 => omega
              case a3 => omega
              case a4 => exact hBr2
              intro v1 w3 ho hg hd
              obtain ⟨A1, cc1, rfl⟩ := own_slice ho
              have hb3 := HP2.out.boxApp (j := 0) (by omega) hg
              have z0 := hb3.cell 0
              have f0 := hb3.frozen 0
              simp only [List.getElem?_toArray, List.getElem?_cons_zero] at z0
              have HPN := Lib.hid (show PartB (w3.setCell ⟨gp, 0, none⟩ (.slice A1 (ln + 1) cc1)) B gp u12 m (rl1 ro F N m (y + 1)) (an1 ro (Q.filter hiQ) m 0) _ from
                (HP2.out.app (j := 0) (k0 := wr.heap.size + 1) (x := (y : Int)) (by omega) (by rw [← HLN.out]; exact ho) hg hd (Nat.le_succ _)).congr (fun i _ => (HST.out i).symm) (fun _ _ => rfl))
              have HBN := Lib.hid (HB2.out.trans (HP2.out.low (j := 0) (by omega) hg hBr2 (.slice A1 (ln + 1) cc1)))
              clear ho hg hd how hb3 hmk b0
              go_wp2_with fail
              go_roundg (F - (y + 1))
              case measure => rw [Hk2.out]; omega
              case rel => exact ⟨y + 1, _, by go_num, by omega, rfl, HPN.out, HBN.out⟩
            · have hceq : ((c0 : Int) == (f : Int)) = false := by rw [beq_eq_false_iff_ne]; omega
              have HST := Lib.hid (fun i => rl1_same ro F N m y (by rw [← HC0.out]; exact fun e => hcf (hpe.1 e)) i)
              have HPN := Lib.hid (HP2.out.congr (rl' := rl1 ro F N m (y + 1)) (an' := an1 ro (Q.filter hiQ) m 0) (fun i _ => (HST.out i).symm) (fun _ _ => rfl))
              clear hpe hcf
              go_wp2_with fail
              go_roundg (F - (y + 1))
              case measure => rw [Hk2.out]; omega
              case rel => exact ⟨y + 1, _, by go_num, by omega, rfl, HPN.out, HB2.out⟩
          · have hye : y = F := by omega
            have hyl' : ¬ (y : Int) < F := by omega
            have HP3 := Lib.hid (show PartB wr B gp u12 m (rl2 ro F N m 0) (an1 ro (Q.filter hiQ) m (cV ro Q f 0)) rvy by
              have := HP2.out
              rw [hye] at this
              exact this.congr (fun i _ => (rl12 ro F N m i).symm) (fun k _ => by rw [cV_zero]))
            clear hye hyl hy HP2 Hk2
            go_upto_region 30 with fail
            obtain ⟨w4, rfl⟩ : ∃ y, y = wr := ⟨_, rfl⟩
            go_wp2_with fail
            go_loopg [16] N (fun k s16 wr => ∃ (x : Nat) (rv : Nat → Value), s16 = .int .i64 x ∧ x ≤ N ∧ k = N - x ∧ PartB wr B gp u12 m (rl2 ro F N m x) (an1 ro (Q.filter hiQ) m (cV ro Q f x)) rv ∧ Below B wc wr)
            case atStart => exact ⟨0, _, rfl, Nat.zero_le _, rfl, HP3.out, HB2.out⟩
            case round =>
              obtain ⟨x, rvz, rfl, hx, hk3, hP4, hB4⟩ := hrel
              have Hk3 := Lib.hid hk3
              have HP4 := Lib.hid hP4
              have HB4 := Lib.hid hB4
              clear hk3 hP4 hB4 HP3 HB2
              have hBr4 : B ≤ wr.heap.size := by have := HLT.out; have := HB4.out.size; omega
              have zG := (HB4.out.cell (p := ⟨gb, 0, none⟩) HLT.out.2.1).trans HG.out
              by_cases hxl : x < N
              · have hxl' : (x : Int) < N := by omega
                have HHX := Lib.hid (HHT.out x hxl)
                go_wp2_with fail
                clear zG
                obtain ⟨w5, rfl⟩ : ∃ y, y = wr := ⟨_, rfl⟩
                go_loopg [17, 18] Q.length (fun k s17 s18 wr => ∃ (i : Nat), s18 = .int .i64 i ∧ i ≤ Q.length ∧ k = Q.length - i ∧ s17 = .bool (decide (0 < cI ro Q f x i)) ∧ PartB wr B gp u12 m (rl2 ro F N m x) (an1 ro (Q.filter hiQ) m (cV ro Q f x + cI ro Q f x i)) rvz ∧ Below B wc wr)
                case atStart => exact ⟨0, rfl, Nat.zero_le _, rfl, by simp [cI], HP4.out, HB4.out⟩
                case round =>
                  obtain ⟨i, rfl, hi, hk4, rfl, hP5, hB5⟩ := hrel
                  have Hk4 := Lib.hid hk4
                  have HP5 := Lib.hid hP5
                  have HB5 := Lib.hid hB5
                  clear hk4 hP5 hB5 HP4 HB4 hBr4
                  have hBr5 : B ≤ wr.heap.size := by have := HLT.out; have := HB5.out.size; omega
                  by_cases hil : i < Q.length
                  · have hil' : (i : Int) < Q.length := by omega
                    obtain ⟨bq, oq, e1, _, hc⟩ := (cells_lowA HQ.out HB5.out).quads (by omega)
                    have HE1 := Lib.hid e1
                    obtain ⟨d0, d1, d2, d3⟩ := hc i hil
                    have hqm := HIN.out _ (List.getElem_mem hil)
                    have HST := Lib.hid (cI_succ (ro := ro) (f := f) (x := x) hil)
                    have HHQ := Lib.hid (show hitQ ro f x Q[i] = decide (Q[i].2.2.2 = 2 ∧ Q[i].2.1 = x ∧ ro Q[i].2.2.1 = f) from rfl)
                    have hmk := ((HM.out.below HB5.out HLT.out.1).cell Q[i].2.2.1)
                    rw [show (intCells M).toArray[Q[i].2.2.1]? = some (.int .i64 (ro Q[i].2.2.1 : Nat)) from (by
                      have h1 : Q[i].2.2.1 < M.length := by rw [HML.out]; exact hqm.1
                      have h2 := HMR.out Q[i].2.2.1 hqm.1
                      rw [List.getD_eq_getElem?_getD, List.getElem?_eq_getElem h1, Option.getD_some] at h2
                      simp [intCells, h1, h2])] at hmk
                    obtain ⟨cn, hcn⟩ : ∃ cn, cn = cV ro Q f x + cI ro Q f x i := ⟨_, rfl⟩
                    rw [← hcn] at HP5
                    have hcnl : cn ≤ 2000 := by have := cV_le ro Q f x; have := cI_le ro Q f x i; omega
                    have HCN := Lib.hid hcn
                    obtain ⟨fc, hfc⟩ : ∃ fc, fc = Q[i].2.2.1 := ⟨_, rfl⟩
                    obtain ⟨vx, hvx⟩ : ∃ vx, vx = Q[i].2.1 := ⟨_, rfl⟩
                    obtain ⟨kd, hkd⟩ : ∃ kd, kd = Q[i].2.2.2 := ⟨_, rfl⟩
                    rw [← hfc] at d2 hqm hmk HHQ
                    rw [← hvx] at d1 hqm HHQ
                    rw [← hkd] at d3 HHQ
                    obtain ⟨c1, hc1⟩ : ∃ c1, c1 = ro fc := ⟨_, rfl⟩
                    rw [← hc1] at hmk HHQ
                    have hfcF : (fc : Int) < F := by omega
                    subst e1
                    obtain ⟨bv, hbv⟩ : ∃ bv, bv = decide (0 < cI ro Q f x i) := ⟨_, rfl⟩
                    rw [← hbv]
                    have HBV := Lib.hid hbv
                    clear d0 hcn hc hfc hvx hkd hc1 hbv HE1
                    by_cases h1 : kd = 2
                    · have hq1 : ((kd : Int) == 2) = true := by rw [h1]; rfl
                      by_cases h2 : vx = x
                      · have hq2 : ((vx : Int) == (x : Int)) = true := by rw [h2]; simp
                        by_cases h3 : c1 = f
                        · have hq3 : ((c1 : Int) == (f : Int)) = true := by rw [h3]; simp
                          have HC2 := Lib.hid (show cI ro Q f x (i + 1) = cI ro Q f x i + 1 by rw [HST.out, if_pos (by rw [HHQ.out]; exact decide_eq_true ⟨h1, h2, h3⟩)])
                          have b2 := HP5.out.box.cell 2
                          simp only [List.getElem?_toArray, List.getElem?_cons_zero, List.getElem?_cons_succ] at b2
                          rw [show an1 ro (Q.filter hiQ) m cn m = cn by unfold an1; rw [if_neg (Nat.lt_irrefl _)]] at b2
                          have f2 := HP5.out.box.frozen 2
                          have HPN := Lib.hid (show PartB (wr.setCell ⟨gp, 2, none⟩ (.int .i64 ((cn : Int) + 1))) B gp u12 m (rl2 ro F N m x) (an1 ro (Q.filter hiQ) m (cV ro Q f x + cI ro Q f x (i + 1))) rvz by
                            refine PartB.congr (show PartB (wr.setCell ⟨gp, 2, none⟩ (.int .i64 ((cn : Int) + 1))) B gp u12 m _ _ rvz from HP5.out.num (c := cn + 1)) (fun _ _ => rfl) fun k hk => ?_
                            rw [HC2.out]
                            have := HCN.out
                            unfold an1
                            by_cases e : k = m
                            · rw [if_pos e, if_neg (by omega)]; omega
                            · rw [if_neg e, if_pos (by omega), if_pos (by omega)])
                          have HBN := Lib.hid (HB5.out.trans (HP5.out.lowN hBr5 2 (.int .i64 ((cn : Int) + 1))))
                          have HTR := Lib.hid (show decide (0 < cI ro Q f x (i + 1)) = true by rw [HC2.out]; simp)
                          clear h1 h2 h3 hqm
                          go_wp2_with fail
                          go_roundg (Q.length - (i + 1))
                          case measure => rw [Hk4.out]; omega
                          case rel => exact ⟨i + 1, by go_num, by omega, rfl, by rw [HTR.out], HPN.out, HBN.out⟩
                        · have hq3 : ((c1 : Int) == (f : Int)) = false := by rw [beq_eq_false_iff_ne]; omega
                          have HC2 := Lib.hid (show cI ro Q f x (i + 1) = cI ro Q f x i by rw [HST.out, if_neg (by rw [HHQ.out]; intro e; exact h3 (of_decide_eq_true e).2.2)]; rfl)
                          clear h1 h2 h3 hqm
                          go_wp2_with fail
                          go_roundg (Q.length - (i + 1))
                          case measure => rw [Hk4.out]; omega
                          case rel => exact ⟨i + 1, by go_num, by omega, rfl, by rw [HC2.out, HBV.out], by rw [HC2.out, ← HCN.out]; exact HP5.out, HB5.out⟩
                      · have hq2 : ((vx : Int) == (x : Int)) = false := by rw [beq_eq_false_iff_ne]; omega
                        have HC2 := Lib.hid (show cI ro Q f x (i + 1) = cI ro Q f x i by rw [HST.out, if_neg (by rw [HHQ.out]; intro e; exact h2 (of_decide_eq_true e).2.1)]; rfl)
                        clear h1 h2 hqm
                        go_wp2_with fail
                        go_roundg (Q.length - (i + 1))
                        case measure => rw [Hk4.out]; omega
                        case rel => exact ⟨i + 1, by go_num, by omega, rfl, by rw [HC2.out, HBV.out], by rw [HC2.out, ← HCN.out]; exact HP5.out, HB5.out⟩
                    · have hq1 : ((kd : Int) == 2) = false := by rw [beq_eq_false_iff_ne]; omega
                      have HC2 := Lib.hid (show cI ro Q f x (i + 1) = cI ro Q f x i by rw [HST.out, if_neg (by rw [HHQ.out]; intro e; exact h1 (of_decide_eq_true e).1)]; rfl)
                      clear h1 hqm
                      go_wp2_with fail
                      go_roundg (Q.length - (i + 1))
                      case measure => rw [Hk4.out]; omega
                      case rel => exact ⟨i + 1, by go_num, by omega, rfl, by rw [HC2.out, HBV.out], by rw [HC2.out, ← HCN.out]; exact HP5.out, HB5.out⟩
                  · have hie : i = Q.length := by omega
                    subst hie
                    have hil' : ¬ (Q.length : Int) < Q.length := by omega
                    have HVS := Lib.hid (cV_succ ro f x Q)
                    obtain ⟨bv, hbv⟩ : ∃ bv, bv = decide (0 < cI ro Q f x Q.length) := ⟨_, rfl⟩
                    rw [← hbv]
                    rw [← HVS.out] at HP5
                    clear hil hi Hk4
                    cases bv with
                    | true =>
                      have hcnd := HHX.out.1 (of_decide_eq_true hbv.symm)
                      have HST := Lib.hid (fun i (hi : i < 2 * (m + 1)) => rl2_succ ro F N m x hcnd hi)
                      have how := HP5.out.row (i := 2 * m + 1) (by omega)
                      have hbox := HP5.out.box
                      have hle : (rl2 ro F N m x (2 * m + 1)).length ≤ x := by rw [rl2_at]; exact rlV_length _ _ _
                      obtain ⟨ln, hln⟩ : ∃ ln, ln = (rl2 ro F N m x (2 * m + 1)).length := ⟨_, rfl⟩
                      rw [← hln] at how hle
                      have HLN := Lib.hid hln
                      have b1 := hbox.cell 1
                      simp only [List.getElem?_toArray, List.getElem?_cons_zero, List.getElem?_cons_succ] at b1
                      clear hln hbox hcnd hbv
                      go_wp2_with (at_builtin; refine wp_app elemInt rfl _ _ rfl B (rvz (2 * m + 1)) ln _ rfl wr.heap.size [.int .i64 (x : Int)] rfl rfl how rfl rfl ?b2 ?b3 ?b4 ?_)
                      case b2 => omega
                      case b3 => omega
                      try (case b4 => exact hBr5)
                      intro v1 w6 ho hg hd
                      obtain ⟨A1, cc1, rfl⟩ := own_slice ho
                      have hb3 := HP5.out.boxApp (j := 1) (by omega) hg
                      have z1 := hb3.cell 1
                      have f1 := hb3.frozen 1
                      simp only [List.getElem?_toArray, List.getElem?_cons_zero, List.getElem?_cons_succ] at z1
                      have HPN := Lib.hid (show PartB (w6.setCell ⟨gp, 1, none⟩ (.slice A1 (ln + 1) cc1)) B gp u12 m (rl2 ro F N m (x + 1)) (an1 ro (Q.filter hiQ) m (cV ro Q f (x + 1))) _ from
                        (HP5.out.app (j := 1) (k0 := wr.heap.size + 1) (x := (x : Int)) (by omega) (by rw [← HLN.out]; exact ho) hg hd (Nat.le_succ _)).congr (fun i hi => (HST.out i hi).symm) (fun _ _ => rfl))
                      have HBN := Lib.hid (HB5.out.trans (HP5.out.low (j := 1) (by omega) hg hBr5 (.slice A1 (ln + 1) cc1)))
                      clear ho hg hd how hb3 b1
                      go_wp2_with fail
                      go_roundg (N - (x + 1))
                      case measure => rw [Hk3.out]; omega
                      case rel => exact ⟨x + 1, _, by go_num, by omega, rfl, HPN.out, HBN.out⟩
                    | false =>
                      have hcnd : ¬ (ro (F + x) < F ∧ pos ro (ro (F + x)) = m) := fun h => absurd (HHX.out.2 h) (of_decide_eq_false hbv.symm)
                      have HST := Lib.hid (fun i => rl2_same ro F N m x hcnd i)
                      have HPN := Lib.hid (HP5.out.congr (rl' := rl2 ro F N m (x + 1)) (an' := an1 ro (Q.filter hiQ) m (cV ro Q f (x + 1))) (fun i _ => (HST.out i).symm) (fun _ _ => rfl))
                      clear hcnd hbv
                      go_wp2_with fail
                      go_roundg (N - (x + 1))
                      case measure => rw [Hk3.out]; omega
                      case rel => exact ⟨x + 1, _, by go_num, by omega, rfl, HPN.out, HB5.out⟩
              · have hxe : x = N := by omega
                have hxl' : ¬ (x : Int) < N := by omega
                have HP6 := Lib.hid (show PartB wr B gp u12 m (rlB ro F N) (cA ro (Q.filter hiQ)) rvz by
                  have := HP4.out
                  rw [hxe] at this
                  refine this.congr (fun i hi => rl2_end ro F N m hi) (fun k hk => ?_)
                  unfold an1
                  by_cases e : k < m
                  · rw [if_pos e]
                  · rw [if_neg e, HAN.out, show k = m by omega])
                clear hxe hxl hx HP4 Hk3
                obtain ⟨A1, c1, e1⟩ := own_slice (HP6.out.row (i := 2 * m) (by omega))
                obtain ⟨A2, c2, e2⟩ := own_slice (HP6.out.row (i := 2 * m + 1) (by omega))
                have hbox := HP6.out.box
                rw [e1, e2] at hbox
                have HE := Lib.hid (And.intro e1 e2)
                obtain ⟨l1, hl1⟩ : ∃ l, l = (rlB ro F N (2 * m)).length := ⟨_, rfl⟩
                obtain ⟨l2, hl2⟩ : ∃ l, l = (rlB ro F N (2 * m + 1)).length := ⟨_, rfl⟩
                obtain ⟨l3, hl3⟩ : ∃ l, l = cA ro (Q.filter hiQ) m := ⟨_, rfl⟩
                rw [← hl1, ← hl2, ← hl3] at hbox
                rw [← hl1, ← hl2] at HE
                have HL3 := Lib.hid hl3
                have b0 := hbox.cell 0
                have b1 := hbox.cell 1
                have b2 := hbox.cell 2
                simp only [List.getElem?_toArray, List.getElem?_cons_zero, List.getElem?_cons_succ] at b0 b1 b2
                have how := HP6.out.p.own
                clear e1 e2 hl1 hl2 hl3 hbox
                go_wp2_with (at_builtin; refine wp_app elemPartR rfl _ _ rfl B u12 m _ rfl wr.heap.size [.slice A1 l1 c1, .slice A2 l2 c2, .int .i64 (l3 : Nat)] rfl rfl how rfl rfl ?c2 ?c3 ?c4 ?_)
                case c2 => omega
                case c3 => omega
                try (case c4 => exact hBr4)
                intro v1 w6 ho hg hd
                have HPD := Lib.hid (HP6.out.done (w' := w6) (v' := v1) (by rw [HE.out.1, HE.out.2, ← HL3.out]; exact ho) hg)
                have HBD := Lib.hid (HB4.out.trans ((Evo.of_grown (T := [57]) (B := B) how hg (by simp) (Nat.le_refl _)).below hBr4))
                clear ho hg hd how b0 b1 b2
                go_wp2_with fail
                go_roundg (F - (f + 1))
                case measure => rw [Hk.out]; omega
                case rel => exact ⟨f + 1, _, by go_num, by omega, rfl, by rw [HPS.out]; exact HPD.out, HBD.out⟩
      · have hne : (((ro f : Nat) : Int) != (f : Int)) = true := by rw [bne_iff_ne]; omega
        have HPS := Lib.hid (show pos ro (f + 1) = pos ro f by rw [pos_succ, if_neg hff]; rfl)
        have hro := HFL.out f hlt
        obtain ⟨c0, hc0⟩ : ∃ c0, c0 = ro f := ⟨_, rfl⟩
        rw [← hc0] at hmk hne
        clear hc0 hff
        go_wp2_with fail
        go_roundg (F - (f + 1))
        case measure => rw [Hk.out]; omega
        case rel => exact ⟨f + 1, _, by go_num, by omega, rfl, by rw [HPS.out]; exact HP1.out, HB1.out⟩
    · have hfe : f = F := by omega
      have hlt' : ¬ (f : Int) < F := by omega
      have HF := Lib.hid (show PartR wr w.heap.size u12 (pos ro F) (pos ro F) (rlB ro F N) (cA ro (Q.filter hiQ)) rvx by
        have := HP1.out
        rw [hfe] at this
        exact ⟨own_mono this.own HBW.out, this.rows.mono HBW.out⟩)
      have HBF := Lib.hid (HB.out.trans (HB1.out.mono HBW.out))
      clear hfe hlt hf
      go_wp2_with fail
      go_ret
      exact ⟨_, rfl, HBF.out, _, HF.out⟩
end Go.Proofs.Ytelcofkjpkdjiaa
/-
  The reference's Parts: the marks made lesser, round by round. (Printed by refpgen.py.) Written by an AI agent.
-/
namespace Go.Proofs.Ytelcofkjpkdjiaa
open Go.RowKit

def mI (M : List Nat) : List Int := M.map fun m : Nat => (m : Int)
theorem mI_length (M : List Nat) : (mI M).length = M.length := by simp [mI]
theorem mI_getD (M : List Nat) (y : Nat) : (mI M).getD y 0 = ((M.getD y 0 : Nat) : Int) := by
  unfold mI
  rw [List.getD_eq_getElem?_getD, List.getElem?_map, List.getD_eq_getElem?_getD]
  cases M[y]? <;> rfl
theorem mI_set (M : List Nat) (i v : Nat) : mI (M.set i v) = (mI M).set i (v : Int) := by
  unfold mI
  rw [List.map_set]
theorem mkRow_length (q : Quad) : ∀ (K : List Quad) (M : List Nat), (mkRow K q M).length = M.length
  | [], _ => rfl
  | a :: K, M => (mkRow_length q K (mk1 q a M)).trans (mk1_length q a M)
set_option maxRecDepth 100000 in
set_option maxHeartbeats 4000000 in
theorem refMark (gb gm F N c5 Bq : Nat) (A5 : Option Addr) (Q : List Quad) (ro : Nat → Nat) (w wc : World) (hQ : Cells wc Bq A5 (qCells Q)) (hM : Blk wc gm 3 ((intCells (mI (List.range F))).toArray ++ #[])) (hG : wc.cell? ⟨gb, 0, none⟩ = some (.int .i64 N)) (hlt : Bq ≤ gm ∧ gb < gm) (hIn : ∀ q ∈ Q, q.2.2.1 < F ∧ q.2.1 < N) (hro : ro = roH F (Q.filter hiQ)) (hlen : F + N ≤ 1000) (hQl : Q.length ≤ 1000) (hB : Below w.heap.size w wc) (hBw : w.heap.size ≤ gm) (u0 u1 u3 u4 u8 u9 u10 u11 u12 u13 u14 u15 u16 u17 u18 u19 u20 u21 u22 u23 u24 u25 u26 u27 u28 u29 u30 u31 u32 u33 u34 u35 u36 u37 u38 u39 u40 u41 u42 u43 u44 u45 u46 u47 u48 u49 u50 u51 u52 u53 u54 u55 u56 u57 u58 u59 u60 u61 u62 u63 u64 u65 u66 u67 u68 u69 u70 u71 u72 u73 u74 u75 u76 u77 u78 u79 u80 u81 u82 u83 u84 u85 u86 u87 u88 u89 u90 u91 u92 u93 u94 u95 u96 u97 u98 u99 u100 u101 u102 u103 u104 u105 u106 u107 u108 u109 u110 u111 u112 u113 u114 u115 u116 u117 u118 u119 u120 u121 u122 u123 u124 u125 u126 u127 u128 u129 u130 u131 u132 u133 u134 u135 u136 u137 u138 u139 u140 u141 u142 u143 u144 u145 u146 u147 u148 u149 u150 u151 u152 u153 u154 u155 u156 u157 u158 u159 u160 u161 u162 u163 u164 u165 u166 u167 u168 u169 u170 u171 u172 u173 u174 u175 u176 u177 u178 u179 u180 u181 u182 u183 u184 u185 u186 u187 u188 u189 u190 u191 u192 u193 u194 u195 u196 u197 u198 u199 : Value) (K : Act → World → Prop) (hK : ∀ a0 w0, Code.wp Try.prog (sndC (restC 5 ((Try.f26.body).getD .skip))) (bodyPost Try.prog Try.f26 (RPartsQ Q ro F N w)) a0 w0 → K a0 w0) (K4 : Act → World → Prop) (hK4 : ∀ a0 w0, Code.wp Try.prog (sndC (fstC (restC 5 ((Try.f26.body).getD .skip)))) (Exit.then K (bodyPost Try.prog Try.f26 (RPartsQ Q ro F N w))) a0 w0 → K4 a0 w0) : Code.wp Try.prog (fstC (fstC (restC 5 ((Try.f26.body).getD .skip)))) (Exit.then K4 (Exit.then K (bodyPost Try.prog Try.f26 (RPartsQ Q ro F N w)))) ⟨#[u0, u1, .pointer (some ⟨gb, 0, none⟩), u3, u4, .slice A5 Q.length c5, .int .i64 F, .slice (some ⟨gm, 0, none⟩) F F, u8, u9, u10, u11, u12, u13, u14, u15, u16, u17, u18, u19, u20, u21, u22, u23, u24, u25, u26, u27, u28, u29, u30, u31, u32, u33, u34, u35, u36, u37, u38, u39, u40, u41, u42, u43, u44, u45, u46, u47, u48, u49, u50, u51, u52, u53, u54, u55, u56, u57, u58, u59, u60, u61, u62, u63, u64, u65, u66, u67, u68, u69, u70, u71, u72, u73, u74, u75, u76, u77, u78, u79, u80, u81, u82, u83, u84, u85, u86, u87, u88, u89, u90, u91, u92, u93, u94, u95, u96, u97, u98, u99, u100, u101, u102, u103, u104, u105, u106, u107, u108, u109, u110, u111, u112, u113, u114, u115, u116, u117, u118, u119, u120, u121, u122, u123, u124, u125, u126, u127, u128, u129, u130, u131, u132, u133, u134, u135, u136, u137, u138, u139, u140, u141, u142, u143, u144, u145, u146, u147, u148, u149, u150, u151, u152, u153, u154, u155, u156, u157, u158, u159, u160, u161, u162, u163, u164, u165, u166, u167, u168, u169, u170, u171, u172, u173, u174, u175, u176, u177, u178, u179, u180, u181, u182, u183, u184, u185, u186, u187, u188, u189, u190, u191, u192, u193, u194, u195, u196, u197, u198, u199], []⟩ wc := by
  conv => arg 2; whnf
  conv at hK => intro a0 w0; arg 1; arg 2; whnf
  conv at hK4 => intro a0 w0; arg 1; arg 2; whnf
  have HQ := Lib.hid hQ
  have HM := Lib.hid hM
  have HG := Lib.hid hG
  have HLT := Lib.hid hlt
  have HIN := Lib.hid hIn
  have HRO := Lib.hid hro
  have HB := Lib.hid hB
  have HBW := Lib.hid hBw
  clear hQ hM hG hlt hIn hro hB hBw
  go_wp2_with fail
  go_loopg [9] F (fun k s9 wr => ∃ (t : Nat) (M : List Nat), s9 = .int .i64 t ∧ t ≤ F ∧ k = F - t ∧ M = mkRounds Q t (List.range F) ∧ M.length = F ∧ Blk wr gm 3 ((intCells (mI M)).toArray ++ #[]) ∧ Below gm wc wr)
  case atStart => exact ⟨0, _, rfl, Nat.zero_le _, rfl, rfl, by simp [mkRounds], HM.out, Below.refl _ _⟩
  case round =>
    obtain ⟨t, Mt, rfl, ht, hk, hMt, hMl, hb, hbl⟩ := hrel
    have Hk := Lib.hid hk
    have HMT := Lib.hid (And.intro hMt hMl)
    have HB1 := Lib.hid hb
    have HBL := Lib.hid hbl
    clear hk hMt hMl hb hbl
    by_cases htl : t < F
    · have htl' : (t : Int) < F := by omega
      go_wp2_with fail
      obtain ⟨w2, rfl⟩ : ∃ y, y = wr := ⟨_, rfl⟩
      go_loopg [10] Q.length (fun k s10 wr => ∃ (i : Nat) (M : List Nat), s10 = .int .i64 i ∧ i ≤ Q.length ∧ k = Q.length - i ∧ M = (Q.take i).foldl (fun M q => mkRow Q q M) Mt ∧ M.length = F ∧ Blk wr gm 3 ((intCells (mI M)).toArray ++ #[]) ∧ Below gm wc wr)
      case atStart => exact ⟨0, _, rfl, Nat.zero_le _, rfl, rfl, HMT.out.2, HB1.out, HBL.out⟩
      case round =>
        obtain ⟨i, Mi, rfl, hi, hk, hMi, hMl, hb, hbl⟩ := hrel
        have Hk2 := Lib.hid hk
        have HMI := Lib.hid (And.intro hMi hMl)
        have HB2 := Lib.hid hb
        have HBL2 := Lib.hid hbl
        clear hk hMi hMl hb hbl HB1 HBL
        by_cases hil : i < Q.length
        · have hil' : (i : Int) < Q.length := by omega
          go_wp2_with fail
          obtain ⟨w3, rfl⟩ : ∃ y, y = wr := ⟨_, rfl⟩
          go_loopg [11] Q.length (fun k s11 wr => ∃ (j : Nat) (M : List Nat), s11 = .int .i64 j ∧ j ≤ Q.length ∧ k = Q.length - j ∧ M = (Q.take j).foldl (fun M p => mk1 Q[i] p M) Mi ∧ M.length = F ∧ Blk wr gm 3 ((intCells (mI M)).toArray ++ #[]) ∧ Below gm wc wr)
          case atStart => exact ⟨0, _, rfl, Nat.zero_le _, rfl, rfl, HMI.out.2, HB2.out, HBL2.out⟩
          case round =>
            obtain ⟨j, Mj, rfl, hj, hk, hMj, hMl, hb, hbl⟩ := hrel
            have Hk3 := Lib.hid hk
            have HMJ := Lib.hid hMj
            have HMJL := Lib.hid hMl
            have HB3 := Lib.hid hb
            have HBL3 := Lib.hid hbl
            clear hk hMj hMl hb hbl HB2 HBL2
            by_cases hjl : j < Q.length
            · have hjl' : (j : Int) < Q.length := by omega
              obtain ⟨bq, oq, e1, _, hc⟩ := (cells_lowA HQ.out (HBL3.out.mono HLT.out.1)).quads (by omega)
              obtain ⟨-, d1, d2, d3⟩ := hc i hil
              obtain ⟨-, e2, e3, e4⟩ := hc j hjl
              have hqm := HIN.out _ (List.getElem_mem hil)
              have hpm := HIN.out _ (List.getElem_mem hjl)
              have mq := HB3.out.intR (k := Q[i].2.2.1) (by rw [mI_length, HMJL.out]; exact hqm.1)
              have mp := HB3.out.intR (k := Q[j].2.2.1) (by rw [mI_length, HMJL.out]; exact hpm.1)
              rw [mI_getD] at mq mp
              have fq := HB3.out.frozen Q[i].2.2.1
              have HST := Lib.hid (show (Q.take (j + 1)).foldl (fun M p => mk1 Q[i] p M) Mi = mk1 Q[i] Q[j] Mj by rw [foldl_take_succ _ _ _ hjl, ← HMJ.out])
              have HMK := Lib.hid (show mk1 Q[i] Q[j] Mj = if Q[i].2.2.2 = 2 ∧ Q[j].2.2.2 = 2 ∧ Q[i].2.1 = Q[j].2.1 ∧ Mj.getD Q[j].2.2.1 0 < Mj.getD Q[i].2.2.1 0 then Mj.set Q[i].2.2.1 (Mj.getD Q[j].2.2.1 0) else Mj from rfl)
              have HML2 := Lib.hid (show (mk1 Q[i] Q[j] Mj).length = F by rw [mk1_length]; exact HMJL.out)
              have HSETC := Lib.hid (fun v => HB3.out.setIntR Q[i].2.2.1 v (by rw [mI_length, HMJL.out]; exact hqm.1))
              obtain ⟨qf, hqf⟩ : ∃ x, x = Q[i].2.2.1 := ⟨_, rfl⟩
              obtain ⟨qv, hqv⟩ : ∃ x, x = Q[i].2.1 := ⟨_, rfl⟩
              obtain ⟨qk, hqk⟩ : ∃ x, x = Q[i].2.2.2 := ⟨_, rfl⟩
              obtain ⟨pf, hpf⟩ : ∃ x, x = Q[j].2.2.1 := ⟨_, rfl⟩
              obtain ⟨pv, hpv⟩ : ∃ x, x = Q[j].2.1 := ⟨_, rfl⟩
              obtain ⟨pk, hpk⟩ : ∃ x, x = Q[j].2.2.2 := ⟨_, rfl⟩
              rw [← hqf] at d2 hqm mq fq HMK HSETC
              rw [← hqv] at d1 hqm HMK
              rw [← hqk] at d3 HMK
              rw [← hpf] at e3 hpm mp HMK
              rw [← hpv] at e2 hpm HMK
              rw [← hpk] at e4 HMK
              have hqF : (qf : Int) < F := by omega
              have hpF : (pf : Int) < F := by omega
              obtain ⟨a, ha⟩ : ∃ x, x = Mj.getD qf 0 := ⟨_, rfl⟩
              obtain ⟨b, hbb⟩ : ∃ x, x = Mj.getD pf 0 := ⟨_, rfl⟩
              rw [← ha] at mq HMK
              rw [← hbb] at mp HMK
              have HFX := Lib.hid (And.intro hqf (And.intro hpf (And.intro ha hbb)))
              subst e1
              clear hc hqf hqv hqk hpf hpv hpk ha hbb hqm hpm
              have HNO := Lib.hid (show ¬ (qk = 2 ∧ pk = 2 ∧ qv = pv ∧ b < a) → mk1 Q[i] Q[j] Mj = Mj from fun h => by rw [HMK.out, if_neg h])
              by_cases h1 : qk = 2
              · have hq1 : ((qk : Int) == 2) = true := by rw [h1]; rfl
                by_cases h2 : pk = 2
                · have hq2 : ((pk : Int) == 2) = true := by rw [h2]; rfl
                  by_cases h3 : qv = pv
                  · have hq3 : ((qv : Int) == (pv : Int)) = true := by rw [h3]; simp
                    by_cases h4 : b < a
                    · have hq4 : (b : Int) < (a : Int) := by omega
                      have HYES := Lib.hid (show mk1 Q[i] Q[j] Mj = Mj.set qf b by rw [HMK.out, if_pos ⟨h1, h2, h3, h4⟩])
                      clear h1 h2 h3 h4
                      go_wp2_with fail
                      go_quiet (fail)
                      have hbn := below_drewN (Below.refl wr.heap.size wr) nq
                      have HB4 := Lib.hid (HB3.out.below hbn HB3.out.lt)
                      have HBL4 := Lib.hid (show Below gm wc (wr.drewN nq) from below_drewN HBL3.out nq)
                      clear hbn
                      generalize wr.drewN nq = w5 at *
                      have mq' := HB4.out.intR (k := qf) (by rw [mI_length, HMJL.out]; omega)
                      have mp' := HB4.out.intR (k := pf) (by rw [mI_length, HMJL.out]; omega)
                      rw [mI_getD] at mq' mp'
                      obtain ⟨bq2, oq2, e12, _, hc⟩ := (cells_lowA HQ.out (HBL4.out.mono HLT.out.1)).quads (by omega)
                      injection e12 with e12
                      injection e12 with e13 e14 _
                      subst e13 e14
                      obtain ⟨-, n1, n2, n3⟩ := hc i hil
                      obtain ⟨-, o1, o2, o3⟩ := hc j hjl
                      have HX := HFX.out
                      rw [← HX.1] at n2
                      rw [← HX.2.1] at o2
                      rw [← HX.2.2.1] at mq'
                      rw [← HX.2.2.2] at mp'
                      have fq' := HB4.out.frozen qf
                      have HB5 := Lib.hid (show Blk (w5.setCell ⟨gm, qf, none⟩ (.int .i64 (b : Nat))) gm 3 ((intCells (mI (mk1 Q[i] Q[j] Mj))).toArray ++ #[]) by
                        rw [HYES.out, mI_set]
                        exact HB4.out.setIntR qf _ (by rw [mI_length, HMJL.out]; omega))
                      have HBL5 := Lib.hid (HBL4.out.trans ((But.set_ w5 (show gm ∈ [gm] by simp) qf (.int .i64 (b : Nat))).below (by have := HB4.out.lt; omega) (fun k hk => by have h9 : k = gm := (by simpa using hk); omega)))
                      clear d1 d2 d3 e2 e3 e4 mq mp fq n1 n3 o1 o3 hc HX
                      go_wp2_with fail
                      go_region
                      have HB6 := Lib.hid HB5.out.drew
                      have HBL6 := Lib.hid (show Below gm wc (w5.setCell ⟨gm, qf, none⟩ (.int .i64 (b : Nat))).drew from below_drewN HBL5.out 1)
                      generalize (w5.setCell ⟨gm, qf, none⟩ (.int .i64 (b : Nat))).drew = w6 at *
                      clear n2 o2 mq' mp' fq'
                      go_wp2_with fail
                      go_roundg (Q.length - (j + 1))
                      case measure => rw [Hk3.out]; omega
                      case rel => exact ⟨j + 1, mk1 Q[i] Q[j] Mj, by go_num, by omega, rfl, HST.out.symm, HML2.out, HB6.out, HBL6.out⟩
                    · have hq4 : ¬ (b : Int) < (a : Int) := by omega
                      have HYES := Lib.hid (HNO.out (fun h => h4 h.2.2.2))
                      clear h1 h2 h3 h4
                      go_wp2_with fail
                      go_quiet (fail)
                      have hbn := below_drewN (Below.refl wr.heap.size wr) nq
                      have HB4 := Lib.hid (show Blk (wr.drewN nq) gm 3 ((intCells (mI (mk1 Q[i] Q[j] Mj))).toArray ++ #[]) by rw [HYES.out]; exact HB3.out.below hbn HB3.out.lt)
                      have HBL4 := Lib.hid (show Below gm wc (wr.drewN nq) from below_drewN HBL3.out nq)
                      clear hbn
                      go_wp2_with fail
                      go_roundg (Q.length - (j + 1))
                      case measure => rw [Hk3.out]; omega
                      case rel => exact ⟨j + 1, mk1 Q[i] Q[j] Mj, by go_num, by omega, rfl, HST.out.symm, HML2.out, HB4.out, HBL4.out⟩
                  · have hq3 : ((qv : Int) == (pv : Int)) = false := by rw [beq_eq_false_iff_ne]; omega
                    have HYES := Lib.hid (HNO.out (fun h => h3 h.2.2.1))
                    clear h1 h2 h3
                    go_wp2_with fail
                    go_quiet (fail)
                    have hbn := below_drewN (Below.refl wr.heap.size wr) nq
                    have HB4 := Lib.hid (show Blk (wr.drewN nq) gm 3 ((intCells (mI (mk1 Q[i] Q[j] Mj))).toArray ++ #[]) by rw [HYES.out]; exact HB3.out.below hbn HB3.out.lt)
                    have HBL4 := Lib.hid (show Below gm wc (wr.drewN nq) from below_drewN HBL3.out nq)
                    clear hbn
                    go_wp2_with fail
                    go_roundg (Q.length - (j + 1))
                    case measure => rw [Hk3.out]; omega
                    case rel => exact ⟨j + 1, mk1 Q[i] Q[j] Mj, by go_num, by omega, rfl, HST.out.symm, HML2.out, HB4.out, HBL4.out⟩
                · have hq2 : ((pk : Int) == 2) = false := by rw [beq_eq_false_iff_ne]; omega
                  have HYES := Lib.hid (HNO.out (fun h => h2 h.2.1))
                  clear h1 h2
                  go_wp2_with fail
                  go_quiet (fail)
                  have hbn := below_drewN (Below.refl wr.heap.size wr) nq
                  have HB4 := Lib.hid (show Blk (wr.drewN nq) gm 3 ((intCells (mI (mk1 Q[i] Q[j] Mj))).toArray ++ #[]) by rw [HYES.out]; exact HB3.out.below hbn HB3.out.lt)
                  have HBL4 := Lib.hid (show Below gm wc (wr.drewN nq) from below_drewN HBL3.out nq)
                  clear hbn
                  go_wp2_with fail
                  go_roundg (Q.length - (j + 1))
                  case measure => rw [Hk3.out]; omega
                  case rel => exact ⟨j + 1, mk1 Q[i] Q[j] Mj, by go_num, by omega, rfl, HST.out.symm, HML2.out, HB4.out, HBL4.out⟩
              · have hq1 : ((qk : Int) == 2) = false := by rw [beq_eq_false_iff_ne]; omega
                have HYES := Lib.hid (HNO.out (fun h => h1 h.1))
                clear h1
                go_wp2_with fail
                go_quiet (fail)
                have hbn := below_drewN (Below.refl wr.heap.size wr) nq
                have HB4 := Lib.hid (show Blk (wr.drewN nq) gm 3 ((intCells (mI (mk1 Q[i] Q[j] Mj))).toArray ++ #[]) by rw [HYES.out]; exact HB3.out.below hbn HB3.out.lt)
                have HBL4 := Lib.hid (show Below gm wc (wr.drewN nq) from below_drewN HBL3.out nq)
                clear hbn
                go_wp2_with fail
                go_roundg (Q.length - (j + 1))
                case measure => rw [Hk3.out]; omega
                case rel => exact ⟨j + 1, mk1 Q[i] Q[j] Mj, by go_num, by omega, rfl, HST.out.symm, HML2.out, HB4.out, HBL4.out⟩
            · have hje : j = Q.length := by omega
              have hjl' : ¬ (j : Int) < Q.length := by omega
              have HSR := Lib.hid (show Mj = (Q.take (i + 1)).foldl (fun M q => mkRow Q q M) Mt by
                rw [foldl_take_succ _ _ _ hil, ← HMI.out.1]
                have := HMJ.out
                rw [hje, List.take_length] at this
                exact this)
              clear hje hjl hj
              go_wp2_with fail
              go_roundg (Q.length - (i + 1))
              case measure => rw [Hk2.out]; omega
              case rel => exact ⟨i + 1, Mj, by go_num, by omega, rfl, HSR.out, HMJL.out, HB3.out, HBL3.out⟩
        · have hie : i = Q.length := by omega
          have hil' : ¬ (i : Int) < Q.length := by omega
          have HSR := Lib.hid (show Mi = mkRounds Q (t + 1) (List.range F) by
            have := HMI.out.1
            rw [hie, List.take_length, HMT.out.1] at this
            exact this)
          clear hie hil hi
          go_wp2_with fail
          go_roundg (F - (t + 1))
          case measure => rw [Hk.out]; omega
          case rel => exact ⟨t + 1, Mi, by go_num, by omega, rfl, HSR.out, HMI.out.2, HB2.out, HBL2.out⟩
    · have hte : t = F := by omega
      have htl' : ¬ (t : Int) < F := by omega
      have HMR := Lib.hid (show ∀ f, f < F → (mI Mt).getD f 0 = (ro f : Nat) from fun f hf => by
        rw [mI_getD, HMT.out.1, hte, (marks_done HIN.out).2 f hf, HRO.out])
      have HBR := Lib.hid ((Below.refl wr.heap.size wr).alloc (Nat.le_refl _) (.cells #[] 57))
      have HBK := Lib.hid (own_of_blk3 (Blk.new wr 57 #[]) (Nat.le_refl _))
      have HQ9 := Lib.hid ((cells_lowA HQ.out (HBL.out.mono HLT.out.1)).more (B' := wr.heap.size) (by have := HB1.out.lt; have := HLT.out; omega))
      clear hte htl ht
      go_upto_region 20 with fail
      exact refOut gb gm wr.heap.size F N c5 wr.heap.size A5 Q (mI Mt) ro w _ (HQ9.out.below HBR.out) (by simpa using HB1.out.below HBR.out HB1.out.lt) (by rw [mI_length]; exact HMT.out.2) HMR.out ((HBR.out.cell (p := ⟨gb, 0, none⟩) (by have := HB1.out.lt; have := HLT.out; show gb < wr.heap.size; omega)).trans ((HBL.out.cell (p := ⟨gb, 0, none⟩) HLT.out.2).trans HG.out)) HBK.out ⟨HB1.out.lt, by have := HB1.out.lt; have := HLT.out; omega, HBR.out.size⟩ HIN.out HRO.out hlen hQl ((HB.out.trans (HBL.out.mono HBW.out)).trans (HBR.out.mono (by have := HB1.out.lt; have := HBW.out; omega))) (by have := HB1.out.lt; have := HBW.out; omega) _ _ _ _ _ _ _ _ _ _ _ _ _ _ _ _ _ _ _ _ _ _ _ _ _ _ _ _ _ _ _ _ _ _ _ _ _ _ _ _ _ _ _ _ _ _ _ _ _ _ _ _ _ _ _ _ _ _ _ _ _ _ _ _ _ _ _ _ _ _ _ _ _ _ _ _ _ _ _ _ _ _ _ _ _ _ _ _ _ _ _ _ _ _ _ _ _ _ _ _ _ _ _ _ _ _ _ _ _ _ _ _ _ _ _ _ _ _ _ _ _ _ _ _ _ _ _ _ _ _ _ _ _ _ _ _ _ _ _ _ _ _ _ _ _ _ _ _ _ _ _ _ _ _ _ _ _ _ _ _ _ _ _ _ _ _ _ _ _ _ _ _ _ _ _ _ _ _ _ _ _ _ _ _ _ _ _ _ _ _ _ _ _ _ _ _ (by assumption) _ (by assumption)
end Go.Proofs.Ytelcofkjpkdjiaa
/-
  The reference's Parts: marks begun; the function. (Printed by refpgen.py.) Written by an AI agent.
-/
namespace Go.Proofs.Ytelcofkjpkdjiaa
open Go.RowKit

/-- the marks while they are begun -/
def fillM (F i : Nat) : List Int := (List.range F).map fun y => if y < i then (y : Int) else 0
theorem fillM_length (F i : Nat) : (fillM F i).length = F := by simp [fillM]
theorem fillM_set {F i : Nat} (_h : i < F) : (fillM F i).set i (i : Int) = fillM F (i + 1) := by
  unfold fillM
  refine map_range_set _ _ _ _ _ (if_pos (Nat.lt_succ_self _)) fun x hx => ?_
  by_cases h : x < i
  · rw [if_pos h, if_pos (by omega)]
  · rw [if_neg h, if_neg (by omega)]
theorem fillM_zero (F : Nat) : (intCells (fillM F 0)).toArray ++ #[] = Array.replicate F (.int .i64 0) := by
  have : fillM F 0 = List.replicate F 0 := List.eq_replicate_iff.2 ⟨by simp [fillM], fun b hb => by
    obtain ⟨y, _, rfl⟩ := List.mem_map.1 hb
    exact if_neg (Nat.not_lt_zero _)⟩
  rw [this]
  simp [intCells]
theorem fillM_all (F : Nat) : fillM F F = mI (List.range F) := by
  unfold fillM mI
  exact List.map_congr_left fun y hy => if_pos (List.mem_range.1 hy)
set_option maxRecDepth 100000 in
set_option maxHeartbeats 4000000 in
theorem refFill (gb gm F N c5 Bq : Nat) (A5 : Option Addr) (Q : List Quad) (ro : Nat → Nat) (w wc : World) (hQ : Cells wc Bq A5 (qCells Q)) (hM : Blk wc gm 3 (Array.replicate F (.int .i64 0))) (hG : wc.cell? ⟨gb, 0, none⟩ = some (.int .i64 N)) (hlt : Bq ≤ gm ∧ gb < gm) (hIn : ∀ q ∈ Q, q.2.2.1 < F ∧ q.2.1 < N) (hro : ro = roH F (Q.filter hiQ)) (hlen : F + N ≤ 1000) (hQl : Q.length ≤ 1000) (hB : Below w.heap.size w wc) (hBw : w.heap.size ≤ gm) (u0 u1 u3 u4 u8 u9 u10 u11 u12 u13 u14 u15 u16 u17 u18 u19 u20 u21 u22 u23 u24 u25 u26 u27 u28 u29 u30 u31 u32 u33 u34 u35 u36 u37 u38 u39 u40 u41 u42 u43 u44 u45 u46 u47 u48 u49 u50 u51 u52 u53 u54 u55 u56 u57 u58 u59 u60 u61 u62 u63 u64 u65 u66 u67 u68 u69 u70 u71 u72 u73 u74 u75 u76 u77 u78 u79 u80 u81 u82 u83 u84 u85 u86 u87 u88 u89 u90 u91 u92 u93 u94 u95 u96 u97 u98 u99 u100 u101 u102 u103 u104 u105 u106 u107 u108 u109 u110 u111 u112 u113 u114 u115 u116 u117 u118 u119 u120 u121 u122 u123 u124 u125 u126 u127 u128 u129 u130 u131 u132 u133 u134 u135 u136 u137 u138 u139 u140 u141 u142 u143 u144 u145 u146 u147 u148 u149 u150 u151 u152 u153 u154 u155 u156 u157 u158 u159 u160 u161 u162 u163 u164 u165 u166 u167 u168 u169 u170 u171 u172 u173 u174 u175 u176 u177 u178 u179 u180 u181 u182 u183 u184 u185 u186 u187 u188 u189 u190 u191 u192 u193 u194 u195 u196 u197 u198 u199 : Value) (K : Act → World → Prop) (hK : ∀ a0 w0, Code.wp Try.prog (sndC (restC 4 ((Try.f26.body).getD .skip))) (bodyPost Try.prog Try.f26 (RPartsQ Q ro F N w)) a0 w0 → K a0 w0) (K4 : Act → World → Prop) (hK4 : ∀ a0 w0, Code.wp Try.prog (sndC (fstC (restC 4 ((Try.f26.body).getD .skip)))) (Exit.then K (bodyPost Try.prog Try.f26 (RPartsQ Q ro F N w))) a0 w0 → K4 a0 w0) : Code.wp Try.prog (fstC (fstC (restC 4 ((Try.f26.body).getD .skip)))) (Exit.then K4 (Exit.then K (bodyPost Try.prog Try.f26 (RPartsQ Q ro F N w)))) ⟨#[u0, u1, .pointer (some ⟨gb, 0, none⟩), u3, u4, .slice A5 Q.length c5, .int .i64 F, .slice (some ⟨gm, 0, none⟩) F F, u8, u9, u10, u11, u12, u13, u14, u15, u16, u17, u18, u19, u20, u21, u22, u23, u24, u25, u26, u27, u28, u29, u30, u31, u32, u33, u34, u35, u36, u37, u38, u39, u40, u41, u42, u43, u44, u45, u46, u47, u48, u49, u50, u51, u52, u53, u54, u55, u56, u57, u58, u59, u60, u61, u62, u63, u64, u65, u66, u67, u68, u69, u70, u71, u72, u73, u74, u75, u76, u77, u78, u79, u80, u81, u82, u83, u84, u85, u86, u87, u88, u89, u90, u91, u92, u93, u94, u95, u96, u97, u98, u99, u100, u101, u102, u103, u104, u105, u106, u107, u108, u109, u110, u111, u112, u113, u114, u115, u116, u117, u118, u119, u120, u121, u122, u123, u124, u125, u126, u127, u128, u129, u130, u131, u132, u133, u134, u135, u136, u137, u138, u139, u140, u141, u142, u143, u144, u145, u146, u147, u148, u149, u150, u151, u152, u153, u154, u155, u156, u157, u158, u159, u160, u161, u162, u163, u164, u165, u166, u167, u168, u169, u170, u171, u172, u173, u174, u175, u176, u177, u178, u179, u180, u181, u182, u183, u184, u185, u186, u187, u188, u189, u190, u191, u192, u193, u194, u195, u196, u197, u198, u199], []⟩ wc := by
  conv => arg 2; whnf
  conv at hK => intro a0 w0; arg 1; arg 2; whnf
  conv at hK4 => intro a0 w0; arg 1; arg 2; whnf
  have HQ := Lib.hid hQ
  have HM := Lib.hid (show Blk wc gm 3 ((intCells (fillM F 0)).toArray ++ #[]) by rw [fillM_zero]; exact hM)
  have HG := Lib.hid hG
  have HLT := Lib.hid hlt
  have HIN := Lib.hid hIn
  have HRO := Lib.hid hro
  have HB := Lib.hid hB
  have HBW := Lib.hid hBw
  clear hQ hM hG hlt hIn hro hB hBw
  go_wp2_with fail
  go_loopg [8] F (fun k s8 wr => ∃ (i : Nat), s8 = .int .i64 i ∧ i ≤ F ∧ k = F - i ∧ Blk wr gm 3 ((intCells (fillM F i)).toArray ++ #[]) ∧ Below gm wc wr)
  case atStart => exact ⟨0, rfl, Nat.zero_le _, rfl, HM.out, Below.refl _ _⟩
  case round =>
    obtain ⟨i, rfl, hi, hk, hb, hbl⟩ := hrel
    have Hk := Lib.hid hk
    have HB1 := Lib.hid hb
    have HBL := Lib.hid hbl
    clear hk hb hbl
    by_cases hil : i < F
    · have hil' : (i : Int) < F := by omega
      have hl : i < (fillM F i).length := by rw [fillM_length]; exact hil
      have z1 := HB1.out.intR hl
      have f1 := HB1.out.frozen i
      have HB2 := Lib.hid (show Blk (wr.setCell ⟨gm, i, none⟩ (.int .i64 (i : Nat))) gm 3 ((intCells (fillM F (i + 1))).toArray ++ #[]) by
        rw [← fillM_set hil]
        exact HB1.out.setIntR i _ hl)
      have HBL2 := Lib.hid (HBL.out.trans ((But.set_ wr (show gm ∈ [gm] by simp) i (.int .i64 (i : Nat))).below (Nat.le_of_lt HB1.out.lt) (fun k hk => by have h9 : k = gm := (by simpa using hk); omega)))
      clear hl
      go_wp2_with fail
      go_roundg (F - (i + 1))
      case measure => rw [Hk.out]; omega
      case rel => exact ⟨i + 1, by go_num, by omega, rfl, HB2.out, HBL2.out⟩
    · have hie : i = F := by omega
      have hil' : ¬ (i : Int) < F := by omega
      have HMF := Lib.hid (show Blk wr gm 3 ((intCells (mI (List.range F))).toArray ++ #[]) by
        have := HB1.out
        rw [hie, fillM_all] at this
        exact this)
      clear hie hil hi HB1
      go_upto_region 8 with fail
      exact refMark gb gm F N c5 Bq A5 Q ro w wr (cells_lowA HQ.out (HBL.out.mono HLT.out.1)) HMF.out ((HBL.out.cell (p := ⟨gb, 0, none⟩) HLT.out.2).trans HG.out) HLT.out HIN.out HRO.out hlen hQl (HB.out.trans (HBL.out.mono HBW.out)) HBW.out _ _ _ _ _ _ _ _ _ _ _ _ _ _ _ _ _ _ _ _ _ _ _ _ _ _ _ _ _ _ _ _ _ _ _ _ _ _ _ _ _ _ _ _ _ _ _ _ _ _ _ _ _ _ _ _ _ _ _ _ _ _ _ _ _ _ _ _ _ _ _ _ _ _ _ _ _ _ _ _ _ _ _ _ _ _ _ _ _ _ _ _ _ _ _ _ _ _ _ _ _ _ _ _ _ _ _ _ _ _ _ _ _ _ _ _ _ _ _ _ _ _ _ _ _ _ _ _ _ _ _ _ _ _ _ _ _ _ _ _ _ _ _ _ _ _ _ _ _ _ _ _ _ _ _ _ _ _ _ _ _ _ _ _ _ _ _ _ _ _ _ _ _ _ _ _ _ _ _ _ _ _ _ _ _ _ _ _ _ _ _ _ _ _ _ _ _ (by assumption) _ (by assumption)
set_option maxRecDepth 100000 in
set_option maxHeartbeats 4000000 in
theorem refParts_any (n : Int) (A C : Option Addr) (cap ccap : Nat) (es : List (Int × Int)) (rs : List (List Int)) (w : World) (hes : Cells w w.heap.size A (edgeCells es)) (hrs : RowsAt w w.heap.size C rs) (hr1 : rs.length ≤ 1000) (hr2 : ∀ l ∈ rs, l.length ≤ 1000) (hf : faskB n es rs = true) :
    Calls Try.prog 26 #[.agg #[.int .i64 n, .slice A es.length cap], .slice C rs.length ccap] w (RPartsQ (angR n es rs) (roH (facesOf n es rs).length ((angR n es rs).filter hiQ)) (facesOf n es rs).length rs.length w) := by
  have S1 := Lib.hid (SG.start n cap hes hrs)
  have HR2 := Lib.hid hr2
  clear hes hrs hr2
  have hA := fask_ask hf
  have hP := ask_right hA
  have hn : n = (rs.length : Int) := hP.len.symm
  subst hn
  have hm := may_parts hP.may
  have hfl := faces_le hP
  have hFl : (facesOf (rs.length : Int) es rs).length ≤ 1000 := by omega
  have HL := Lib.hid (show (facesOf (rs.length : Int) es rs).length + rs.length ≤ 1000 ∧ (angR (rs.length : Int) es rs).length ≤ 1000 by
    rw [angR_length hA]
    omega)
  have HIN := Lib.hid (angR_in hA)
  have HAL := Lib.hid (show angL (rs.length : Int) es rs = angR (rs.length : Int) es rs by unfold angR; rw [if_pos hA])
  have HP := Lib.hid hP
  clear hm hfl hA hP hf
  go_enter Try.func26, Try.ntmps26
  go_upto_region 1 with fail
  generalize w.alloc (.cells #[.int .i64 (rs.length : Int), .slice A es.length cap] 24) = w1 at *
  have g0 := S1.out.g0
  have g1 := S1.out.g1
  go_wp2_with fail
  refine (refAngs_any (rs.length : Int) A C cap ccap es rs w1 S1.out.es S1.out.rs hr1 HR2.out HP.out).mono ?_
  rintro e w2 ⟨A5, c5, rfl, hb2, hc2, _⟩
  rw [HAL.out] at hc2
  rw [HAL.out]
  have S2 := Lib.hid (S1.out.next hb2)
  have HC2 := Lib.hid hc2
  have g0 := S2.out.g0
  have g1 := S2.out.g1
  clear hb2 S1 hc2
  go_wp2_with fail
  refine (refFaces_any (rs.length : Int) A C cap ccap es rs w2 S2.out.es S2.out.rs hr1 HR2.out HP.out).mono ?_
  rintro e w3 ⟨A6, c6, rfl, hb3, _⟩
  have S3 := Lib.hid (S2.out.next hb3)
  have HC3 := Lib.hid ((HC2.out.below hb3).more hb3.size)
  clear hb3 S2 g0 g1
  have hmk := fun W => run_make1 elemInt rfl (facesOf (rs.length : Int) es rs).length (by omega) (by omega) W
  have HBM := Lib.hid (Blk.new w3 3 (Array.replicate (facesOf (rs.length : Int) es rs).length (.int .i64 0)))
  have hbF := (Below.refl w3.heap.size w3).alloc (Nat.le_refl _) (.cells (Array.replicate (facesOf (rs.length : Int) es rs).length (.int .i64 0)) 3)
  have HBF := Lib.hid hbF
  clear hbF
  go_upto_region 4 with fail
  exact refFill w.heap.size w3.heap.size (facesOf (rs.length : Int) es rs).length rs.length c5 w3.heap.size A5 (angR (rs.length : Int) es rs) _ w _ (HC3.out.below HBF.out) HBM.out ((HBF.out.cell (p := ⟨w.heap.size, 0, none⟩) S3.out.lt).trans S3.out.g0) ⟨Nat.le_refl _, S3.out.lt⟩ HIN.out rfl HL.out.1 HL.out.2 (S3.out.below.trans (HBF.out.mono (Nat.le_of_lt S3.out.lt))) (Nat.le_of_lt S3.out.lt) _ _ _ _ _ _ _ _ _ _ _ _ _ _ _ _ _ _ _ _ _ _ _ _ _ _ _ _ _ _ _ _ _ _ _ _ _ _ _ _ _ _ _ _ _ _ _ _ _ _ _ _ _ _ _ _ _ _ _ _ _ _ _ _ _ _ _ _ _ _ _ _ _ _ _ _ _ _ _ _ _ _ _ _ _ _ _ _ _ _ _ _ _ _ _ _ _ _ _ _ _ _ _ _ _ _ _ _ _ _ _ _ _ _ _ _ _ _ _ _ _ _ _ _ _ _ _ _ _ _ _ _ _ _ _ _ _ _ _ _ _ _ _ _ _ _ _ _ _ _ _ _ _ _ _ _ _ _ _ _ _ _ _ _ _ _ _ _ _ _ _ _ _ _ _ _ _ _ _ _ _ _ _ _ _ _ _ _ _ _ _ _ _ _ _ _ _ (by assumption) _ (by assumption)
end Go.Proofs.Ytelcofkjpkdjiaa
