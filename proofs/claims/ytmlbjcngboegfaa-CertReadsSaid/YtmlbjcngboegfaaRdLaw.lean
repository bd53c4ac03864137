/-
  The reference's Decode in plain Lean: what it reads, and that it is what the program's Decode tells. Written by an AI agent.
-/
import Derived.Test.YtmlbjcngboegfaaRefQ
namespace Go.Proofs.Ytmlbjcngboegfaa

/-- a number as the reference reads it -/
def nGetL : Nat → Nat → Int → CS → Int × CS
  | 0, _, _, s => (0, ⟨s.inn, s.out, true⟩)
  | m + 1, k, u, s => if (rNext s).1 < 128 then (unzz (u + (rNext s).1 % 128 * 128 ^ k), if 0 < k ∧ (rNext s).1 = 0 then ⟨(rNext s).2.inn, (rNext s).2.out, true⟩ else (rNext s).2) else nGetL m (k + 1) (u + (rNext s).1 % 128 * 128 ^ k) (rNext s).2
def nGet (s : CS) : Int × CS := nGetL 4 0 0 s
def nPt (s : CS) : (Int × Int) × CS := (((nGet s).1, (nGet (nGet s).2).1), (nGet (nGet s).2).2)
def nInts : CS → List Int × CS := rList nGet
def nRows : CS → List (List Int) × CS := rList nInts
def nPts : CS → List (Int × Int) × CS := rList nPt
def nLines : CS → List (List (Int × Int)) × CS := rList nPts

theorem rNext_bad {s : CS} (h : s.bad = true) : (rNext s).2.bad = true := rNext_bm s h
theorem rNext_good {s : CS} (h : (rNext s).2.bad = false) : s.bad = false ∧ s.inn = (rNext s).1 :: (rNext s).2.inn := by
  obtain ⟨i, o, f⟩ := s
  cases i with
  | nil => cases h
  | cons b r => exact ⟨h, rfl⟩
theorem nGetL_bad : ∀ m k u s, s.bad = true → (nGetL m k u s).2.bad = true
  | 0, _, _, _, _ => rfl
  | m + 1, k, u, s, h => by
    have h1 := rNext_bad h
    rw [nGetL]
    split
    · simp only
      split
      · rfl
      · exact h1
    · exact nGetL_bad m _ _ _ h1
theorem nGetL_sound : ∀ m k u s, Bytes s.inn → (nGetL m k u s).2.bad = false → ∃ v : Nat, v < 128 ^ m ∧ (0 < k → 0 < v) ∧ s.inn = vb v ++ (nGetL m k u s).2.inn ∧ (nGetL m k u s).1 = unzz (u + v * 128 ^ k)
  | 0, _, _, _, _, h => by cases h
  | m + 1, k, u, s, hb, h => by
    rw [nGetL] at h ⊢
    have hn : (rNext s).2.bad = false := by
      cases hc : (rNext s).2.bad with
      | false => rfl
      | true =>
        split at h
        · simp only at h
          split at h
          · cases h
          · rw [hc] at h; cases h
        · rw [nGetL_bad _ _ _ _ hc] at h; cases h
    obtain ⟨_, hi⟩ := rNext_good hn
    have hb2 : Bytes (rNext s).2.inn := fun y hy => hb y (by rw [hi]; exact List.mem_cons_of_mem _ hy)
    obtain ⟨g0, g1⟩ := hb (rNext s).1 (by rw [hi]; exact List.mem_cons_self ..)
    generalize (rNext s).1 = c at *
    generalize (rNext s).2 = s2 at *
    by_cases hc : c < 128
    · rw [if_pos hc] at h ⊢
      simp only at h ⊢
      by_cases hz : 0 < k ∧ c = 0
      · rw [if_pos hz] at h; cases h
      rw [if_neg hz] at h ⊢
      have e : ((c.toNat : Nat) : Int) = c := Int.toNat_of_nonneg g0
      refine ⟨c.toNat, ?_, fun hk => ?_, ?_, ?_⟩
      · have : 128 ^ m ≥ 1 := Nat.one_le_pow _ _ (by decide)
        rw [Nat.pow_succ]; omega
      · have : c ≠ 0 := fun e => hz ⟨hk, e⟩
        omega
      · rw [vb_lt (by omega), hi, e]; rfl
      · rw [e, Int.emod_eq_of_lt g0 hc]
    · rw [if_neg hc] at h ⊢
      obtain ⟨v, h1, h2, h3, h4⟩ := nGetL_sound m (k + 1) (u + c % 128 * 128 ^ k) s2 hb2 h
      have hv := h2 (by omega)
      have e : ((c.toNat : Nat) : Int) = c := Int.toNat_of_nonneg g0
      refine ⟨(c.toNat - 128) + 128 * v, ?_, fun _ => by omega, ?_, ?_⟩
      · rw [Nat.pow_succ]; omega
      · rw [vb_ge (by omega), hi, h3]
        have e1 : (c.toNat - 128 + 128 * v) % 128 + 128 = c.toNat := by omega
        have e2 : (c.toNat - 128 + 128 * v) / 128 = v := by omega
        rw [e1, e2, e]
        rfl
      · rw [h4, pow128]
        have e3 : ((c.toNat - 128 + 128 * v : Nat) : Int) = c % 128 + 128 * v := by omega
        rw [e3, Int.add_mul, Int.mul_comm 128 (v : Int), Int.mul_assoc, Int.add_assoc]
theorem nGetL_full : ∀ m k u (v : Nat) t s, v < 128 ^ m → (0 < k → 0 < v) → 0 < m → s.inn = vb v ++ t → s.bad = false → (nGetL m k u s).1 = unzz (u + v * 128 ^ k) ∧ (nGetL m k u s).2.inn = t ∧ (nGetL m k u s).2.bad = false
  | 0, _, _, _, _, _, _, _, h, _, _ => absurd h (by decide)
  | m + 1, k, u, v, t, s, h1, h2, _, hi, hs => by
    obtain ⟨i, o, f⟩ := s
    simp only at hi hs
    subst hi hs
    by_cases hv : v < 128
    · rw [vb_lt hv, List.cons_append, List.nil_append, nGetL]
      rw [rNext_cons]
      simp only
      rw [if_pos (by omega)]
      have hz : ¬ (0 < k ∧ (v : Int) = 0) := fun h => by have := h2 h.1; omega
      simp only [if_neg hz]
      rw [Int.emod_eq_of_lt (by omega) (by omega)]
      refine ⟨?_, ?_, ?_⟩ <;> first | rfl | trivial
    · rw [vb_ge hv, List.cons_append, nGetL, rNext_cons]
      simp only
      rw [if_neg (by omega)]
      rw [Nat.pow_succ] at h1
      have hm : 0 < m := by
        cases m with
        | zero => simp at h1; omega
        | succ m => omega
      obtain ⟨i1, i2, i3⟩ := nGetL_full m (k + 1) (u + ((v % 128 + 128 : Nat) : Int) % 128 * 128 ^ k) (v / 128) t ⟨vb (v / 128) ++ t, o, false⟩ (by omega) (fun _ => by omega) hm rfl rfl
      refine ⟨?_, i2, i3⟩
      rw [i1, pow128]
      congr 1
      have e1 : ((v % 128 + 128 : Nat) : Int) % 128 = ((v % 128 : Nat) : Int) := by omega
      rw [e1]
      have e2 : (v : Int) = ((v % 128 : Nat) : Int) + ((v / 128 : Nat) : Int) * 128 := by omega
      conv => rhs; rw [e2]
      rw [Int.add_mul, Int.mul_assoc, Int.add_assoc]

/-- a reader, and what the reference writes: it reads just what is written -/
def RD {α : Type} (r : CS → α × CS) (e : α → Option (List Int)) : Prop :=
  (∀ s, s.bad = true → (r s).2.bad = true) ∧
  (∀ s, Bytes s.inn → (r s).2.bad = false → ∃ bs, e (r s).1 = some bs ∧ s.inn = bs ++ (r s).2.inn) ∧
  ∀ x bs t s, e x = some bs → s.bad = false → s.inn = bs ++ t → (r s).1 = x ∧ (r s).2.inn = t ∧ (r s).2.bad = false
theorem zz_unzz {v : Nat} (h : v < 268435456) : zz (unzz v) = v ∧ ¬ (unzz v < -134217728 ∨ 134217728 ≤ unzz v) := by
  unfold zz unzz
  split <;> constructor <;> (try split) <;> omega
theorem nGet_rd : RD nGet numO := by
  refine ⟨fun s h => nGetL_bad _ _ _ _ h, fun s hb h => ?_, fun x bs t s hx hs hi => ?_⟩
  · obtain ⟨v, h1, _, h3, h4⟩ := nGetL_sound 4 0 0 s hb h
    have e : (0 : Int) + v * 128 ^ 0 = v := by simp
    rw [e] at h4
    obtain ⟨z1, z2⟩ := zz_unzz (v := v) h1
    refine ⟨vb v, ?_, h3⟩
    show numO (nGetL 4 0 0 s).1 = _
    rw [h4]
    unfold numO
    rw [if_neg z2, z1]
  · unfold numO at hx
    split at hx
    · cases hx
    · rename_i hn
      have hx : vb (zz x) = bs := Option.some.inj hx
      subst hx
      obtain ⟨i1, i2, i3⟩ := nGetL_full 4 0 0 (zz x) t s (zz_lt hn) (fun h => absurd h (by decide)) (by decide) hi hs
      refine ⟨?_, i2, i3⟩
      show (nGetL 4 0 0 s).1 = x
      rw [i1]
      have e : (0 : Int) + zz x * 128 ^ 0 = zz x := by simp
      rw [e, unzz_zz]
section
variable {α β : Type} {r : CS → α × CS} {e : α → Option (List Int)} {v : CS → β × CS} {f : β → Option (List Int)}
theorem RD.bytes (h : RD r e) {s : CS} (hb : Bytes s.inn) (hs : (r s).2.bad = false) : Bytes (r s).2.inn := by
  obtain ⟨bs, _, hi⟩ := h.2.1 s hb hs
  exact fun y hy => hb y (by rw [hi]; exact List.mem_append_right _ hy)
theorem RD.two (h : RD r e) (g : RD v f) : (∀ s, s.bad = true → (v (r s).2).2.bad = true) ∧
    (∀ s, Bytes s.inn → (v (r s).2).2.bad = false → ∃ bs, ((e (r s).1).bind fun a => (f (v (r s).2).1).map (a ++ ·)) = some bs ∧ s.inn = bs ++ (v (r s).2).2.inn) ∧
    ∀ x y bs t s, ((e x).bind fun a => (f y).map (a ++ ·)) = some bs → s.bad = false → s.inn = bs ++ t → (r s).1 = x ∧ (v (r s).2).1 = y ∧ (v (r s).2).2.inn = t ∧ (v (r s).2).2.bad = false := by
  refine ⟨fun s hs => g.1 _ (h.1 s hs), fun s hb hs => ?_, fun x y bs t s hx hs hi => ?_⟩
  · have h1 : (r s).2.bad = false := by
      cases hh : (r s).2.bad with
      | false => rfl
      | true => rw [g.1 _ hh] at hs; cases hs
    obtain ⟨a, ha, ia⟩ := h.2.1 s hb h1
    obtain ⟨b, hb', ib⟩ := g.2.1 _ (h.bytes hb h1) hs
    exact ⟨a ++ b, by rw [ha, hb']; rfl, by rw [ia, ib, List.append_assoc]⟩
  · cases ha : e x with
    | none => rw [ha] at hx; cases hx
    | some a =>
      cases hb' : f y with
      | none => rw [ha, hb'] at hx; cases hx
      | some b =>
        rw [ha, hb'] at hx
        have hx : a ++ b = bs := Option.some.inj hx
        subst hx
        rw [List.append_assoc] at hi
        obtain ⟨i1, i2, i3⟩ := h.2.2 x a (b ++ t) s ha hs hi
        obtain ⟨j1, j2, j3⟩ := g.2.2 y b t _ hb' i3 i2
        exact ⟨i1, j1, j2, j3⟩
theorem rLoop_sound (h : RD r e) : ∀ k s, Bytes s.inn → (rLoop r k s).2.bad = false → (rLoop r k s).1.length = k ∧ ∃ bs, goO e (rLoop r k s).1 = some bs ∧ s.inn = bs ++ (rLoop r k s).2.inn
  | 0, s, _, _ => ⟨rfl, [], rfl, rfl⟩
  | k + 1, s, hb, hs => by
    cases hsb : s.bad with
    | true => rw [rLoop_stop _ hsb, hsb] at hs; cases hs
    | false =>
      rw [rLoop_go hsb] at hs ⊢
      simp only at hs ⊢
      have h1 : (r s).2.bad = false := by
        cases hh : (r s).2.bad with
        | false => rfl
        | true => rw [rLoop_bm k _ hh] at hs; cases hs
      obtain ⟨a, ha, ia⟩ := h.2.1 s hb h1
      obtain ⟨l1, b, hb', ib⟩ := rLoop_sound h k _ (h.bytes hb h1) hs
      refine ⟨by rw [List.length_cons, l1], a ++ b, by rw [goO, ha, hb']; rfl, ?_⟩
      rw [List.append_assoc, ← ib]
      exact ia
theorem rLoop_full (h : RD r e) : ∀ (l : List α) bs t s, goO e l = some bs → s.bad = false → s.inn = bs ++ t → (rLoop r l.length s).1 = l ∧ (rLoop r l.length s).2.inn = t ∧ (rLoop r l.length s).2.bad = false
  | [], bs, t, s, hg, hs, hi => by
    have hg : [] = bs := Option.some.inj hg
    subst hg
    exact ⟨rfl, hi, hs⟩
  | x :: l, bs, t, s, hg, hs, hi => by
    rw [goO] at hg
    cases ha : e x with
    | none => rw [ha] at hg; cases hg
    | some a =>
      cases hb' : goO e l with
      | none => rw [ha, hb'] at hg; cases hg
      | some b =>
        rw [ha, hb'] at hg
        have hg : a ++ b = bs := Option.some.inj hg
        subst hg
        rw [List.append_assoc] at hi
        obtain ⟨i1, i2, i3⟩ := h.2.2 x a (b ++ t) s ha hs hi
        obtain ⟨j1, j2, j3⟩ := rLoop_full h l b t _ hb' i3 i2
        rw [List.length_cons, rLoop_go hs]
        exact ⟨by simp only; rw [i1, j1], j2, j3⟩
theorem rList_rd (h : RD r e) : RD (rList r) (listO e) := by
  refine ⟨fun s hs => rList_bm s hs, fun s hb hs => ?_, fun l bs t s hx hs hi => ?_⟩
  · unfold rList at hs ⊢
    have h1 : (rCount s).2.bad = false := by
      cases hh : (rCount s).2.bad with
      | false => rfl
      | true => rw [rLoop_bm _ _ hh] at hs; cases hs
    have h128 : ¬ 128 < (rNext s).1 := fun hh => by unfold rCount at h1; rw [if_pos hh] at h1; cases h1
    have hc : rCount s = ((rNext s).1.toNat, ⟨(rNext s).2.inn, (rNext s).2.out ++ [(rNext s).1], (rNext s).2.bad⟩) := by unfold rCount; rw [if_neg h128]
    rw [hc] at h1 hs ⊢
    simp only at h1 hs ⊢
    obtain ⟨_, hi⟩ := rNext_good h1
    have hb2 : Bytes (rNext s).2.inn := fun y hy => hb y (by rw [hi]; exact List.mem_cons_of_mem _ hy)
    have g0 := (hb (rNext s).1 (by rw [hi]; exact List.mem_cons_self ..)).1
    obtain ⟨l1, p, hp, ip⟩ := rLoop_sound h _ ⟨(rNext s).2.inn, (rNext s).2.out ++ [(rNext s).1], (rNext s).2.bad⟩ hb2 hs
    refine ⟨(rNext s).1 :: p, ?_, ?_⟩
    · unfold listO
      rw [if_neg (by rw [l1]; omega), hp, l1, Int.toNat_of_nonneg g0]
      rfl
    · rw [List.cons_append, ← ip]
      exact hi
  · unfold listO at hx
    split at hx
    · cases hx
    · rename_i hl
      cases hg : goO e l with
      | none => rw [hg] at hx; cases hx
      | some p =>
        rw [hg] at hx
        have hx : (l.length : Int) :: p = bs := Option.some.inj hx
        subst hx
        obtain ⟨i, o, b⟩ := s
        simp only at hs hi
        subst hs hi
        have hc : rCount ⟨(l.length : Int) :: p ++ t, o, false⟩ = (l.length, ⟨p ++ t, o ++ [(l.length : Int)], false⟩) := by
          rw [List.cons_append, rCount_cons, if_neg (by omega)]
          rfl
        unfold rList
        rw [hc]
        exact rLoop_full h l p t _ hg rfl rfl
end
theorem nPt_rd : RD nPt ptO := by
  have k := nGet_rd.two nGet_rd
  refine ⟨k.1, k.2.1, fun x bs t s hx hs hi => ?_⟩
  obtain ⟨h1, h2, h3, h4⟩ := k.2.2 x.1 x.2 bs t s hx hs hi
  exact ⟨Prod.ext h1 h2, h3, h4⟩
theorem nInts_rd : RD nInts (listO numO) := rList_rd nGet_rd
theorem nRows_rd : RD nRows (listO (listO numO)) := rList_rd nInts_rd
theorem nPts_rd : RD nPts (listO ptO) := rList_rd nPt_rd
theorem nLines_rd : RD nLines (listO (listO ptO)) := rList_rd nPts_rd

/-- what the reference reads behind the kind -/
def refRead (k : Int) (s : CS) : Crt × CS :=
  if k = 1 then (⟨k, (nInts s).1, (nRows (nInts s).2).1, [], 0, [], [], [], [], [], [], []⟩, (nRows (nInts s).2).2)
  else if k = 2 then (⟨k, [], [], (nRows s).1, (nGet (nRows s).2).1, [], [], [], [], [], [], []⟩, (nGet (nRows s).2).2)
  else if k = 3 then (⟨k, [], [], [], 0, (nPts s).1, (nLines (nPts s).2).1, [], [], [], [], []⟩, (nLines (nPts s).2).2)
  else if k = 4 then (⟨k, [], [], [], 0, [], [], (nInts s).1, (nInts (nInts s).2).1, (nInts (nInts (nInts s).2).2).1, (nInts (nInts (nInts (nInts s).2).2).2).1, []⟩, (nInts (nInts (nInts (nInts s).2).2).2).2)
  else (⟨k, [], [], [], 0, [], [], [], [], [], [], (nInts s).1⟩, (nInts s).2)
def startS (b : List Int) : CS := ⟨b, [], false⟩
/-- the reference's Decode -/
def refD (b : List Int) : Option Crt :=
  if (rNext (startS b)).1 < 1 ∨ 6 < (rNext (startS b)).1 then none
  else if (refRead (rNext (startS b)).1 (rNext (startS b)).2).2.bad = true ∨ (refRead (rNext (startS b)).1 (rNext (startS b)).2).2.inn ≠ [] then none
  else some (refRead (rNext (startS b)).1 (rNext (startS b)).2).1

theorem bad_of {x : Crt} (hk : 1 ≤ x.k ∧ x.k ≤ 6) (ho : Owns x) : refBad x = false := (owns_bad x).2 ⟨ho, hk⟩
theorem refRead_sound (k : Int) (s : CS) (hk : 1 ≤ k ∧ k ≤ 6) (hb : Bytes s.inn) (hs : (refRead k s).2.bad = false) : (refRead k s).1.k = k ∧ refBad (refRead k s).1 = false ∧ ∃ bs, refI (refRead k s).1 = some bs ∧ s.inn = bs ++ (refRead k s).2.inn := by
  unfold refRead at hs ⊢
  by_cases k1 : k = 1
  · simp only [if_pos k1] at hs ⊢
    refine ⟨trivial, bad_of hk ⟨fun _ => k1, by simp, by simp, by simp, by simp, .inr rfl⟩, ?_⟩
    unfold refI
    simp only [if_pos k1]
    exact (nInts_rd.two nRows_rd).2.1 s hb hs
  simp only [if_neg k1] at hs ⊢
  by_cases k2 : k = 2
  · simp only [if_pos k2] at hs ⊢
    refine ⟨trivial, bad_of hk ⟨by simp, fun _ => k2, by simp, by simp, by simp, .inl k2⟩, ?_⟩
    unfold refI
    simp only [if_neg k1, if_pos k2]
    exact (nRows_rd.two nGet_rd).2.1 s hb hs
  simp only [if_neg k2] at hs ⊢
  by_cases k3 : k = 3
  · simp only [if_pos k3] at hs ⊢
    refine ⟨trivial, bad_of hk ⟨by simp, by simp, fun _ => k3, by simp, by simp, .inr rfl⟩, ?_⟩
    unfold refI
    simp only [if_neg k1, if_neg k2, if_pos k3]
    exact (nPts_rd.two nLines_rd).2.1 s hb hs
  simp only [if_neg k3] at hs ⊢
  by_cases k4 : k = 4
  · simp only [if_pos k4] at hs ⊢
    refine ⟨trivial, bad_of hk ⟨by simp, by simp, by simp, fun _ => k4, by simp, .inr rfl⟩, ?_⟩
    unfold refI
    simp only [if_neg k1, if_neg k2, if_neg k3, if_pos k4]
    have hs' : (rLoop nInts 4 s).2.bad = false ∧ rLoop nInts 4 s = ([(nInts s).1, (nInts (nInts s).2).1, (nInts (nInts (nInts s).2).2).1, (nInts (nInts (nInts (nInts s).2).2).2).1], (nInts (nInts (nInts (nInts s).2).2).2).2) := by
      have b : ∀ s, s.bad = true → (nInts s).2.bad = true := nInts_rd.1
      have n3 : (nInts (nInts (nInts s).2).2).2.bad = false := by
        cases hh : (nInts (nInts (nInts s).2).2).2.bad with
        | false => rfl
        | true => rw [b _ hh] at hs; cases hs
      have n2 : (nInts (nInts s).2).2.bad = false := by
        cases hh : (nInts (nInts s).2).2.bad with
        | false => rfl
        | true => rw [b _ hh] at n3; cases n3
      have n1 : (nInts s).2.bad = false := by
        cases hh : (nInts s).2.bad with
        | false => rfl
        | true => rw [b _ hh] at n2; cases n2
      have n0 : s.bad = false := by
        cases hh : s.bad with
        | false => rfl
        | true => rw [b _ hh] at n1; cases n1
      have e : rLoop nInts 4 s = ([(nInts s).1, (nInts (nInts s).2).1, (nInts (nInts (nInts s).2).2).1, (nInts (nInts (nInts (nInts s).2).2).2).1], (nInts (nInts (nInts (nInts s).2).2).2).2) := by
        rw [rLoop_go n0, rLoop_go n1, rLoop_go n2, rLoop_go n3]
        rfl
      exact ⟨by rw [e]; exact hs, e⟩
    have key := rLoop_sound nInts_rd 4 s hb hs'.1
    rw [hs'.2] at key
    exact key.2
  simp only [if_neg k4] at hs ⊢
  refine ⟨trivial, bad_of hk ⟨by simp, by simp, by simp, by simp, fun _ => by show 5 ≤ k; omega, .inr rfl⟩, ?_⟩
  unfold refI
  simp only [if_neg k1, if_neg k2, if_neg k3, if_neg k4]
  exact nInts_rd.2.1 s hb hs
theorem refRead_full {x : Crt} {bs t : List Int} {s : CS} (ho : Owns x) (hk : 1 ≤ x.k ∧ x.k ≤ 6) (hi : refI x = some bs) (hs : s.bad = false) (hb : s.inn = bs ++ t) : (refRead x.k s).1 = x ∧ (refRead x.k s).2.inn = t ∧ (refRead x.k s).2.bad = false := by
  obtain ⟨o1, o2, o3, o4, o5, o6⟩ := ho
  unfold refRead
  unfold refI at hi
  by_cases k1 : x.k = 1
  · simp only [if_pos k1] at hi ⊢
    obtain ⟨h1, h2, h3, h4⟩ := (nInts_rd.two nRows_rd).2.2 x.ord x.outs bs t s hi hs hb
    refine ⟨Crt.ext' rfl h1 h2 ?_ ?_ ?_ ?_ ?_ ?_ ?_ ?_ ?_, h3, h4⟩
    all_goals first | exact (nonempty_of (fun h => by omega)).symm | (show (0 : Int) = x.outer; omega)
  simp only [if_neg k1] at hi ⊢
  by_cases k2 : x.k = 2
  · simp only [if_pos k2] at hi ⊢
    obtain ⟨h1, h2, h3, h4⟩ := (nRows_rd.two nGet_rd).2.2 x.turn x.outer bs t s hi hs hb
    refine ⟨Crt.ext' rfl ?_ ?_ h1 h2 ?_ ?_ ?_ ?_ ?_ ?_ ?_, h3, h4⟩
    all_goals first | exact (nonempty_of (fun h => by omega)).symm | (show (0 : Int) = x.outer; omega)
  simp only [if_neg k2] at hi ⊢
  by_cases k3 : x.k = 3
  · simp only [if_pos k3] at hi ⊢
    obtain ⟨h1, h2, h3, h4⟩ := (nPts_rd.two nLines_rd).2.2 x.pts x.lines bs t s hi hs hb
    refine ⟨Crt.ext' rfl ?_ ?_ ?_ ?_ h1 h2 ?_ ?_ ?_ ?_ ?_, h3, h4⟩
    all_goals first | exact (nonempty_of (fun h => by omega)).symm | (show (0 : Int) = x.outer; omega)
  simp only [if_neg k3] at hi ⊢
  by_cases k4 : x.k = 4
  · simp only [if_pos k4] at hi ⊢
    obtain ⟨h1, h3, h4⟩ := rLoop_full nInts_rd [x.b0, x.b1, x.b2, x.b3] bs t s hi hs hb
    have h1' : rLoop nInts 4 s = ([x.b0, x.b1, x.b2, x.b3], (rLoop nInts 4 s).2) := Prod.ext h1 rfl
    have h4' : (rLoop nInts 4 s).2.bad = false := h4
    have h3' : (rLoop nInts 4 s).2.inn = t := h3
    have b : ∀ k s, s.bad = true → (rLoop nInts k s).2.bad = true := fun k s h => rLoop_bm k s h
    rw [rLoop_go hs] at h1' h4' h3'
    have n1 : (nInts s).2.bad = false := by
      cases hh : (nInts s).2.bad with
      | false => rfl
      | true => simp only at h4'; rw [b _ _ hh] at h4'; cases h4'
    rw [rLoop_go n1] at h1' h4' h3'
    have n2 : (nInts (nInts s).2).2.bad = false := by
      cases hh : (nInts (nInts s).2).2.bad with
      | false => rfl
      | true => simp only at h4'; rw [b _ _ hh] at h4'; cases h4'
    rw [rLoop_go n2] at h1' h4' h3'
    have n3 : (nInts (nInts (nInts s).2).2).2.bad = false := by
      cases hh : (nInts (nInts (nInts s).2).2).2.bad with
      | false => rfl
      | true => simp only at h4'; rw [b _ _ hh] at h4'; cases h4'
    rw [rLoop_go n3] at h1' h4' h3'
    simp only [rLoop, Prod.mk.injEq, List.cons.injEq] at h1' h4' h3'
    obtain ⟨⟨e0, e1, e2, e3, _⟩, _⟩ := h1'
    refine ⟨Crt.ext' rfl ?_ ?_ ?_ ?_ ?_ ?_ e0 e1 e2 e3 ?_, h3', h4'⟩
    all_goals first | exact (nonempty_of (fun h => by omega)).symm | (show (0 : Int) = x.outer; omega)
  simp only [if_neg k4] at hi ⊢
  obtain ⟨h1, h3, h4⟩ := nInts_rd.2.2 x.edges bs t s hi hs hb
  refine ⟨Crt.ext' rfl ?_ ?_ ?_ ?_ ?_ ?_ ?_ ?_ ?_ ?_ h1, h3, h4⟩
  all_goals first | exact (nonempty_of (fun h => by omega)).symm | (show (0 : Int) = x.outer; omega)
theorem refD_iff {b : List Int} (hb : Bytes b) (x : Crt) : refD b = some x ↔ refE x = some b := by
  constructor
  · intro h
    unfold refD at h
    split at h
    · cases h
    rename_i hk
    split at h
    · cases h
    rename_i hs
    have h := Option.some.inj h
    have hk' : 1 ≤ (rNext (startS b)).1 ∧ (rNext (startS b)).1 ≤ 6 := by omega
    cases b with
    | nil => exact absurd hk'.1 (by decide)
    | cons c r =>
      have hs1 : (refRead c ⟨r, [], false⟩).2.bad = false := by
        cases hh : (refRead c ⟨r, [], false⟩).2.bad with
        | false => rfl
        | true => exact absurd (.inl hh) hs
      have hs2 : (refRead c ⟨r, [], false⟩).2.inn = [] := Decidable.byContradiction fun hh => hs (.inr hh)
      obtain ⟨s1, s2, bs, s3, s4⟩ := refRead_sound c ⟨r, [], false⟩ hk' (fun y hy => hb y (List.mem_cons_of_mem _ hy)) hs1
      have h : (refRead c ⟨r, [], false⟩).1 = x := h
      rw [h] at s1 s2 s3
      rw [hs2, List.append_nil] at s4
      unfold refE
      rw [if_neg (by rw [s2]; simp), s3, s1]
      show some (c :: bs) = some (c :: r)
      rw [show r = bs from s4]
  · intro h
    unfold refE at h
    split at h
    · cases h
    rename_i hbad
    have hbad : refBad x = false := by simpa using hbad
    obtain ⟨ho, hk⟩ := (owns_bad x).1 hbad
    cases hi : refI x with
    | none => rw [hi] at h; cases h
    | some i =>
      rw [hi] at h
      have h : x.k :: i = b := Option.some.inj h
      subst h
      obtain ⟨h1, h2, h3⟩ := refRead_full (t := []) (s := ⟨i, [], false⟩) ho hk hi rfl (List.append_nil _).symm
      unfold refD
      have e1 : (rNext (startS (x.k :: i))).1 = x.k := rfl
      have e2 : (rNext (startS (x.k :: i))).2 = ⟨i, [], false⟩ := rfl
      rw [e1, e2, if_neg (by omega), if_neg (by rw [h2, h3]; simp), h1]
theorem refD_decF {b : List Int} (hb : Bytes b) : refD b = decF b := by
  cases h : decF b with
  | some x => exact (refD_iff hb x).2 ((refE_encF x).trans (enc_dec h))
  | none =>
    cases h2 : refD b with
    | none => rfl
    | some y =>
      have := dec_enc ((refE_encF y).symm.trans ((refD_iff hb y).1 h2))
      rw [h] at this
      cases this
end Go.Proofs.Ytmlbjcngboegfaa
