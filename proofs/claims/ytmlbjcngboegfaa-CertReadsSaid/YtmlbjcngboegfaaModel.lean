/-
  The program's coder in plain Lean: what it writes, what it reads; that what is written is read back, and that a longer text is read as far. Conditions: none. Written by an AI agent.
-/
import Derived.Test.YtmlbjcngboegfaaMem
namespace Go.Proofs.Ytmlbjcngboegfaa

/-- the coder: bytes that are left, bytes that are written, something went wrong -/
structure CS where
  inn : List Int
  out : List Int
  bad : Bool
theorem CS.ok {s : CS} (h : s.bad = false) : s = ⟨s.inn, s.out, false⟩ := by cases s; simp_all

/-- a number without its sign -/
def zz (n : Int) : Nat := if n < 0 then (-2 * n - 1).toNat else (2 * n).toNat
/-- in groups of seven bits -/
def vb (u : Nat) : List Int := if u < 128 then [(u : Int)] else ((u % 128 + 128 : Nat) : Int) :: vb (u / 128)
theorem vb_lt {u : Nat} (h : u < 128) : vb u = [(u : Int)] := by rw [vb, if_pos h]
theorem vb_ge {u : Nat} (h : ¬ u < 128) : vb u = ((u % 128 + 128 : Nat) : Int) :: vb (u / 128) := by rw [vb, if_neg h]

def wPut (n : Int) (s : CS) : CS := if n < -134217728 ∨ 134217728 ≤ n then ⟨s.inn, s.out, true⟩ else ⟨s.inn, s.out ++ vb (zz n), s.bad⟩
def wLoop {α : Type} (each : α → CS → CS) : List α → CS → CS
  | [], s => s
  | x :: r, s => if s.bad = true then s else wLoop each r (each x s)
def wList {α : Type} (each : α → CS → CS) (l : List α) (s : CS) : CS := if 128 < l.length then ⟨s.inn, s.out, true⟩ else wLoop each l ⟨s.inn, s.out ++ [(l.length : Int)], s.bad⟩
def wInts : List Int → CS → CS := wList wPut
def wRows : List (List Int) → CS → CS := wList wInts
def wPt (p : Int × Int) (s : CS) : CS := wPut p.2 (wPut p.1 s)
def wPts : List (Int × Int) → CS → CS := wList wPt
def wLines : List (List (Int × Int)) → CS → CS := wList wPts

def rNext (s : CS) : Int × CS := match s.inn with
  | [] => (0, ⟨[], s.out, true⟩)
  | b :: r => (b, ⟨r, s.out, s.bad⟩)
def rGetL : Nat → Nat → Int → CS → Int × CS
  | 0, _, u, s => (u, s)
  | m + 1, k, u, s => if (rNext s).1 < 128 then (u + (rNext s).1 % 128 * 128 ^ k, (rNext s).2) else rGetL m (k + 1) (u + (rNext s).1 % 128 * 128 ^ k) (rNext s).2
def unzz (u : Int) : Int := if u % 2 = 1 then -((u + 1) / 2) else u / 2
def rGet (s : CS) : Int × CS := (unzz (rGetL 4 0 0 s).1, (rGetL 4 0 0 s).2)
def rCount (s : CS) : Nat × CS := if 128 < (rNext s).1 then (0, ⟨(rNext s).2.inn, (rNext s).2.out, true⟩) else ((rNext s).1.toNat, ⟨(rNext s).2.inn, (rNext s).2.out ++ [(rNext s).1], (rNext s).2.bad⟩)
def rLoop {α : Type} (each : CS → α × CS) : Nat → CS → List α × CS
  | 0, s => ([], s)
  | k + 1, s => if s.bad = true then ([], s) else ((each s).1 :: (rLoop each k (each s).2).1, (rLoop each k (each s).2).2)
def rList {α : Type} (each : CS → α × CS) (s : CS) : List α × CS := rLoop each (rCount s).1 (rCount s).2
def rInts : CS → List Int × CS := rList rGet
def rRows : CS → List (List Int) × CS := rList rInts
def rPt (s : CS) : (Int × Int) × CS := (((rGet s).1, (rGet (rGet s).2).1), (rGet (rGet s).2).2)
def rPts : CS → List (Int × Int) × CS := rList rPt
def rLines : CS → List (List (Int × Int)) × CS := rList rPts

theorem rNext_cons (b : Int) (r o : List Int) (f : Bool) : rNext ⟨b :: r, o, f⟩ = (b, ⟨r, o, f⟩) := rfl
theorem rNext_nil (o : List Int) (f : Bool) : rNext ⟨[], o, f⟩ = (0, ⟨[], o, true⟩) := rfl
theorem rGetL_cons (m k : Nat) (u b : Int) (r o : List Int) (f : Bool) : rGetL (m + 1) k u ⟨b :: r, o, f⟩ = if b < 128 then (u + b % 128 * 128 ^ k, ⟨r, o, f⟩) else rGetL m (k + 1) (u + b % 128 * 128 ^ k) ⟨r, o, f⟩ := rfl
theorem rGetL_nil (m k : Nat) (u : Int) (o : List Int) (f : Bool) : rGetL (m + 1) k u ⟨[], o, f⟩ = (u + 0 % 128 * 128 ^ k, ⟨[], o, true⟩) := rfl
theorem rCount_cons (b : Int) (r o : List Int) (f : Bool) : rCount ⟨b :: r, o, f⟩ = if 128 < b then (0, ⟨r, o, true⟩) else (b.toNat, ⟨r, o ++ [b], f⟩) := rfl
theorem rCount_nil (o : List Int) (f : Bool) : rCount ⟨[], o, f⟩ = (0, ⟨[], o ++ [0], true⟩) := rfl
/-- what is written is read back -/
def RT {α : Type} (w : α → CS → CS) (r : CS → α × CS) : Prop :=
  ∀ x s, (w x s).bad = false → s.bad = false ∧ ∃ bs, w x s = ⟨s.inn, s.out ++ bs, false⟩ ∧ ∀ t o, ∃ o', r ⟨bs ++ t, o, false⟩ = (x, ⟨t, o', false⟩)
/-- a longer text is read as far -/
def EX {α : Type} (r : CS → α × CS) : Prop := ∀ i o, (r ⟨i, o, false⟩).2.bad = false → ∀ t, r ⟨i ++ t, o, false⟩ = ((r ⟨i, o, false⟩).1, ⟨(r ⟨i, o, false⟩).2.inn ++ t, (r ⟨i, o, false⟩).2.out, false⟩)
/-- what went wrong stays wrong -/
def BM {α : Type} (r : CS → α × CS) : Prop := ∀ s, s.bad = true → (r s).2.bad = true

theorem rNext_bm : BM rNext := fun s h => by
  unfold rNext; split
  · rfl
  · exact h
theorem rNext_ex : EX rNext := fun i o h t => by
  cases i with
  | nil => cases h
  | cons b r => rfl
theorem rGetL_bm : ∀ m k u s, s.bad = true → (rGetL m k u s).2.bad = true
  | 0, _, _, _, h => h
  | m + 1, k, u, s, h => by
    unfold rGetL
    split
    · exact rNext_bm s h
    · exact rGetL_bm m _ _ _ (rNext_bm s h)
theorem rGetL_ex : ∀ m k u i o, (rGetL m k u ⟨i, o, false⟩).2.bad = false → ∀ t, rGetL m k u ⟨i ++ t, o, false⟩ = ((rGetL m k u ⟨i, o, false⟩).1, ⟨(rGetL m k u ⟨i, o, false⟩).2.inn ++ t, (rGetL m k u ⟨i, o, false⟩).2.out, false⟩)
  | 0, _, _, _, _, _, _ => rfl
  | m + 1, k, u, [], o, h, t => by
    rw [rGetL_nil] at h
    cases h
  | m + 1, k, u, b :: i, o, h, t => by
    rw [List.cons_append, rGetL_cons]
    rw [rGetL_cons] at h ⊢
    by_cases hb : b < 128
    · simp only [if_pos hb]
    · simp only [if_neg hb] at h ⊢
      exact rGetL_ex m _ _ _ _ h t
theorem rGet_bm : BM rGet := fun s h => rGetL_bm 4 0 0 s h
theorem rGet_ex : EX rGet := fun i o h t => by
  have := rGetL_ex 4 0 0 i o h t
  unfold rGet
  rw [this]
theorem rCount_bm : BM rCount := fun s h => by
  unfold rCount; split
  · rfl
  · exact rNext_bm s h
theorem rCount_ex : EX rCount := fun i o h t => by
  cases i with
  | nil => rw [rCount_nil] at h; cases h
  | cons b r =>
    rw [List.cons_append, rCount_cons]
    rw [rCount_cons] at h ⊢
    by_cases hb : 128 < b
    · rw [if_pos hb] at h; cases h
    · simp only [if_neg hb]
section
variable {α : Type} {w : α → CS → CS} {r : CS → α × CS}
theorem rLoop_bm : ∀ k s, s.bad = true → (rLoop r k s).2.bad = true
  | 0, _, hs => hs
  | k + 1, s, hs => by unfold rLoop; rw [if_pos hs]; exact hs
theorem rList_bm : BM (rList r) := fun s hs => rLoop_bm _ _ (rCount_bm s hs)
theorem rLoop_ex (h : EX r) : ∀ k i o, (rLoop r k ⟨i, o, false⟩).2.bad = false → ∀ t, rLoop r k ⟨i ++ t, o, false⟩ = ((rLoop r k ⟨i, o, false⟩).1, ⟨(rLoop r k ⟨i, o, false⟩).2.inn ++ t, (rLoop r k ⟨i, o, false⟩).2.out, false⟩)
  | 0, _, _, _, _ => rfl
  | k + 1, i, o, hs, t => by
    have e : ∀ i, rLoop r (k + 1) ⟨i, o, false⟩ = ((r ⟨i, o, false⟩).1 :: (rLoop r k (r ⟨i, o, false⟩).2).1, (rLoop r k (r ⟨i, o, false⟩).2).2) := fun i => by
      rw [rLoop]; simp
    rw [e] at hs ⊢
    rw [e]
    simp only at hs ⊢
    have h1 : (r ⟨i, o, false⟩).2.bad = false := by
      cases hh : (r ⟨i, o, false⟩).2.bad with
      | false => rfl
      | true => rw [rLoop_bm k _ hh] at hs; cases hs
    have h2 := h i o h1 t
    rw [h2]
    rw [CS.ok h1] at hs ⊢
    have := rLoop_ex h k _ _ hs t
    simp only at this ⊢
    rw [this]
theorem rList_ex (h : EX r) : EX (rList r) := fun i o hs t => by
  unfold rList at hs ⊢
  have h1 : (rCount ⟨i, o, false⟩).2.bad = false := by
    cases hh : (rCount ⟨i, o, false⟩).2.bad with
    | false => rfl
    | true => rw [rLoop_bm _ _ hh] at hs; cases hs
  rw [rCount_ex i o h1 t]
  rw [CS.ok h1] at hs ⊢
  exact rLoop_ex h _ _ _ hs t

theorem wLoop_rt (h : RT w r) : ∀ (l : List α) (s : CS), (wLoop w l s).bad = false → s.bad = false ∧ ∃ bs, wLoop w l s = ⟨s.inn, s.out ++ bs, false⟩ ∧ ∀ t o, ∃ o', rLoop r l.length ⟨bs ++ t, o, false⟩ = (l, ⟨t, o', false⟩)
  | [], s, hs => by
    have hs' : s.bad = false := hs
    exact ⟨hs', [], by rw [List.append_nil, ← hs']; rfl, fun t o => ⟨o, rfl⟩⟩
  | x :: l, s, hs => by
    rw [wLoop] at hs ⊢
    cases hb : s.bad with
    | true => rw [if_pos hb, hb] at hs; cases hs
    | false =>
      rw [if_neg (by simp [hb])] at hs ⊢
      obtain ⟨h1, b2, e2, h2⟩ := wLoop_rt h l _ hs
      obtain ⟨_, b1, e1, h3⟩ := h x s h1
      rw [e1] at e2
      refine ⟨rfl, b1 ++ b2, by rw [e1, e2, List.append_assoc], fun t o => ?_⟩
      obtain ⟨o1, e3⟩ := h3 (b2 ++ t) o
      obtain ⟨o2, e4⟩ := h2 t o1
      refine ⟨o2, ?_⟩
      rw [List.length_cons, rLoop, if_neg (by simp), List.append_assoc, e3, e4]
theorem wList_rt (h : RT w r) : RT (wList w) (rList r) := fun l s hs => by
  unfold wList at hs ⊢
  split at hs
  · cases hs
  · rename_i hl
    rw [if_neg hl]
    obtain ⟨h1, b, e, h2⟩ := wLoop_rt h l _ hs
    refine ⟨h1, (l.length : Int) :: b, by rw [e]; simp, fun t o => ?_⟩
    have hc : rCount ⟨(l.length : Int) :: b ++ t, o, false⟩ = (l.length, ⟨b ++ t, o ++ [(l.length : Int)], false⟩) := by
      rw [List.cons_append, rCount_cons, if_neg (by omega)]
      rfl
    obtain ⟨o', h3⟩ := h2 t (o ++ [(l.length : Int)])
    exact ⟨o', by unfold rList; rw [hc]; exact h3⟩
end
theorem pow128 : ∀ k, (128 : Int) ^ (k + 1) = 128 * 128 ^ k := fun k => by rw [Int.pow_succ, Int.mul_comm]
/-- the groups are read back -/
theorem rGetL_vb : ∀ m k (u : Int) (n : Nat) t o, n < 128 ^ (m + 1) → rGetL (m + 1) k u ⟨vb n ++ t, o, false⟩ = (u + n * 128 ^ k, ⟨t, o, false⟩) := by
  intro m
  induction m with
  | zero =>
    intro k u n t o h
    have hn : n < 128 := by simpa using h
    rw [vb_lt hn, List.cons_append, List.nil_append, rGetL_cons, if_pos (by omega)]
    rw [show ((n : Int) % 128) = n by omega]
  | succ m ih =>
    intro k u n t o h
    by_cases hn : n < 128
    · rw [vb_lt hn, List.cons_append, List.nil_append, rGetL_cons, if_pos (by omega)]
      rw [show ((n : Int) % 128) = n by omega]
    · rw [vb_ge hn, List.cons_append, rGetL_cons, if_neg (by omega)]
      rw [ih (k + 1) _ (n / 128) t o (by rw [Nat.pow_succ] at h; omega)]
      have e1 : (((n % 128 + 128 : Nat) : Int) % 128) = ((n % 128 : Nat) : Int) := by omega
      rw [e1, pow128, Int.add_assoc]
      congr 2
      have e2 : (n : Int) = ((n % 128 : Nat) : Int) + 128 * ((n / 128 : Nat) : Int) := by omega
      conv => rhs; rw [e2]
      rw [Int.add_mul, Int.mul_comm 128 ((n / 128 : Nat) : Int), Int.mul_assoc]
theorem unzz_zz (n : Int) : unzz (zz n) = n := by
  unfold unzz zz
  by_cases h : n < 0
  · rw [if_pos h, if_pos (by omega)]; omega
  · rw [if_neg h, if_neg (by omega)]; omega
theorem zz_lt {n : Int} (h : ¬ (n < -134217728 ∨ 134217728 ≤ n)) : zz n < 268435456 := by unfold zz; split <;> omega
theorem wPut_rt : RT wPut rGet := fun n s hs => by
  unfold wPut at hs ⊢
  split at hs
  · cases hs
  · rename_i hn
    rw [if_neg hn]
    refine ⟨hs, vb (zz n), by rw [← hs], fun t o => ⟨o, ?_⟩⟩
    have h := rGetL_vb 3 0 0 (zz n) t o (by have := zz_lt hn; simpa using this)
    unfold rGet
    rw [h]
    have e : (0 : Int) + (zz n : Int) * 128 ^ 0 = zz n := by simp
    simp only [e, unzz_zz]
theorem wPt_rt : RT wPt rPt := fun p s hs => by
  obtain ⟨h1, b2, e2, h2⟩ := wPut_rt p.2 _ hs
  obtain ⟨h0, b1, e1, h3⟩ := wPut_rt p.1 s h1
  rw [e1] at e2
  refine ⟨h0, b1 ++ b2, by unfold wPt; rw [e1, e2, List.append_assoc], fun t o => ?_⟩
  obtain ⟨o1, e3⟩ := h3 (b2 ++ t) o
  obtain ⟨o2, e4⟩ := h2 t o1
  refine ⟨o2, ?_⟩
  unfold rPt
  rw [List.append_assoc, e3, e4]
theorem rPt_bm : BM rPt := fun s h => rGet_bm _ (rGet_bm s h)
theorem rPt_ex : EX rPt := fun i o h t => by
  unfold rPt at h ⊢
  simp only at h ⊢
  have h1 : (rGet ⟨i, o, false⟩).2.bad = false := by
    cases hh : (rGet ⟨i, o, false⟩).2.bad with
    | false => rfl
    | true => rw [rGet_bm _ hh] at h; cases h
  rw [rGet_ex i o h1 t]
  rw [CS.ok h1] at h ⊢
  have := rGet_ex _ _ h t
  simp only at this ⊢
  rw [this]

theorem wInts_rt : RT wInts rInts := wList_rt wPut_rt
theorem wRows_rt : RT wRows rRows := wList_rt wInts_rt
theorem wPts_rt : RT wPts rPts := wList_rt wPt_rt
theorem wLines_rt : RT wLines rLines := wList_rt wPts_rt
theorem rInts_bm : BM rInts := rList_bm
theorem rInts_ex : EX rInts := rList_ex rGet_ex
theorem rRows_bm : BM rRows := rList_bm
theorem rRows_ex : EX rRows := rList_ex rInts_ex
theorem rPts_bm : BM rPts := rList_bm
theorem rPts_ex : EX rPts := rList_ex rPt_ex
theorem rLines_bm : BM rLines := rList_bm
theorem rLines_ex : EX rLines := rList_ex rPts_ex

/-- a certificate -/
structure Crt where
  k : Int
  ord : List Int
  outs : List (List Int)
  turn : List (List Int)
  outer : Int
  pts : List (Int × Int)
  lines : List (List (Int × Int))
  b0 : List Int
  b1 : List Int
  b2 : List Int
  b3 : List Int
  edges : List Int
theorem Crt.ext' {a b : Crt} (h0 : a.k = b.k) (h1 : a.ord = b.ord) (h2 : a.outs = b.outs) (h3 : a.turn = b.turn) (h4 : a.outer = b.outer) (h5 : a.pts = b.pts) (h6 : a.lines = b.lines) (h7 : a.b0 = b.b0) (h8 : a.b1 = b.b1) (h9 : a.b2 = b.b2) (h10 : a.b3 = b.b3) (h11 : a.edges = b.edges) : a = b := by
  cases a; cases b; simp_all

/-- has it nothing but what belongs to its kind? -/
def Owns (x : Crt) : Prop :=
  (0 < x.ord.length + x.outs.length → x.k = 1) ∧ (0 < x.turn.length → x.k = 2) ∧ (0 < x.pts.length + x.lines.length → x.k = 3) ∧ (0 < x.b0.length + x.b1.length + x.b2.length + x.b3.length → x.k = 4) ∧ (0 < x.edges.length → 5 ≤ x.k) ∧ (x.k = 2 ∨ x.outer = 0)
instance (x : Crt) : Decidable (Owns x) := by unfold Owns; infer_instance

def wWalk (x : Crt) (s : CS) : Bool × CS :=
  if x.k = 1 then (true, wRows x.outs (wInts x.ord s))
  else if x.k = 2 then (true, wPut x.outer (wRows x.turn s))
  else if x.k = 3 then (true, wLines x.lines (wPts x.pts s))
  else if x.k = 4 then (true, wInts x.b3 (wInts x.b2 (wInts x.b1 (wInts x.b0 s))))
  else if x.k = 5 ∨ x.k = 6 then (true, wInts x.edges s)
  else (false, s)
def wAll (x : Crt) : Bool × CS := wWalk x ⟨[], [x.k % 256], false⟩
/-- a certificate's bytes -/
def encF (x : Crt) : Option (List Int) := if Owns x ∧ (wAll x).1 = true ∧ (wAll x).2.bad = false then some (wAll x).2.out else none

def bare (k : Int) : Crt := ⟨k, [], [], [], 0, [], [], [], [], [], [], []⟩
def rWalk (k : Int) (s : CS) : Bool × Crt × CS :=
  if k = 1 then (true, ⟨k, (rInts s).1, (rRows (rInts s).2).1, [], 0, [], [], [], [], [], [], []⟩, (rRows (rInts s).2).2)
  else if k = 2 then (true, ⟨k, [], [], (rRows s).1, (rGet (rRows s).2).1, [], [], [], [], [], [], []⟩, (rGet (rRows s).2).2)
  else if k = 3 then (true, ⟨k, [], [], [], 0, (rPts s).1, (rLines (rPts s).2).1, [], [], [], [], []⟩, (rLines (rPts s).2).2)
  else if k = 4 then (true, ⟨k, [], [], [], 0, [], [], (rInts s).1, (rInts (rInts s).2).1, (rInts (rInts (rInts s).2).2).1, (rInts (rInts (rInts (rInts s).2).2).2).1, []⟩, (rInts (rInts (rInts (rInts s).2).2).2).2)
  else if k = 5 ∨ k = 6 then (true, ⟨k, [], [], [], 0, [], [], [], [], [], [], (rInts s).1⟩, (rInts s).2)
  else (false, bare k, s)
def rAll (b : List Int) : Bool × Crt × CS := rWalk (rNext ⟨b, [], false⟩).1 (rNext ⟨b, [], false⟩).2
theorem rAll_cons (k : Int) (r : List Int) : rAll (k :: r) = rWalk k ⟨r, [], false⟩ := rfl
/-- the certificate of bytes -/
def decF (b : List Int) : Option Crt := if (rAll b).1 = true ∧ (rAll b).2.2.bad = false ∧ (rAll b).2.2.inn = [] ∧ encF (rAll b).2.1 = some b then some (rAll b).2.1 else none

theorem nonempty_of {α : Type} {l : List α} (h : ¬ 0 < l.length) : l = [] := List.eq_nil_of_length_eq_zero (by omega)

/-- what is written is read as it -/
theorem rAll_enc {x : Crt} {b : List Int} (h : encF x = some b) : ∀ t, ∃ o, rAll (b ++ t) = (true, x, ⟨t, o, false⟩) := by
  unfold encF at h
  split at h
  case isFalse => cases h
  rename_i hh
  obtain ⟨⟨g1, g2, g3, g4, g5, g6⟩, hk, hb⟩ := hh
  injection h with h
  subst h
  unfold wAll at hk hb ⊢
  unfold wWalk at hk hb ⊢
  have hx : x = ⟨x.k, x.ord, x.outs, x.turn, x.outer, x.pts, x.lines, x.b0, x.b1, x.b2, x.b3, x.edges⟩ := rfl
  split at hb
  · rename_i k1
    rw [if_pos k1]
    have d1 := nonempty_of (l := x.turn) (fun h => by have := g2 h; omega)
    have d2 := nonempty_of (l := x.pts) (fun h => by have := g3 (by omega); omega)
    have d3 := nonempty_of (l := x.lines) (fun h => by have := g3 (by omega); omega)
    have d4 := nonempty_of (l := x.b0) (fun h => by have := g4 (by omega); omega)
    have d5 := nonempty_of (l := x.b1) (fun h => by have := g4 (by omega); omega)
    have d6 := nonempty_of (l := x.b2) (fun h => by have := g4 (by omega); omega)
    have d7 := nonempty_of (l := x.b3) (fun h => by have := g4 (by omega); omega)
    have d8 := nonempty_of (l := x.edges) (fun h => by have := g5 h; omega)
    have d9 : x.outer = 0 := by omega
    obtain ⟨h1, c2, e2, r2⟩ := wRows_rt x.outs _ hb
    obtain ⟨_, c1, e1, r1⟩ := wInts_rt x.ord _ h1
    rw [e1] at e2
    intro t
    obtain ⟨o1, f1⟩ := r1 (c2 ++ t) []
    obtain ⟨o2, f2⟩ := r2 t o1
    refine ⟨o2, ?_⟩
    simp only [e1, e2]
    unfold rAll rWalk
    simp only [rNext, List.cons_append, List.nil_append, List.append_assoc]
    rw [if_pos (by omega), f1, f2]
    rw [hx, d1, d2, d3, d4, d5, d6, d7, d8, d9, k1]
    rfl
  split at hb
  · rename_i k0 k1
    rw [if_neg k0, if_pos k1]
    have d1 := nonempty_of (l := x.ord) (fun h => by have := g1 (by omega); omega)
    have d2 := nonempty_of (l := x.outs) (fun h => by have := g1 (by omega); omega)
    have d9 := nonempty_of (l := x.pts) (fun h => by have := g3 (by omega); omega)
    have d3 := nonempty_of (l := x.lines) (fun h => by have := g3 (by omega); omega)
    have d4 := nonempty_of (l := x.b0) (fun h => by have := g4 (by omega); omega)
    have d5 := nonempty_of (l := x.b1) (fun h => by have := g4 (by omega); omega)
    have d6 := nonempty_of (l := x.b2) (fun h => by have := g4 (by omega); omega)
    have d7 := nonempty_of (l := x.b3) (fun h => by have := g4 (by omega); omega)
    have d8 := nonempty_of (l := x.edges) (fun h => by have := g5 h; omega)
    obtain ⟨h1, c2, e2, r2⟩ := wPut_rt x.outer _ hb
    obtain ⟨_, c1, e1, r1⟩ := wRows_rt x.turn _ h1
    rw [e1] at e2
    intro t
    obtain ⟨o1, f1⟩ := r1 (c2 ++ t) []
    obtain ⟨o2, f2⟩ := r2 t o1
    refine ⟨o2, ?_⟩
    simp only [e1, e2]
    unfold rAll rWalk
    simp only [rNext, List.cons_append, List.nil_append, List.append_assoc]
    rw [if_neg (by omega), if_pos (by omega), f1, f2]
    rw [hx, d1, d2, d3, d4, d5, d6, d7, d8, d9, k1]
    rfl
  split at hb
  · rename_i k0 k2 k1
    rw [if_neg k0, if_neg k2, if_pos k1]
    have d1 := nonempty_of (l := x.ord) (fun h => by have := g1 (by omega); omega)
    have d2 := nonempty_of (l := x.outs) (fun h => by have := g1 (by omega); omega)
    have d3 := nonempty_of (l := x.turn) (fun h => by have := g2 h; omega)
    have d4 := nonempty_of (l := x.b0) (fun h => by have := g4 (by omega); omega)
    have d5 := nonempty_of (l := x.b1) (fun h => by have := g4 (by omega); omega)
    have d6 := nonempty_of (l := x.b2) (fun h => by have := g4 (by omega); omega)
    have d7 := nonempty_of (l := x.b3) (fun h => by have := g4 (by omega); omega)
    have d8 := nonempty_of (l := x.edges) (fun h => by have := g5 h; omega)
    have d9 : x.outer = 0 := by omega
    obtain ⟨h1, c2, e2, r2⟩ := wLines_rt x.lines _ hb
    obtain ⟨_, c1, e1, r1⟩ := wPts_rt x.pts _ h1
    rw [e1] at e2
    intro t
    obtain ⟨o1, f1⟩ := r1 (c2 ++ t) []
    obtain ⟨o2, f2⟩ := r2 t o1
    refine ⟨o2, ?_⟩
    simp only [e1, e2]
    unfold rAll rWalk
    simp only [rNext, List.cons_append, List.nil_append, List.append_assoc]
    rw [if_neg (by omega), if_neg (by omega), if_pos (by omega), f1, f2]
    rw [hx, d1, d2, d3, d4, d5, d6, d7, d8, d9, k1]
    rfl
  split at hb
  · rename_i k0 k2 k3 k1
    rw [if_neg k0, if_neg k2, if_neg k3, if_pos k1]
    have d1 := nonempty_of (l := x.ord) (fun h => by have := g1 (by omega); omega)
    have d2 := nonempty_of (l := x.outs) (fun h => by have := g1 (by omega); omega)
    have d3 := nonempty_of (l := x.turn) (fun h => by have := g2 h; omega)
    have d4 := nonempty_of (l := x.pts) (fun h => by have := g3 (by omega); omega)
    have d5 := nonempty_of (l := x.lines) (fun h => by have := g3 (by omega); omega)
    have d8 := nonempty_of (l := x.edges) (fun h => by have := g5 h; omega)
    have d9 : x.outer = 0 := by omega
    obtain ⟨h3, c4, e4, r4⟩ := wInts_rt x.b3 _ hb
    obtain ⟨h2, c3, e3, r3⟩ := wInts_rt x.b2 _ h3
    obtain ⟨h1, c2, e2, r2⟩ := wInts_rt x.b1 _ h2
    obtain ⟨_, c1, e1, r1⟩ := wInts_rt x.b0 _ h1
    rw [e1] at e2
    rw [e1, e2] at e3
    rw [e1, e2, e3] at e4
    intro t
    obtain ⟨o1, f1⟩ := r1 (c2 ++ (c3 ++ (c4 ++ t))) []
    obtain ⟨o2, f2⟩ := r2 (c3 ++ (c4 ++ t)) o1
    obtain ⟨o3, f3⟩ := r3 (c4 ++ t) o2
    obtain ⟨o4, f4⟩ := r4 t o3
    refine ⟨o4, ?_⟩
    simp only [e1, e2, e3, e4]
    unfold rAll rWalk
    simp only [rNext, List.cons_append, List.nil_append, List.append_assoc]
    rw [if_neg (by omega), if_neg (by omega), if_neg (by omega), if_pos (by omega), f1, f2, f3, f4]
    rw [hx, d1, d2, d3, d4, d5, d8, d9, k1]
    rfl
  split at hb
  · rename_i k0 k2 k3 k4 k1
    rw [if_neg k0, if_neg k2, if_neg k3, if_neg k4, if_pos k1]
    have d1 := nonempty_of (l := x.ord) (fun h => by have := g1 (by omega); omega)
    have d2 := nonempty_of (l := x.outs) (fun h => by have := g1 (by omega); omega)
    have d3 := nonempty_of (l := x.turn) (fun h => by have := g2 h; omega)
    have d4 := nonempty_of (l := x.b0) (fun h => by have := g4 (by omega); omega)
    have d5 := nonempty_of (l := x.b1) (fun h => by have := g4 (by omega); omega)
    have d6 := nonempty_of (l := x.b2) (fun h => by have := g4 (by omega); omega)
    have d7 := nonempty_of (l := x.b3) (fun h => by have := g4 (by omega); omega)
    have d8 := nonempty_of (l := x.pts) (fun h => by have := g3 (by omega); omega)
    have d10 := nonempty_of (l := x.lines) (fun h => by have := g3 (by omega); omega)
    have d9 : x.outer = 0 := by omega
    obtain ⟨_, c1, e1, r1⟩ := wInts_rt x.edges _ hb
    intro t
    obtain ⟨o1, f1⟩ := r1 t []
    refine ⟨o1, ?_⟩
    simp only [e1]
    have ek : x.k % 256 = x.k := by omega
    rw [List.cons_append, List.nil_append, List.cons_append, rAll_cons, ek]
    unfold rWalk
    rw [if_neg (by omega), if_neg (by omega), if_neg (by omega), if_neg (by omega), if_pos k1, f1]
    rw [hx, d1, d2, d3, d4, d5, d6, d7, d8, d9, d10]
  · rename_i k0 k2 k3 k4 k1
    rw [if_neg k0, if_neg k2, if_neg k3, if_neg k4, if_neg k1] at hk
    cases hk

theorem dec_enc {x : Crt} {b : List Int} (h : encF x = some b) : decF b = some x := by
  obtain ⟨o, e⟩ := rAll_enc h []
  rw [List.append_nil] at e
  unfold decF
  rw [e]
  simp [h]
theorem enc_dec {x : Crt} {b : List Int} (h : decF b = some x) : encF x = some b := by
  unfold decF at h
  split at h
  · rename_i hh
    injection h with h
    rw [← h]
    exact hh.2.2.2
  · cases h
/-- a certificate's bytes, with others behind them, are none's -/
theorem dec_more {x : Crt} {b t : List Int} (h : encF x = some b) (ht : t ≠ []) : decF (b ++ t) = none := by
  obtain ⟨o, e⟩ := rAll_enc h t
  unfold decF
  rw [e]
  simp [ht]
theorem enc_inj {x y : Crt} {b : List Int} (hx : encF x = some b) (hy : encF y = some b) : x = y := by
  have h1 := dec_enc hx
  have h2 := dec_enc hy
  rw [h1] at h2
  injection h2
/-- no beginning of a certificate's bytes is one's -/
theorem dec_cut {x : Crt} {b : List Int} {c : Nat} (h : encF x = some b) (hc : c < b.length) : decF (b.take c) = none := by
  cases hd : decF (b.take c) with
  | none => rfl
  | some y =>
    have h1 := enc_dec hd
    have h2 := dec_more h1 (t := b.drop c) (by intro e; have := congrArg List.length e; simp at this; omega)
    rw [List.take_append_drop] at h2
    rw [dec_enc h] at h2
    cases h2
end Go.Proofs.Ytmlbjcngboegfaa
