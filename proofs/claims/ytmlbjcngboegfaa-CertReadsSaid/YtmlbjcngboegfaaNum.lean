/-
  number, point; list of numbers: what they write. Written by an AI agent.
-/
import Derived.Test.YtmlbjcngboegfaaCoder2
namespace Go.Proofs.Ytmlbjcngboegfaa
open Go.RowKit

theorem numberW_any (B gc : Nat) (A : Option Addr) (c : Nat) (ov : Value) (s : CS) (b o : Nat) (n : Int) (w : World) (h : Coder w B gc false A c ov s) (hl : s.out.length ≤ 1000000000) (hp : w.cell? ⟨b, o, none⟩ = some (.int .i64 n)) :
    Calls Try.prog 36 #[.pointer (some ⟨gc, 0, none⟩), .pointer (some ⟨b, o, none⟩)] w (fun e w' => e = .returned (.tuple #[]) ∧ Ran B gc false ov (fun _ => False) w w' (wPut n s)) := by
  have z0 := h.c0
  have H := Lib.hid h
  clear h
  go_enter Try.func36, Try.ntmps36
  go_wp2_with fail
  refine (put_any B gc false A c ov s n w H.out hl).mono ?_
  rintro e w1 ⟨rfl, hr⟩
  have Hr := Lib.hid hr
  clear hr
  go_wp2_with fail
  refine bodyPost_end (results_none rfl _ _ _) rfl ?_
  exact ⟨rfl, Hr.out⟩

theorem wPut_bad {n : Int} {s : CS} (h : s.bad = true) : (wPut n s).bad = true := by
  unfold wPut; split
  · rfl
  · exact h

theorem pointW_any (B gc : Nat) (A : Option Addr) (c : Nat) (ov : Value) (s : CS) (b o : Nat) (x : Int × Int) (w : World) (h : Coder w B gc false A c ov s) (hl : s.out.length ≤ 999999996) (hb : b < B) (hp : w.cell? ⟨b, o, none⟩ = some (.int .i64 x.1)) (hq : w.cell? ⟨b, o + 1, none⟩ = some (.int .i64 x.2)) :
    Calls Try.prog 45 #[.pointer (some ⟨gc, 0, none⟩), .pointer (some ⟨b, o, none⟩)] w (fun e w' => e = .returned (.tuple #[]) ∧ Ran B gc false ov (fun _ => False) w w' (wPt x s)) := by
  have H := Lib.hid h
  have Hp := Lib.hid hp
  have Hq := Lib.hid hq
  clear h hp hq
  go_enter Try.func45, Try.ntmps45
  go_wp2_with fail
  refine (numberW_any B gc A c ov s b o x.1 w H.out (by omega) Hp.out).mono ?_
  rintro e w1 ⟨rfl, A1, c1, ov1, hc1, ho1, hf1⟩
  have hl1 := wPut_len x.1 s
  have hq1 : w1.cell? ⟨b, o + 1, none⟩ = some (.int .i64 x.2) := (World.cell?_of_block (a := ⟨b, o + 1, none⟩) (ho1.block b (by have := H.out.lt; have := H.out.ge; omega) (fun hk => by
    rcases hk with hk | hk | hk
    · have := H.out.ge; omega
    · have := (H.out.olt _ hk).1; omega
    · exact hk))).trans Hq.out
  have Hc1 := Lib.hid hc1
  have Ho1 := Lib.hid ho1
  have Hf1 := Lib.hid hf1
  clear hc1 ho1 hf1
  go_wp2_with fail
  refine (numberW_any B gc A1 c1 ov1 (wPut x.1 s) b (o + 1) x.2 w1 Hc1.out (by omega) hq1).mono ?_
  rintro e w2 ⟨rfl, hr⟩
  have Hr := Lib.hid hr
  clear hr
  go_wp2_with fail
  refine bodyPost_end (results_none rfl _ _ _) rfl ?_
  exact ⟨rfl, Ran.seq Ho1.out Hf1.out Hr.out fun _ _ h => h.elim⟩

section
variable {α : Type} {each : α → CS → CS} {K : Nat}
theorem wLoop_len (h : ∀ x s, (each x s).out.length ≤ s.out.length + K) : ∀ (l : List α) (s : CS), (wLoop each l s).out.length ≤ s.out.length + K * l.length
  | [], _ => Nat.le_add_right _ _
  | x :: r, s => by
    rw [wLoop]
    split
    · exact Nat.le_add_right _ _
    · have h1 := wLoop_len h r (each x s)
      have h2 := h x s
      rw [List.length_cons, Nat.mul_succ]
      omega
theorem wList_len (h : ∀ x s, (each x s).out.length ≤ s.out.length + K) (l : List α) (s : CS) : (wList each l s).out.length ≤ s.out.length + (1 + K * 128) := by
  unfold wList
  split
  · exact Nat.le_add_right _ _
  · rename_i hl
    have h1 := wLoop_len h l ⟨s.inn, s.out ++ [(l.length : Int)], s.bad⟩
    simp only [List.length_append, List.length_cons, List.length_nil] at h1
    have : K * l.length ≤ K * 128 := Nat.mul_le_mul_left _ (by omega)
    omega
theorem wLoop_go {l : List α} {i : Nat} (hi : i < l.length) {s : CS} (hs : s.bad = false) : wLoop each (l.drop i) s = wLoop each (l.drop (i + 1)) (each l[i] s) := by
  rw [List.drop_eq_getElem_cons hi, wLoop, if_neg (by simp [hs])]
theorem wLoop_stop (l : List α) {s : CS} (hs : s.bad = true) : wLoop each l s = s := by
  cases l with
  | nil => rfl
  | cons x r => rw [wLoop, if_pos hs]
end
theorem wInts_len (l : List Int) (s : CS) : (wInts l s).out.length ≤ s.out.length + 513 := by
  have := wList_len (each := wPut) (K := 4) wPut_len l s
  unfold wInts; omega
theorem wRows_len (l : List (List Int)) (s : CS) : (wRows l s).out.length ≤ s.out.length + 65665 := by
  have := wList_len (each := wInts) (K := 513) wInts_len l s
  unfold wRows; omega
theorem wPt_len (x : Int × Int) (s : CS) : (wPt x s).out.length ≤ s.out.length + 8 := by
  have h1 := wPut_len x.1 s
  have h2 := wPut_len x.2 (wPut x.1 s)
  unfold wPt; omega
theorem wPts_len (l : List (Int × Int)) (s : CS) : (wPts l s).out.length ≤ s.out.length + 1025 := by
  have := wList_len (each := wPt) (K := 8) wPt_len l s
  unfold wPts; omega
theorem wLines_len (l : List (List (Int × Int))) (s : CS) : (wLines l s).out.length ≤ s.out.length + 131201 := by
  have := wList_len (each := wPts) (K := 1025) wPts_len l s
  unfold wLines; omega

def intCells (l : List Int) : List Value := l.map (Value.int .i64)
theorem Cells.ints {w : World} {B : Nat} {A : Option Addr} {l : List Int} (h : Cells w B A (intCells l)) (hn : 0 < l.length) :
    ∃ b off, A = some ⟨b, off, none⟩ ∧ b < B ∧ ∀ k (hk : k < l.length), w.cell? ⟨b, off + k, none⟩ = some (.int .i64 l[k]) := by
  obtain ⟨b, off, e, hb, hc⟩ := h (by simpa [intCells] using hn)
  exact ⟨b, off, e, hb, fun k hk => hc k _ (by simp [intCells, hk])⟩
theorem cell_kept {B gc : Nat} {rd : Bool} {A : Option Addr} {c : Nat} {ov : Value} {s : CS} {w w' : World} {X : Nat → Prop} (h : Coder w B gc rd A c ov s) (ho : Only (coderK gc ov X) w w') (hX : ∀ i, X i → B ≤ i) : Below B w w' :=
  ho.below (Nat.le_trans h.ge (Nat.le_of_lt h.lt)) fun i hi => by
    rcases hi with hi | hi | hi
    · rw [hi]; exact h.ge
    · exact (h.olt i hi).1
    · exact hX i hi
end Go.Proofs.Ytmlbjcngboegfaa
