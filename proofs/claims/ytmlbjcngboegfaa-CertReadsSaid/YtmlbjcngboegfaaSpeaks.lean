/-
  What the certificate laws ask first. Written by an AI agent.
-/
import Derived.Test.YtmlbjcngboegfaaLaid
namespace Go.Proofs.Ytmlbjcngboegfaa
open Go.RowKit

def exCrt : Crt := ⟨5, [], [], [], 0, [], [], [], [], [], [], [0, 1, 64]⟩
theorem ex_enc : encF exCrt = some [5, 3, 0, 2, 128, 1] := by
  have h0 : vb 0 = [0] := vb_lt (by omega)
  have h1 : vb 2 = [2] := vb_lt (by omega)
  have h2 : vb 128 = [128, 1] := by rw [vb_ge (by omega), vb_lt (by omega)]; rfl
  have z0 : zz 0 = 0 := rfl
  have z1 : zz 1 = 2 := rfl
  have z2 : zz 64 = 128 := rfl
  have ho : Owns exCrt := by unfold Owns exCrt; simp
  have hw : wAll exCrt = (true, ⟨[], [5, 3, 0, 2, 128, 1], false⟩) := by
    unfold wAll wWalk exCrt
    simp [wInts, wList, wLoop, wPut, z0, z1, z2, h0, h1, h2]
  unfold encF
  rw [if_pos ⟨ho, by rw [hw], by rw [hw]⟩, hw]
theorem ex_dec : decF [5, 3, 0, 2, 128, 1] = some exCrt := dec_enc ex_enc

set_option maxRecDepth 20000 in
set_option maxHeartbeats 2000000 in
theorem speaks_any (w : World) : Calls Try.prog 7 #[] w fun e w' => e = .returned (.bool true) ∧ Below w.heap.size w w' := by
  go_enter Try.func7, Try.ntmps7
  go_wp2_with fail
  refine (encode_any ⟨none, none, none, none, none, none, none, none, none, some ⟨w.heap.size, 0, none⟩, 0, 0, 0, 0, 0, 0, 0, 0, 0, 3⟩ exCrt (w.alloc (.cells #[.int .i64 0, .int .i64 1, .int .i64 64] 3)) ?_ ⟨nil_length, nil_length, nil_length, nil_length, nil_length, nil_length, nil_length, nil_length, nil_length, by simp [exCrt]⟩).mono ?_
  · refine ⟨Cells.nil, TblAt.nil, TblAt.nil, Cells.nil, TblAt.nil, Cells.nil, Cells.nil, Cells.nil, Cells.nil, fun _ => ⟨w.heap.size, 0, rfl, by simp, fun j u hj => ?_⟩⟩
    match j with
    | 0 => injection hj with hj; subst hj; simp [go_sem]
    | 1 => injection hj with hj; subst hj; simp [go_sem]
    | 2 => injection hj with hj; subst hj; simp [go_sem]
    | j + 3 => simp [intCells, exCrt] at hj
  rintro e w2 ⟨hb2, _, hs2⟩
  obtain ⟨A2, c2, rfl, hc2, hC2⟩ := hs2 _ ex_enc
  have HB2 := Lib.hid (((Below.refl _ w).alloc (Nat.le_refl _) _).trans (hb2.mono (by simp)))
  have HC2 := Lib.hid hC2
  have hsz : w.heap.size + 1 ≤ w2.heap.size := by have := hb2.size; simp at this; omega
  clear hb2 hs2 hC2
  simp only [List.length_cons, List.length_nil, Nat.zero_add, Nat.reduceAdd] at hc2 ⊢
  go_wp2_with fail
  refine (decode_any (some ⟨w2.heap.size, 0, none⟩) [5, 3, 0, 2, 128, 1] 6 (w2.alloc (.cells #[.int .u8 5, .int .u8 3, .int .u8 0, .int .u8 2, .int .u8 128, .int .u8 1] 5)) (encF_bytes ex_enc) (by simp) ?_ (by simp)).mono ?_
  · exact fun _ => ⟨w2.heap.size, 0, rfl, by simp, fun j u hj => by
      match j with
      | 0 => injection hj with hj; subst hj; simp [go_sem]
      | 1 => injection hj with hj; subst hj; simp [go_sem]
      | 2 => injection hj with hj; subst hj; simp [go_sem]
      | 3 => injection hj with hj; subst hj; simp [go_sem]
      | 4 => injection hj with hj; subst hj; simp [go_sem]
      | 5 => injection hj with hj; subst hj; simp [go_sem]
      | j + 6 => simp [byteCells] at hj⟩
  rintro e w3 ⟨hb3, _, hs3⟩
  obtain ⟨V3, rfl, hI3⟩ := hs3 _ ex_dec
  have HB3 := Lib.hid (HB2.out.trans ((((Below.refl _ w2).alloc (Nat.le_refl _) _).trans (hb3.mono (by simp))).mono HB2.out.size))
  have HC3 := Lib.hid (HC2.out.below (((Below.refl _ w2).alloc (Nat.le_refl _) _).trans (hb3.mono (by simp))))
  have HI3 := Lib.hid hI3.h11
  have hsz3 : w2.heap.size + 1 ≤ w3.heap.size := by have := hb3.size; simp at this; omega
  clear hb3 hs3 hI3 HB2 HC2
  unfold crtVal crtCells exCrt
  simp only [List.length_cons, List.length_nil, Nat.zero_add, Nat.reduceAdd]
  obtain ⟨b3, o3, e3, hb3, hc3⟩ := HI3.out (by simp [exCrt, intCells])
  have q2 : w3.cell? ⟨b3, o3 + 2, none⟩ = some (.int .i64 64) := hc3 2 _ rfl
  have hq2 : ∀ o, (w3.alloc o).cell? ⟨b3, o3 + 2, none⟩ = some (.int .i64 64) := fun o => (World.cell?_alloc_lt _ _ _ hb3).trans q2
  have hq3 : ∀ o o', ((w3.alloc o).alloc o').cell? ⟨b3, o3 + 2, none⟩ = some (.int .i64 64) := fun o o' => (World.cell?_alloc_lt _ _ _ (by simp; omega)).trans (hq2 o)
  obtain ⟨S, hS⟩ : ∃ S, S = strOfNums [5, 3, 0, 2, 128, 1] := ⟨_, rfl⟩
  have hcv1 : ∀ o, (convert 35 9 (.slice A2 6 c2)).run Try.prog (w3.alloc o) = .ok (.string S) (w3.alloc o) := fun o => by
    rw [hS]; exact conv_bytes _ (HC3.out.alloc (by omega) o) 6 c2 rfl
  have hcv2 : ∀ o, (convert 35 9 (.slice (some ⟨w3.heap.size + 1, 0, none⟩) 6 6)).run Try.prog ((w3.alloc o).alloc (.cells #[.int .u8 5, .int .u8 3, .int .u8 0, .int .u8 2, .int .u8 128, .int .u8 1] 5)) = .ok (.string S) ((w3.alloc o).alloc (.cells #[.int .u8 5, .int .u8 3, .int .u8 0, .int .u8 2, .int .u8 128, .int .u8 1] 5)) := fun o => by
    rw [hS]
    refine conv_bytes _ (B := w3.heap.size + 2) (fun _ => ⟨w3.heap.size + 1, 0, rfl, by omega, fun j u hj => ?_⟩) 6 6 rfl
    have hb : Blk ((w3.alloc o).alloc (.cells #[.int .u8 5, .int .u8 3, .int .u8 0, .int .u8 2, .int .u8 128, .int .u8 1] 5)) (w3.heap.size + 1) 5 #[.int .u8 5, .int .u8 3, .int .u8 0, .int .u8 2, .int .u8 128, .int .u8 1] := blk_new' _ _ _ _ (by simp)
    rw [Nat.zero_add, hb.cell j]
    simpa [byteCells] using hj
  have hS2 : (S.toList == S.toList) = true := by simp
  clear hS hc3 q2
  generalize V3.a11 = A11 at *
  subst e3
  go_wp2_with fail
  go_ret
  exact ⟨rfl, (HB3.out.alloc (by omega) _).alloc (by simp; omega) _⟩
end Go.Proofs.Ytmlbjcngboegfaa
