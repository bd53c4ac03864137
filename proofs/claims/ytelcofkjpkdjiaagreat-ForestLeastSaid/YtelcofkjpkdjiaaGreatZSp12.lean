import Derived.Test.YtelcofkjpkdjiaaGreatZAsg
import Derived.Test.YtelcofkjpkdjiaaGreatZOuts
/-
  The example of chapter 12, reckoned. Written by an AI agent.
-/
namespace Go.Proofs.YtelcofkjpkdjiaaGreat
open Go.RowKit

theorem ex_good : GoodP 2 [(0, 1)] := ⟨by decide +kernel, fun i hi => by
    match i, hi with
    | 0, _ => decide, fun i hi j hj => by
    match i, hi with
    | 0, _ => exact absurd hj (Nat.not_lt_zero _), by decide +kernel, by decide +kernel⟩
theorem ex_ask : faskB 2 [(0, 1)] [[0], [1]] = true := by
  unfold faskB goodB
  rw [tst_iff.2 ex_good, speaks6_gen, show rightB 2 [(0, 1)] [[0], [1]] = true by decide +kernel]
  rfl
theorem ex_faces : (facesOf 2 [(0, 1)] [[0], [1]]).length = 1 := by decide +kernel
theorem ex_angs : angR 2 [(0, 1)] [[0], [1]] = [(0, 0, 0, 1), (1, 1, 0, 2)] := by
  unfold angR
  rw [if_pos speaks6_ask]
  decide +kernel
theorem ex_ro : roR 2 [(0, 1)] [[0], [1]] = roH 1 [(1, 1, 0, 2)] := by
  unfold roR
  rw [ex_faces, ex_angs]
  rfl
theorem ex_pos : pos (roH 1 [(1, 1, 0, 2)]) 1 = 1 := by decide +kernel
theorem ex_fs : rlB (roH 1 [(1, 1, 0, 2)]) 1 2 (2 * 0 + 0) = [0] := by decide +kernel
theorem ex_vs : rlB (roH 1 [(1, 1, 0, 2)]) 1 2 (2 * 0 + 1) = [1] := by decide +kernel
theorem ex_an : cA (roH 1 [(1, 1, 0, 2)]) [(1, 1, 0, 2)] 0 = 1 := by decide +kernel
theorem ex_out : outR 2 [(0, 1)] [[0], [1]] = [0] := by
  unfold outR
  rw [if_pos ex_ask, ex_ro, ex_faces, ex_angs]
  rw [outL_pos (fr := 0) (by decide +kernel)]
  rw [show selQ ((bareVI ([[0], [1]] : List (List Int)).length [(0, 1)] Prod.snd).getD 0 0) (rlB (roH 1 [(1, 1, 0, 2)]) 1 ([[0], [1]] : List (List Int)).length (2 * 0)) [(0, 0, 0, 1), (1, 1, 0, 2)] = [0] by decide +kernel]
  rw [List.mergeSort_singleton]
  rfl
end Go.Proofs.YtelcofkjpkdjiaaGreat
/-
  What the laws of chapter 12 ask first: the document's example. Written by an AI agent.
-/
namespace Go.Proofs.YtelcofkjpkdjiaaGreat
open Go.RowKit

theorem ex_filter : ([(0, 0, 0, 1), (1, 1, 0, 2)] : List Quad).filter hiQ = [(1, 1, 0, 2)] := by decide
set_option maxRecDepth 20000 in
set_option maxHeartbeats 4000000 in
theorem speaks12_any (w : World) : Calls Tryz.prog 7 #[] w fun e w' => e = .returned (.bool true) ∧ Below w.heap.size w w' := by
  go_enter Tryz.func7, Tryz.ntmps7
  go_upto_region 2 with fail
  have b1 := Blk.new w 51 #[.int .i64 0, .int .i64 1]
  have z1 := World.size_alloc w (.cells #[.int .i64 0, .int .i64 1] 51)
  have k1 := (Below.refl w.heap.size w).alloc (Nat.le_refl _) (.cells #[.int .i64 0, .int .i64 1] 51)
  generalize w.alloc (.cells #[.int .i64 0, .int .i64 1] 51) = w1 at *
  have b2 := Blk.new w1 24 #[.int .i64 2, .slice (some ⟨w.heap.size, 0, none⟩) 1 1]
  have b1' := b1.alloc (.cells #[.int .i64 2, .slice (some ⟨w.heap.size, 0, none⟩) 1 1] 24)
  have z2 := World.size_alloc w1 (.cells #[.int .i64 2, .slice (some ⟨w.heap.size, 0, none⟩) 1 1] 24)
  have k2 := k1.alloc (by omega) (.cells #[.int .i64 2, .slice (some ⟨w.heap.size, 0, none⟩) 1 1] 24)
  generalize w1.alloc (.cells #[.int .i64 2, .slice (some ⟨w.heap.size, 0, none⟩) 1 1] 24) = w2 at *
  rw [z1] at b2
  obtain ⟨gE, hgE⟩ : ∃ gE, gE = w.heap.size := ⟨_, rfl⟩
  obtain ⟨gG, hgG⟩ : ∃ gG, gG = w.heap.size + 1 := ⟨_, rfl⟩
  rw [← hgG] at b2
  rw [← hgE] at b1' b2
  rw [← hgG, ← hgE]
  have HB := Lib.hid k2
  have HE := Lib.hid (show Cells w2 w2.heap.size (some ⟨gE, 0, none⟩) (edgeCells [(0, 1)]) from (Cells.blk' (xs := edgeCells [(0, 1)]) b1').more b1'.lt)
  have HG := Lib.hid b2
  have hgl : gG < w2.heap.size := b2.lt
  have c0 := b2.cell 0
  have c1 := b2.cell 1
  simp only [List.getElem?_toArray, List.getElem?_cons_zero, List.getElem?_cons_succ] at c0 c1
  clear b1 b1' b2 k1 k2 z1 z2 hgE hgG
  have HR := Lib.hid (rows01 w2)
  go_wp2_with fail
  generalize ((w2.alloc (.cells #[.int .i64 0] 3)).alloc (.cells #[.int .i64 1] 3)).alloc (.cells #[.slice (some ⟨w2.heap.size, 0, none⟩) 1 1, .slice (some ⟨w2.heap.size + 1, 0, none⟩) 1 1] 30) = w3 at *
  have HE3 := Lib.hid ((HE.out.below HR.out.2).more HR.out.2.size)
  have HG3 := Lib.hid (HG.out.below HR.out.2 hgl)
  have HB3 := Lib.hid (HB.out.trans (HR.out.2.mono HB.out.size))
  have hgl3 : gG < w3.heap.size := HG3.out.lt
  refine (fParts_any 2 (some ⟨gE, 0, none⟩) (some ⟨w2.heap.size + 1 + 1, 0, none⟩) 1 2 [(0, 1)] [[0], [1]] w3 HE3.out HR.out.1 (by simp) (by simp) (by simp)).mono ?_
  rintro e w4 ⟨v, rfl, hb4, _, hv⟩
  obtain ⟨rv, hpm⟩ := hv ex_ask
  rw [ex_faces, ex_angs, ex_filter, ex_pos] at hpm
  have hpm2 : PartM w4 w3.heap.size v 1 (rlB (roH 1 [(1, 1, 0, 2)]) 1 2) (cA (roH 1 [(1, 1, 0, 2)]) [(1, 1, 0, 2)]) rv := hpm
  obtain ⟨g, cap, rfl, hg⟩ := hpm2.form (by omega)
  obtain ⟨A1, x1, z0, _⟩ := hpm2.part (k := 0) (j := 0) (by omega) (by omega)
  obtain ⟨A2, x2, z1, hc⟩ := hpm2.part (k := 0) (j := 1) (by omega) (by omega)
  have z2 := hpm2.cellN (k := 0) (by omega)
  rw [ex_fs] at z0
  rw [ex_vs] at z1 hc
  rw [ex_an] at z2
  have y0 : w4.cell? ⟨g, 0, none⟩ = some (.slice A1 1 x1) := z0
  have y1 : w4.cell? ⟨g, 1, none⟩ = some (.slice A2 1 x2) := z1
  have y2 : w4.cell? ⟨g, 2, none⟩ = some (.int .i64 1) := z2
  have HC4 := Lib.hid hc
  have HE4 := Lib.hid ((HE3.out.below hb4).more hb4.size)
  have HG4 := Lib.hid (HG3.out.below hb4 hgl3)
  have HB4 := Lib.hid (HB3.out.trans (hb4.mono HB3.out.size))
  have hgl4 : gG < w4.heap.size := HG4.out.lt
  clear hb4 hpm hpm2 hv z0 z1 z2 hc hg c0 c1
  have HB5 := Lib.hid (Blk.new w4 3 #[.int .i64 1])
  have hb5 := (Below.refl w4.heap.size w4).alloc (Nat.le_refl _) (.cells #[.int .i64 1] 3)
  have HC5 := Lib.hid ((HC4.out.below hb5).more hb5.size)
  have HE5 := Lib.hid ((HE4.out.below hb5).more hb5.size)
  have HG5 := Lib.hid (HG4.out.below hb5 hgl4)
  have HB45 := Lib.hid (HB4.out.trans (hb5.mono HB4.out.size))
  clear hb5
  go_wp2_with fail
  generalize w4.alloc (.cells #[.int .i64 1] 3) = w5 at *
  refine (same_any A2 (some ⟨w4.heap.size, 0, none⟩) x2 1 [1] [1] w5 w5.heap.size HC5.out ((Cells.blk' (xs := intCells [1]) HB5.out).more HB5.out.lt) (by simp) (by simp)).mono ?_
  rintro e w6 ⟨rfl, m, rfl⟩
  have HB6 := Lib.hid (below_drewN HB45.out m)
  have HE6 := Lib.hid (show Cells (w5.drewN m) (w5.drewN m).heap.size (some ⟨gE, 0, none⟩) (edgeCells [(0, 1)]) from HE5.out.drewN m)
  have HG6 := Lib.hid (HG5.out.drewN m)
  have hd : decide (([1] : List Int) = [1]) = true := by simp
  rw [hd]
  generalize w5.drewN m = w6 at *
  have hgl6 : gG < w6.heap.size := HG6.out.lt
  have c0 := HG6.out.cell 0
  have c1 := HG6.out.cell 1
  simp only [List.getElem?_toArray, List.getElem?_cons_zero, List.getElem?_cons_succ] at c0 c1
  have HR7 := Lib.hid (rows01 w6)
  clear y0 y1 y2 hd
  go_wp2_with fail
  generalize ((w6.alloc (.cells #[.int .i64 0] 3)).alloc (.cells #[.int .i64 1] 3)).alloc (.cells #[.slice (some ⟨w6.heap.size, 0, none⟩) 1 1, .slice (some ⟨w6.heap.size + 1, 0, none⟩) 1 1] 30) = w7 at *
  have HE7 := Lib.hid ((HE6.out.below HR7.out.2).more HR7.out.2.size)
  have HB7 := Lib.hid (HB6.out.trans (HR7.out.2.mono HB6.out.size))
  refine (fOuters_any 2 (some ⟨gE, 0, none⟩) (some ⟨w6.heap.size + 1 + 1, 0, none⟩) 1 2 [(0, 1)] [[0], [1]] w7 HE7.out HR7.out.1 (by simp) (by simp) (by simp)).mono ?_
  rw [ex_out]
  rintro e w8 ⟨A8, x8, rfl, hb8, hc8⟩
  have HB8 := Lib.hid (HB7.out.trans (hb8.mono HB7.out.size))
  have HN9 := Lib.hid (Blk.new w8 3 #[.int .i64 0])
  have hb9 := (Below.refl w8.heap.size w8).alloc (Nat.le_refl _) (.cells #[.int .i64 0] 3)
  have HC9 := Lib.hid ((hc8.below hb9).more hb9.size)
  have HB9 := Lib.hid (HB8.out.trans (hb9.mono HB8.out.size))
  clear hb8 hc8 hb9
  go_wp2_with fail
  generalize w8.alloc (.cells #[.int .i64 0] 3) = w9 at *
  refine (same_any A8 (some ⟨w8.heap.size, 0, none⟩) x8 1 [0] [0] w9 w9.heap.size HC9.out ((Cells.blk' (xs := intCells [0]) HN9.out).more HN9.out.lt) (by simp) (by simp)).mono ?_
  rintro e w10 ⟨rfl, m, rfl⟩
  have HB10 := Lib.hid (below_drewN HB9.out m)
  have hd : decide (([0] : List Int) = [0]) = true := by simp
  rw [hd]
  clear hd
  go_wp2_with fail
  go_ret
  exact ⟨rfl, HB10.out⟩
end Go.Proofs.YtelcofkjpkdjiaaGreat
