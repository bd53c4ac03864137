import Derived.Test.YtneeknlhlkpnpaaGreatZRPlain
import Derived.Test.YtneeknlhlkpnpaaGreatZRGr
import Derived.Test.YtneeknlhlkpnpaaGreatZRRf
import Derived.Test.YtneeknlhlkpnpaaGreatZAsg
/-
 The example of chapter 11, reckoned. Written by an AI agent.
-/
namespace Go.Proofs.YtneeknlhlkpnpaaGreat
open Go.RowKit
theorem ex11_good : GoodP 2 [(0, 1)] := ⟨by decide +kernel, fun i hi => by
  match i, hi with
  | 0, _ => decide, fun i hi j hj => by
  match i, hi with
  | 0, _ => exact absurd hj (Nat.not_lt_zero _), by decide +kernel, by decide +kernel⟩
theorem ex11_of : ofB 2 [(0, 1)] [0, 1] [[0], []] = true := by
 rw [ofB_iff]
 refine ⟨rfl, rfl, ?_, fun x hx => ?_⟩
 ·rw [List.mergeSort_of_pairwise (by decide)]; rfl
 ·match x, hx with
  | 0, _ => exact List.mergeSort_singleton _
  | 1, _ => exact List.mergeSort_nil
theorem ex11_run : runO 2 [(0, 1)] [0, 1] [[0], []] = some [[], [(0, 0, 1)]] := by
 unfold runO
 rw [if_pos ex11_of]
 decide +kernel
theorem ex11_turn : turnW 2 [[0], []] [[], [(0, 0, 1)]] = [[0], [1]] := by decide +kernel
theorem ex11_out : outT 2 [(0, 1)] [[0], [1]] 2 = 0 := by decide +kernel
theorem ex11_great : greatT [(0, 1)] [[0], [1]] 2 = [0, 1] := by decide +kernel
theorem ex11_rooms : fitRooms 2 [(0, 1)] [[0], [1]] 0 [0, 1] = true := by
 unfold fitRooms roomE
 decide +kernel
theorem ex11_fits : fitsF 2 [(0, 1)] [[0], [1]] 0 [0, 1] = true := by
 unfold fitsF
 rw [show goodB 2 [(0, 1)] = true from tst_iff.2 ex11_good, speaks6_ask, show bimB [[0], [1]] = true by decide +kernel, ex11_rooms]
 rfl
theorem ex11_same : same11 [[0], [1]] [[0], [1]] = true := by decide +kernel
theorem plan01 (w : World) : let w5 := ((((w.alloc (.cells #[.int .i64 0, .int .i64 1] 3)).alloc (.cells #[.int .i64 0] 3)).alloc (.cells #[] 3)).alloc (.cells #[.slice (some ⟨w.heap.size + 1, 0, none⟩) 1 1, .slice (some ⟨w.heap.size + 1 + 1, 0, none⟩) 0 0] 25)).alloc (.cells #[.slice (some ⟨w.heap.size, 0, none⟩) 2 2, .slice (some ⟨w.heap.size + 1 + 1 + 1, 0, none⟩) 2 2] 28)
  PlanS w w5 (w.heap.size + 1 + 1 + 1 + 1) (some ⟨w.heap.size, 0, none⟩) 2 [0, 1] (some ⟨w.heap.size + 1 + 1 + 1, 0, none⟩) 2 [[0], []] := by
 intro w5
 obtain ⟨h5, e5⟩ : ∃ h5, h5 = w5 := ⟨_, rfl⟩
 have b1 := Blk.new w 3 #[.int .i64 0, .int .i64 1]
 have z1 := World.size_alloc w (.cells #[.int .i64 0, .int .i64 1] 3)
 have k1 := (Below.refl w.heap.size w).alloc (Nat.le_refl _) (.cells #[.int .i64 0, .int .i64 1] 3)
 rw [← e5]
 unfold w5 at e5
 clear w5
 generalize w.alloc (.cells #[.int .i64 0, .int .i64 1] 3) = w1 at *
 have b2 := Blk.new w1 3 #[.int .i64 0]
 have b12 := b1.alloc (.cells #[.int .i64 0] 3)
 have z2 := World.size_alloc w1 (.cells #[.int .i64 0] 3)
 have k2 := k1.alloc (by omega) (.cells #[.int .i64 0] 3)
 generalize w1.alloc (.cells #[.int .i64 0] 3) = w2 at *
 have b3 := Blk.new w2 3 #[]
 have b13 := b12.alloc (.cells #[] 3)
 have b23 := b2.alloc (.cells #[] 3)
 have z3 := World.size_alloc w2 (.cells #[] 3)
 have k3 := k2.alloc (by omega) (.cells #[] 3)
 generalize w2.alloc (.cells #[] 3) = w3 at *
 rw [z1] at b23
 rw [z2, z1] at b3
 have b4 := Blk.new w3 25 #[.slice (some ⟨w.heap.size + 1, 0, none⟩) 1 1, .slice (some ⟨w.heap.size + 1 + 1, 0, none⟩) 0 0]
 have b14 := b13.alloc (.cells #[.slice (some ⟨w.heap.size + 1, 0, none⟩) 1 1, .slice (some ⟨w.heap.size + 1 + 1, 0, none⟩) 0 0] 25)
 have b24 := b23.alloc (.cells #[.slice (some ⟨w.heap.size + 1, 0, none⟩) 1 1, .slice (some ⟨w.heap.size + 1 + 1, 0, none⟩) 0 0] 25)
 have b34 := b3.alloc (.cells #[.slice (some ⟨w.heap.size + 1, 0, none⟩) 1 1, .slice (some ⟨w.heap.size + 1 + 1, 0, none⟩) 0 0] 25)
 have z4 := World.size_alloc w3 (.cells #[.slice (some ⟨w.heap.size + 1, 0, none⟩) 1 1, .slice (some ⟨w.heap.size + 1 + 1, 0, none⟩) 0 0] 25)
 have k4 := k3.alloc (by omega) (.cells #[.slice (some ⟨w.heap.size + 1, 0, none⟩) 1 1, .slice (some ⟨w.heap.size + 1 + 1, 0, none⟩) 0 0] 25)
 generalize w3.alloc (.cells #[.slice (some ⟨w.heap.size + 1, 0, none⟩) 1 1, .slice (some ⟨w.heap.size + 1 + 1, 0, none⟩) 0 0] 25) = w4 at *
 rw [z3, z2, z1] at b4
 have b5 := Blk.new w4 28 #[.slice (some ⟨w.heap.size, 0, none⟩) 2 2, .slice (some ⟨w.heap.size + 1 + 1 + 1, 0, none⟩) 2 2]
 have b15 := b14.alloc (.cells #[.slice (some ⟨w.heap.size, 0, none⟩) 2 2, .slice (some ⟨w.heap.size + 1 + 1 + 1, 0, none⟩) 2 2] 28)
 have b25 := b24.alloc (.cells #[.slice (some ⟨w.heap.size, 0, none⟩) 2 2, .slice (some ⟨w.heap.size + 1 + 1 + 1, 0, none⟩) 2 2] 28)
 have b35 := b34.alloc (.cells #[.slice (some ⟨w.heap.size, 0, none⟩) 2 2, .slice (some ⟨w.heap.size + 1 + 1 + 1, 0, none⟩) 2 2] 28)
 have b45 := b4.alloc (.cells #[.slice (some ⟨w.heap.size, 0, none⟩) 2 2, .slice (some ⟨w.heap.size + 1 + 1 + 1, 0, none⟩) 2 2] 28)
 have z5 := World.size_alloc w4 (.cells #[.slice (some ⟨w.heap.size, 0, none⟩) 2 2, .slice (some ⟨w.heap.size + 1 + 1 + 1, 0, none⟩) 2 2] 28)
 have k5 := k4.alloc (by omega) (.cells #[.slice (some ⟨w.heap.size, 0, none⟩) 2 2, .slice (some ⟨w.heap.size + 1 + 1 + 1, 0, none⟩) 2 2] 28)
 rw [← e5] at *
 rw [z4, z3, z2, z1] at b5
 refine ⟨b5, (Cells.blk' (xs := intCells [0, 1]) b15).more (by omega), fun _ => ⟨_, 0, rfl, by omega, fun i hi => ?_⟩, k5⟩
 match i, hi with
 | 0, _ => exact ⟨_, 1, b45.cell 0, (Cells.blk' (xs := intCells [0]) b25).more (by omega)⟩
 | 1, _ => exact ⟨_, 0, b45.cell 1, fun h => absurd h (by simp [intCells])⟩
end Go.Proofs.YtneeknlhlkpnpaaGreat
namespace Go.Proofs.YtneeknlhlkpnpaaGreat
open Go.RowKit
set_option maxRecDepth 20000 in
set_option maxHeartbeats 4000000 in
theorem speaks11_any (w : World) : Calls Tryz.prog 19 #[] w fun e w' => e = .returned (.bool true) ∧ Below w.heap.size w w' := by
 go_enter Tryz.func19, Tryz.ntmps19
 go_upto_region 2 with fail
 have b1 := Blk.new w 66 #[.int .i64 0, .int .i64 1]
 have z1 := World.size_alloc w (.cells #[.int .i64 0, .int .i64 1] 66)
 have k1 := (Below.refl w.heap.size w).alloc (Nat.le_refl _) (.cells #[.int .i64 0, .int .i64 1] 66)
 generalize w.alloc (.cells #[.int .i64 0, .int .i64 1] 66) = w1 at *
 have b2 := Blk.new w1 24 #[.int .i64 2, .slice (some ⟨w.heap.size, 0, none⟩) 1 1]
 have b1' := b1.alloc (.cells #[.int .i64 2, .slice (some ⟨w.heap.size, 0, none⟩) 1 1] 24)
 have z2 := World.size_alloc w1 (.cells #[.int .i64 2, .slice (some ⟨w.heap.size, 0, none⟩) 1 1] 24)
 have k2 := k1.alloc (by omega) (.cells #[.int .i64 2, .slice (some ⟨w.heap.size, 0, none⟩) 1 1] 24)
 generalize w1.alloc (.cells #[.int .i64 2, .slice (some ⟨w.heap.size, 0, none⟩) 1 1] 24) = w2 at *
 rw [z1] at b2
 obtain ⟨gE, hgE⟩ : ∃ gE, gE = w.heap.size := ⟨_, rfl⟩
 obtain ⟨gG, hgG⟩ : ∃ gG, gG = w.heap.size + 1 := ⟨_, rfl⟩
 rw [← hgG] at b2
 rw [← hgE] at b1' b2
 rw [← hgG, ← hgE]
 have HB := Lib.hid k2
 have HE := Lib.hid (show Cells w2 w2.heap.size (some ⟨gE, 0, none⟩) (edgeCells [(0, 1)]) from (Cells.blk' (xs := edgeCells [(0, 1)]) b1').more b1'.lt)
 have HG := Lib.hid b2
 have hgl : gG < w2.heap.size := b2.lt
 clear b1 b1' b2 k1 k2 z1 z2 hgE hgG
 have HP0 := plan01 w2
 simp only at HP0
 have HP := Lib.hid HP0
 clear HP0
 go_upto_region 3 with fail
 generalize ((((w2.alloc (.cells #[.int .i64 0, .int .i64 1] 3)).alloc (.cells #[.int .i64 0] 3)).alloc (.cells #[] 3)).alloc (.cells #[.slice (some ⟨w2.heap.size + 1, 0, none⟩) 1 1, .slice (some ⟨w2.heap.size + 1 + 1, 0, none⟩) 0 0] 25)).alloc (.cells #[.slice (some ⟨w2.heap.size, 0, none⟩) 2 2, .slice (some ⟨w2.heap.size + 1 + 1 + 1, 0, none⟩) 2 2] 28) = w3 at *
 obtain ⟨gP, hgP⟩ : ∃ g, g = w2.heap.size + 1 + 1 + 1 + 1 := ⟨_, rfl⟩
 rw [← hgP] at HP ⊢
 clear hgP
 have hb3 := HP.out.bel
 have HE3 := Lib.hid ((HE.out.below hb3).more hb3.size)
 have HG3 := Lib.hid (HG.out.below hb3 hgl)
 have HB3 := Lib.hid (HB.out.trans (hb3.mono HB.out.size))
 have hgl3 : gG < w3.heap.size := HG3.out.lt
 have c0 := HG3.out.cell 0
 have c1 := HG3.out.cell 1
 have p0 := HP.out.p0
 have p1 := HP.out.p1
 simp only [List.getElem?_toArray, List.getElem?_cons_zero, List.getElem?_cons_succ] at c0 c1
 have hol : ∀ l ∈ ([[0], []] : List (List Int)), l.length ≤ 1000 := by simp
 clear hb3
 go_wp2_with fail
 refine (turn_any 2 (some ⟨gE, 0, none⟩) (some ⟨w2.heap.size, 0, none⟩) (some ⟨w2.heap.size + 1 + 1 + 1, 0, none⟩) 1 2 2 [(0, 1)] [0, 1] [[0], []] w3 HE3.out (by simp) HP.out.o HP.out.u (by simp) hol).mono ?_
 rintro e w4 ⟨hb4, hcase⟩
 have HP4 := Lib.hid (HP.out.next hb4)
 have HE4 := Lib.hid ((HE3.out.below hb4).more hb4.size)
 have HG4 := Lib.hid (HG3.out.below hb4 hgl3)
 have HB4 := Lib.hid (HB3.out.trans (hb4.mono HB3.out.size))
 rcases hcase with ⟨en, C, c, _, hrun, rfl, hrw⟩ | ⟨hno, _⟩
 case inr => exact absurd ⟨ex11_good, by rw [show ((2 : Int).toNat) = 2 from rfl, ex11_run]; rfl⟩ hno
 rw [show ((2 : Int).toNat) = 2 from rfl] at hrun hrw ⊢
 rw [ex11_run] at hrun
 injection hrun with hrun
 subst hrun
 rw [ex11_turn] at hrw
 have HRW4 := Lib.hid hrw.at_
 have hgl4 : gG < w4.heap.size := HG4.out.lt
 clear hb4 hrw c0 c1 p0 p1
 have c0 := HG4.out.cell 0
 have c1 := HG4.out.cell 1
 have p0 := HP4.out.p0
 have p1 := HP4.out.p1
 simp only [List.getElem?_toArray, List.getElem?_cons_zero, List.getElem?_cons_succ] at c0 c1
 go_wp2_with fail
 refine (great_any 2 (some ⟨gE, 0, none⟩) (some ⟨w2.heap.size, 0, none⟩) (some ⟨w2.heap.size + 1 + 1 + 1, 0, none⟩) 1 2 2 [(0, 1)] [0, 1] [[0], []] w4 HE4.out (by simp) HP4.out.o HP4.out.u (by simp) hol (fun en h1 h2 => run_flat h1 h2)).mono ?_
 rintro e w5 ⟨hb5, hcase⟩
 have HE5 := Lib.hid ((HE4.out.below hb5).more hb5.size)
 have HG5 := Lib.hid (HG4.out.below hb5 hgl4)
 have HB5 := Lib.hid (HB4.out.trans (hb5.mono HB4.out.size))
 have HRW5 := Lib.hid ((HRW4.out.below hb5).more hb5.size)
 rcases hcase with ⟨en, L, cl, _, hrun, rfl, hgr⟩ | ⟨hno, _⟩
 case inr => exact absurd ⟨ex11_good, by rw [show ((2 : Int).toNat) = 2 from rfl, ex11_run]; rfl⟩ hno
 rw [show ((2 : Int).toNat) = 2 from rfl] at hrun hgr ⊢
 rw [ex11_run] at hrun
 injection hrun with hrun
 subst hrun
 rw [ex11_turn] at hgr ⊢
 rw [ex11_great] at hgr
 rw [ex11_out]
 have HGR5 := Lib.hid hgr
 have hgl5 : gG < w5.heap.size := HG5.out.lt
 clear hb5 hgr c0 c1 p0 p1
 have HB6 := Lib.hid (Blk.new w5 3 #[.int .i64 0, .int .i64 1])
 have hb6 := (Below.refl w5.heap.size w5).alloc (Nat.le_refl _) (.cells #[.int .i64 0, .int .i64 1] 3)
 have HE6 := Lib.hid ((HE5.out.below hb6).more hb6.size)
 have HG6 := Lib.hid (HG5.out.below hb6 hgl5)
 have HB56 := Lib.hid (HB5.out.trans (hb6.mono HB5.out.size))
 have HRW6 := Lib.hid ((HRW5.out.below hb6).more hb6.size)
 have HGR6 := Lib.hid ((HGR5.out.below hb6).more hb6.size)
 clear hb6
 go_wp2_with fail
 generalize w5.alloc (.cells #[.int .i64 0, .int .i64 1] 3) = w6 at *
 refine (same_any L (some ⟨w5.heap.size, 0, none⟩) cl 2 [0, 1] [0, 1] w6 w6.heap.size HGR6.out ((Cells.blk' (xs := intCells [0, 1]) HB6.out).more HB6.out.lt) (by simp) (by simp)).mono ?_
 rintro e w7 ⟨rfl, m, rfl⟩
 have hd : decide (([0, 1] : List Int) = [0, 1]) = true := by simp
 rw [hd]
 have HB7 := Lib.hid (below_drewN HB56.out m)
 have HE7 := Lib.hid (show Cells (w6.drewN m) (w6.drewN m).heap.size (some ⟨gE, 0, none⟩) (edgeCells [(0, 1)]) from HE6.out.drewN m)
 have HG7 := Lib.hid (HG6.out.drewN m)
 have hbm := below_drewN (Below.refl w6.heap.size w6) m
 have HRW7 := Lib.hid ((HRW6.out.below hbm).more hbm.size)
 have HGR7 := Lib.hid ((HGR6.out.below hbm).more hbm.size)
 clear hd hbm
 generalize w6.drewN m = w7 at *
 have hgl7 : gG < w7.heap.size := HG7.out.lt
 have c0 := HG7.out.cell 0
 have c1 := HG7.out.cell 1
 simp only [List.getElem?_toArray, List.getElem?_cons_zero, List.getElem?_cons_succ] at c0 c1
 have HFT := fits_any 2 (some ⟨gE, 0, none⟩) C L 1 c cl [(0, 1)] [[0], [1]] 0 [0, 1] w7 HE7.out (by simp) HRW7.out (by simp) (by simp) HGR7.out (by simp) (by simp)
 rw [ex11_fits] at HFT
 go_wp2_with fail
 refine HFT.mono ?_
 rintro e w8 ⟨rfl, hb8⟩
 have HB8 := Lib.hid (HB7.out.trans (hb8.mono HB7.out.size))
 have HRW8 := Lib.hid ((HRW7.out.below hb8).more hb8.size)
 have HR9 := Lib.hid (rows01 w8)
 clear HFT hb8 c0 c1
 go_wp2_with fail
 generalize ((w8.alloc (.cells #[.int .i64 0] 3)).alloc (.cells #[.int .i64 1] 3)).alloc (.cells #[.slice (some ⟨w8.heap.size, 0, none⟩) 1 1, .slice (some ⟨w8.heap.size + 1, 0, none⟩) 1 1] 25) = w9 at *
 have HB9 := Lib.hid (HB8.out.trans (HR9.out.2.mono HB8.out.size))
 have HSM := same11_any C (some ⟨w8.heap.size + 1 + 1, 0, none⟩) c 2 [[0], [1]] [[0], [1]] w9 ((HRW8.out.below HR9.out.2).more HR9.out.2.size) HR9.out.1 (by simp) (by simp) (by simp)
 rw [ex11_same] at HSM
 refine HSM.mono ?_
 rintro e w10 ⟨rfl, hb10⟩
 have HB10 := Lib.hid (HB9.out.trans (hb10.mono HB9.out.size))
 clear HSM hb10
 go_wp2_with fail
 go_ret
 exact ⟨rfl, HB10.out⟩
end Go.Proofs.YtneeknlhlkpnpaaGreat
