import Derived.Test.YtelcofkjpkdjiaaZAsg
import Derived.Test.YtelcofkjpkdjiaaZFit2
/-
  Law AngleSwitches: walked. Written by an AI agent.
-/
namespace Go.Proofs.Ytelcofkjpkdjiaa
open Go.RowKit

/-- of each face: its Low angles less its High ones, of the first i angles -/
def cntT (Fc Kd : Nat → Nat) (F i : Nat) : List Int := (List.range F).map fun f => (((List.range i).countP fun h => decide (Fc h = f) && decide (Kd h = 1) : Nat) : Int) - (((List.range i).countP fun h => decide (Fc h = f) && decide (Kd h = 2) : Nat) : Int)
def highN (Kd : Nat → Nat) (i : Nat) : Nat := (List.range i).countP fun h => decide (Kd h = 2)
theorem highN_succ (Kd : Nat → Nat) (i : Nat) : highN Kd (i + 1) = highN Kd i + if Kd i = 2 then 1 else 0 := by
  unfold highN
  rw [List.range_succ, List.countP_append]
  simp
theorem highN_le (Kd : Nat → Nat) (i : Nat) : highN Kd i ≤ i := Nat.le_trans List.countP_le_length (by simp)
theorem cntT_length (Fc Kd : Nat → Nat) (F i : Nat) : (cntT Fc Kd F i).length = F := by simp [cntT]
theorem cntT_zero (Fc Kd : Nat → Nat) (F : Nat) : cntT Fc Kd F 0 = List.replicate F 0 := by
  apply List.ext_getElem
  · simp [cntT]
  · intro i h1 h2
    simp [cntT]
theorem cntT_getD {Fc Kd : Nat → Nat} {F i f : Nat} (hf : f < F) : (cntT Fc Kd F i).getD f 0 = (((List.range i).countP fun h => decide (Fc h = f) && decide (Kd h = 1) : Nat) : Int) - (((List.range i).countP fun h => decide (Fc h = f) && decide (Kd h = 2) : Nat) : Int) := by
  unfold cntT
  rw [List.getD_eq_getElem?_getD, List.getElem?_map, List.getElem?_range hf]
  rfl
theorem cntT_low {Fc Kd : Nat → Nat} {F i : Nat} (hf : Fc i < F) (h : Kd i = 1) : (cntT Fc Kd F i).set (Fc i) ((cntT Fc Kd F i).getD (Fc i) 0 + 1) = cntT Fc Kd F (i + 1) := by
  rw [cntT_getD hf]
  unfold cntT
  refine map_range_set F (Fc i) _ _ _ ?_ (fun f hx => ?_)
  · rw [List.range_succ, List.countP_append, List.countP_append]
    simp only [List.countP_cons, List.countP_nil, h]
    simp
    omega
  · rw [List.range_succ, List.countP_append, List.countP_append]
    simp only [List.countP_cons, List.countP_nil, decide_eq_false (p := Fc i = f) (fun e => hx e.symm)]
    simp
theorem cntT_high {Fc Kd : Nat → Nat} {F i : Nat} (hf : Fc i < F) (h : Kd i = 2) : (cntT Fc Kd F i).set (Fc i) ((cntT Fc Kd F i).getD (Fc i) 0 - 1) = cntT Fc Kd F (i + 1) := by
  rw [cntT_getD hf]
  unfold cntT
  refine map_range_set F (Fc i) _ _ _ ?_ (fun f hx => ?_)
  · rw [List.range_succ, List.countP_append, List.countP_append]
    simp only [List.countP_cons, List.countP_nil, h]
    simp
    omega
  · rw [List.range_succ, List.countP_append, List.countP_append]
    simp only [List.countP_cons, List.countP_nil, decide_eq_false (p := Fc i = f) (fun e => hx e.symm)]
    simp
theorem cntT_skip {Fc Kd : Nat → Nat} {F i : Nat} (h1 : Kd i ≠ 1) (h2 : Kd i ≠ 2) : cntT Fc Kd F (i + 1) = cntT Fc Kd F i := by
  unfold cntT
  refine List.map_congr_left fun f _ => ?_
  rw [List.range_succ, List.countP_append, List.countP_append]
  simp only [List.countP_cons, List.countP_nil, decide_eq_false h1, decide_eq_false h2]
  simp
theorem cntT_le {Fc Kd : Nat → Nat} {F i f : Nat} (hf : f < F) : -(i : Int) ≤ (cntT Fc Kd F i).getD f 0 ∧ (cntT Fc Kd F i).getD f 0 ≤ i := by
  rw [cntT_getD hf]
  have h1 : ((List.range i).countP fun h => decide (Fc h = f) && decide (Kd h = 1)) ≤ i := Nat.le_trans List.countP_le_length (by simp)
  have h2 : ((List.range i).countP fun h => decide (Fc h = f) && decide (Kd h = 2)) ≤ i := Nat.le_trans List.countP_le_length (by simp)
  omega
theorem cnt_end {n : Int} {es : List (Int × Int)} {rs : List (List Int)} (hR : RightP n es rs) {F f : Nat} (hf : f < F) : (cntT (angF n es rs) (angK es rs) F (2 * es.length)).getD f 0 = 0 := by
  rw [cntT_getD hf, low_high hR f]
  omega
theorem high_end {n : Int} {es : List (Int × Int)} {rs : List (List Int)} (h : askA n es rs = true) (he : 0 < es.length) (hb : bimB rs = true) : (highN (angK es rs) (2 * es.length) : Int) = (es.length : Int) - ((rs.length : Int) - ((endsL rs.length es).length : Int)) := by
  have hP := ask_right h
  have h1 := high_count hP (right_inN hP) ((bim_iff hP).1 hb)
  have h2 := ends_count (right_inN hP) (by have h3 := h; unfold askA at h3; simp only [Bool.and_eq_true, decide_eq_true_eq] at h3; exact h3.2.2.2) he
  unfold highN
  omega
set_option maxRecDepth 20000 in
set_option maxHeartbeats 8000000 in
theorem angSw_any (n : Int) (A C : Option Addr) (cap ccap : Nat) (es : List (Int × Int)) (rs : List (List Int)) (w : World) (hes : Cells w w.heap.size A (edgeCells es)) (hrs : RowsAt w w.heap.size C rs) :
    Calls Try.prog 5 #[.agg #[.int .i64 n, .slice A es.length cap], .slice C rs.length ccap] w (fun e w' => e = .returned (.bool true) ∧ Below w.heap.size w w') := by
  have S1 := Lib.hid (SG.start n cap hes hrs)
  clear hes hrs
  go_enter Try.func5, Try.ntmps5
  go_upto_region 1 with fail
  generalize w.alloc (.cells #[.int .i64 n, .slice A es.length cap] 24) = w1 at *
  go_wp2_with fail
  refine (speaks6_any w1).mono ?_
  rintro e w2 ⟨rfl, hb2⟩
  have S2 := Lib.hid (S1.out.next hb2)
  have g0 := S2.out.g0
  have g1 := S2.out.g1
  clear hb2 S1
  go_wp2_with fail
  refine (great2_any n A C cap ccap es rs 60 w2 S2.out.rs).mono ?_
  rintro e w3 ⟨b, rfl, hb3, hgr⟩
  have S3 := Lib.hid (S2.out.next hb3)
  clear hb3 S2 g0 g1
  have g0 := S3.out.g0
  have g1 := S3.out.g1
  cases b with
  | true =>
    clear hgr
    go_wp2_with fail
    go_ret
    exact ⟨rfl, S3.out.below⟩
  | false =>
    obtain ⟨h1, h2, h3⟩ := hgr rfl
    have hr1 : rs.length ≤ 1000 := by omega
    have HR2 := Lib.hid (show ∀ l ∈ rs, l.length ≤ 1000 from fun l hl => by have := h3 l hl; omega)
    clear hgr h3
    have hodd := odd_any n A C cap ccap es rs w3 S3.out.es S3.out.rs hr1 HR2.out
    go_wp2_with fail
    refine hodd.mono ?_
    rintro e w4 ⟨rfl, hb4⟩
    have S4 := Lib.hid (S3.out.next hb4)
    clear hb4 g0 g1 hodd
    have g0 := S4.out.g0
    have g1 := S4.out.g1
    cases ha : askA n es rs with
    | false =>
      clear ha
      go_wp2_with fail
      go_ret
      exact ⟨rfl, S4.out.below⟩
    | true =>
      by_cases he : es.length = 0
      · have he' : ((es.length : Int) == 0) = true := by rw [he]; rfl
        clear he ha
        go_wp2_with fail
        go_ret
        exact ⟨rfl, S4.out.below⟩
      · have he' : ((es.length : Int) == 0) = false := by rw [beq_eq_false_iff_ne]; omega
        have hep : 0 < es.length := by omega
        have HA := Lib.hid ha
        have HP := Lib.hid (ask_right ha)
        obtain ⟨N, hN⟩ : ∃ N, N = rs.length := ⟨_, rfl⟩
        have hnN : n = (N : Int) := by rw [hN]; exact HP.out.len.symm
        subst hnN
        have HNN := Lib.hid hN
        have HAR := Lib.hid (show angR N es rs = angL N es rs by unfold angR; rw [if_pos ha])
        have hFl := faces_le HP.out
        have hN1 : N ≤ 70 := by omega
        have HFc := Lib.hid (show ∀ h, h < 2 * es.length → angF N es rs h < (facesOf N es rs).length from fun h hh => (angF_spec HP.out hh).1)
        have HKd := Lib.hid (show ∀ h, h < 2 * es.length → angK es rs h ≤ 2 from fun h _ => by unfold angK kindF; split <;> (try split) <;> omega)
        have HHE := Lib.hid (high_end ha hep)
        have HCE := Lib.hid (fun f (h : f < (facesOf N es rs).length) => cnt_end HP.out h)
        clear he ha hN h2
        go_wp2_with fail
        refine (faces_any N A C cap ccap es rs w4 S4.out.es S4.out.rs hr1 HR2.out).mono ?_
        rintro e w5 ⟨A5, c5, rfl, hb5, _⟩
        have S5 := Lib.hid (S4.out.next hb5)
        clear hb5 g0 g1
        obtain ⟨F, hF⟩ : ∃ F, F = (facesOf N es rs).length := ⟨_, rfl⟩
        rw [← hF] at HFc HCE hFl
        rw [← hF]
        clear hF
        have hmk := fun W => run_make1 elemInt rfl F (by omega) (by omega) W
        have HC6 := Lib.hid (Blk.new w5 3 (Array.replicate F (.int .i64 0)))
        have hb6 := (Below.refl w5.heap.size w5).alloc (Nat.le_refl _) (.cells (Array.replicate F (.int .i64 0)) 3)
        have hz6 := World.size_alloc w5 (.cells (Array.replicate F (.int .i64 0)) 3)
        have S6 := Lib.hid (S5.out.next hb6)
        have HWG := Lib.hid (show w.heap.size ≤ w5.heap.size from Nat.le_of_lt S5.out.lt)
        have HB56 := Lib.hid hb6
        clear hb6
        go_upto_region 6 with fail
        obtain ⟨gC, hgC⟩ : ∃ gC, gC = w5.heap.size := ⟨_, rfl⟩
        rw [← hgC] at HC6 hz6 HWG HB56
        have HGC := Lib.hid hgC
        rw [← hgC]
        generalize w5.alloc (.cells (Array.replicate F (.int .i64 0)) 3) = w6 at *
        have HC6' := Lib.hid (show Blk w6 gC 3 (intCells (cntT (angF N es rs) (angK es rs) F 0)).toArray by rw [cntT_zero]; simpa [intCells] using HC6.out)
        have g0 := S6.out.g0
        have g1 := S6.out.g1
        clear hmk hgC HC6
        go_wp2_with fail
        refine (angs_any N A C cap ccap es rs w6 S6.out.es S6.out.rs hr1 HR2.out).mono ?_
        rw [HAR.out]
        rintro e w7 ⟨A7, c7, rfl, hb7, hc7, hge⟩
        rw [angL_length]
        rw [angL_qu] at hc7
        have S7 := Lib.hid (S6.out.next hb7)
        have HC7 := Lib.hid (HC6'.out.below hb7 HC6'.out.lt)
        have HQ7 := Lib.hid hc7
        have HB67 := Lib.hid (show Below gC w6 w7 from hb7.mono (by omega))
        have HGE := Lib.hid hge
        have hz7 := hb7.size
        clear hb7 hc7 hge HC6' g0 g1
        have g0 := S7.out.g0
        have g1 := S7.out.g1
        have hne : ((2 * es.length : Nat) != (2 * (es.length : Int))) = false := by simp
        have hwm : IntKind.i64.wrap (2 * (es.length : Int)) = 2 * (es.length : Int) := by rw [IntKind.wrap_i64]; omega
        obtain ⟨M, hM⟩ : ∃ M, M = 2 * es.length := ⟨_, rfl⟩
        have HM := Lib.hid hM
        have hwm : IntKind.i64.wrap (2 * (es.length : Int)) = (M : Int) := by rw [IntKind.wrap_i64]; omega
        have hMM : ((M : Int) != 2 * (es.length : Int)) = false := by rw [bne_eq_false_iff_eq]; omega
        rw [← hM] at HFc HKd HHE HCE HQ7
        rw [← hM]
        have hM2 : M ≤ 120 := by omega
        have hF2 : F ≤ 120 := by omega
        generalize angF N es rs = Fc at *
        obtain ⟨Kd, hKd⟩ : ∃ Kd, Kd = angK es rs := ⟨_, rfl⟩
        rw [← hKd] at HKd HHE HCE HQ7 HC7
        generalize vtx es = V at *
        clear hM hKd hFl hep
        go_upto_region 9 with fail
        obtain ⟨w8, rfl⟩ : ∃ y, y = w7 := ⟨_, rfl⟩
        clear g0 g1
        go_wp2_with fail
        go_loopg [6, 46] M (fun k s6 s46 wr => ∃ i : Nat, s46 = .int .i64 i ∧ s6 = .int .i64 (highN Kd i : Nat) ∧ i ≤ M ∧ k = M - i ∧ But [gC] w8 wr ∧ Blk wr gC 3 (intCells (cntT Fc Kd F i)).toArray)
        case atStart => exact ⟨0, rfl, rfl, Nat.zero_le _, rfl, But.refl _ _, HC7.out⟩
        case round =>
          obtain ⟨i, rfl, rfl, hi, hk, hb, hbl⟩ := hrel
          have Hk := Lib.hid hk
          have HB := Lib.hid hb
          have HBL := Lib.hid hbl
          clear hk hb hbl
          by_cases hil : i < M
          · have hil' : (i : Int) < M := by omega
            obtain ⟨ba, oa, rfl, hba, hca⟩ := HQ7.out.qu (by omega)
            have hgA := HGE.out _ rfl
            simp only at hgA
            obtain ⟨d0, d1, d2, d3⟩ := hca i hil
            have hbg : ba ≠ gC := by omega
            have hkeep : ∀ j, wr.cell? ⟨ba, j, none⟩ = w8.cell? ⟨ba, j, none⟩ := fun j => World.cell?_of_block (HB.out.block ba hba (by simpa using hbg))
            have e0 := (hkeep _).trans d0
            have e1 := (hkeep _).trans d1
            have e2 := (hkeep _).trans d2
            have e3 := (hkeep _).trans d3
            have hfl := HFc.out i hil
            have hk2 := HKd.out i hil
            have HL1 := Lib.hid (fun h => cntT_low (Fc := Fc) (Kd := Kd) (F := F) (i := i) hfl h)
            have HL2 := Lib.hid (fun h => cntT_high (Fc := Fc) (Kd := Kd) (F := F) (i := i) hfl h)
            have HL3 := Lib.hid (fun h h' => cntT_skip (Fc := Fc) (Kd := Kd) (F := F) (i := i) h h')
            have HS := Lib.hid (highN_succ Kd i)
            have hhl := highN_le Kd i
            have hcl := cntT_le (Fc := Fc) (Kd := Kd) (i := i) hfl
            have cr0 := HBL.out.int_ (k := Fc i) (by rw [cntT_length]; exact hfl)
            obtain ⟨v, hv⟩ : ∃ v, v = V i := ⟨_, rfl⟩
            obtain ⟨fc, hfc⟩ : ∃ fc, fc = Fc i := ⟨_, rfl⟩
            obtain ⟨kd, hkd⟩ : ∃ kd, kd = Kd i := ⟨_, rfl⟩
            obtain ⟨hh, hhh⟩ : ∃ hh, hh = highN Kd i := ⟨_, rfl⟩
            rw [← hv] at e1
            rw [← hfc] at e2 hfl HL1 HL2 hcl cr0
            rw [← hkd] at e3 hk2 HS HL1 HL2 HL3
            rw [← hhh] at HS hhl
            rw [← hhh]
            obtain ⟨cv, hcv⟩ : ∃ cv, cv = (cntT Fc Kd F i).getD fc 0 := ⟨_, rfl⟩
            rw [← hcv] at HL1 HL2 hcl cr0
            have HCV := Lib.hid hcv
            clear hv hfc hkd hca d0 d1 d2 d3 hkeep hhh hcv
            have hfl' : (fc : Int) < F := by omega
            have hfn : decide ((fc : Int) < 0) = false := decide_eq_false (by omega)
            have hfg : decide ((fc : Int) ≥ (F : Int)) = false := decide_eq_false (by omega)
            have HA4 := Lib.hid (Blk.new wr 35 #[.int .i64 (i : Int), .int .i64 (v : Nat), .int .i64 (fc : Nat), .int .i64 (kd : Nat)])
            have hb4 := (Below.refl wr.heap.size wr).alloc (Nat.le_refl _) (.cells #[.int .i64 (i : Int), .int .i64 (v : Nat), .int .i64 (fc : Nat), .int .i64 (kd : Nat)] 35)
            have HB4 := Lib.hid (HB.out.trans (But.of_below [gC] hb4 (Nat.le_refl _)))
            have HBL4 := Lib.hid (HBL.out.below hb4 HBL.out.lt)
            have hszw := HB.out.size
            have hz4 := World.size_alloc wr (.cells #[.int .i64 (i : Int), .int .i64 (v : Nat), .int .i64 (fc : Nat), .int .i64 (kd : Nat)] 35)
            have hgl := HBL.out.lt
            clear hb4 cr0
            go_upto_region 12 with fail
            obtain ⟨gA, hgA4⟩ : ∃ gA, gA = wr.heap.size := ⟨_, rfl⟩
            rw [← hgA4] at HA4 hz4 hgl
            rw [← hgA4]
            generalize wr.alloc (.cells #[.int .i64 (i : Int), .int .i64 (v : Nat), .int .i64 (fc : Nat), .int .i64 (kd : Nat)] 35) = w9 at *
            have a2 := HA4.out.cell 2
            have a3 := HA4.out.cell 3
            simp only [List.getElem?_toArray, List.getElem?_cons_zero, List.getElem?_cons_succ] at a2 a3
            have cr := HBL4.out.int_ (k := fc) (by rw [cntT_length]; exact hfl)
            have fr := HBL4.out.frozen fc
            rw [← HCV.out] at cr
            have hwh : IntKind.i64.wrap ((hh : Int) + 1) = ((hh + 1 : Nat) : Int) := by rw [IntKind.wrap_i64]; omega
            have hk3 : kd = 0 ∨ kd = 1 ∨ kd = 2 := by omega
            clear hgA4 hk2 e0 e1 e2 e3
            rcases hk3 with rfl | rfl | rfl
            · have HN := Lib.hid (show Blk w9 gC 3 (intCells (cntT Fc Kd F (i + 1))).toArray by rw [HL3.out (by decide) (by decide)]; exact HBL4.out)
              have HS2 := Lib.hid (show highN Kd (i + 1) = hh by rw [HS.out]; rfl)
              go_wp2_with fail
              go_roundg (M - (i + 1))
              case measure => rw [Hk.out]; omega
              case rel => exact ⟨i + 1, by go_num, by rw [HS2.out], by omega, rfl, HB4.out, HN.out⟩
            · have HN := Lib.hid (show Blk (w9.setCell ⟨gC, fc, none⟩ (.int .i64 (cv + 1))) gC 3 (intCells (cntT Fc Kd F (i + 1))).toArray by rw [← HL1.out rfl]; exact HBL4.out.setInt fc (cv + 1))
              have HBN := Lib.hid (HB4.out.trans (But.set_ w9 (show gC ∈ [gC] by simp) fc (.int .i64 (cv + 1))))
              have HS2 := Lib.hid (show highN Kd (i + 1) = hh by rw [HS.out]; rfl)
              have hwv : IntKind.i64.wrap (cv + 1) = cv + 1 := by rw [IntKind.wrap_i64]; omega
              go_wp2_with fail
              go_roundg (M - (i + 1))
              case measure => rw [Hk.out]; omega
              case rel => exact ⟨i + 1, by go_num, by rw [HS2.out], by omega, rfl, HBN.out, HN.out⟩
            · have HN := Lib.hid (show Blk (w9.setCell ⟨gC, fc, none⟩ (.int .i64 (cv - 1))) gC 3 (intCells (cntT Fc Kd F (i + 1))).toArray by rw [← HL2.out rfl]; exact HBL4.out.setInt fc (cv - 1))
              have HBN := Lib.hid (HB4.out.trans (But.set_ w9 (show gC ∈ [gC] by simp) fc (.int .i64 (cv - 1))))
              have HS2 := Lib.hid (show highN Kd (i + 1) = hh + 1 by rw [HS.out]; rfl)
              have hwv : IntKind.i64.wrap (cv - 1) = cv - 1 := by rw [IntKind.wrap_i64]; omega
              go_wp2_with fail
              go_roundg (M - (i + 1))
              case measure => rw [Hk.out]; omega
              case rel => exact ⟨i + 1, by go_num, by rw [HS2.out]; rfl, by omega, rfl, HBN.out, HN.out⟩
          · have hie : i = M := by omega
            have hil' : ¬ (i : Int) < M := by omega
            subst hie
            have HCN := Lib.hid (show Blk wr gC 3 (intCells (cntT Fc Kd F i)).toArray from HBL.out)
            have hgz : gC < w8.heap.size := HC7.out.lt
            have S9 := Lib.hid (S5.out.next (by rw [← HGC.out]; exact HB56.out.trans (HB67.out.trans (HB.out.below (B := gC) (by omega) (by simp)))))
            obtain ⟨H, hH⟩ : ∃ H, H = highN Kd i := ⟨_, rfl⟩
            have hHl := highN_le Kd i
            rw [← hH] at HHE hHl
            rw [← hH]
            have hzr := HB.out.size
            clear hil' hH HB HBL
            go_upto_region 21 with fail
            obtain ⟨w10, rfl⟩ : ∃ y, y = wr := ⟨_, rfl⟩
            go_wp2_with fail
            go_loopg [85] F (fun k s85 wr => ∃ j : Nat, s85 = .int .i64 j ∧ j ≤ F ∧ k = F - j ∧ w10 = wr)
            case atStart => exact ⟨0, rfl, Nat.zero_le _, rfl, rfl⟩
            case round =>
              obtain ⟨j, rfl, hj, hk, rfl⟩ := hrel
              have Hk := Lib.hid hk
              clear hk
              by_cases hjl : j < F
              · have hjl' : (j : Int) < F := by omega
                have cr := HCN.out.int_ (k := j) (by rw [cntT_length]; exact hjl)
                have h0 : (cntT Fc Kd F i).getD j 0 = 0 := HCE.out j hjl
                rw [h0] at cr
                clear h0
                go_wp2_with fail
                go_roundg (F - (j + 1))
                case measure => rw [Hk.out]; omega
                case rel => exact ⟨j + 1, by go_num, by omega, rfl, rfl⟩
              · have hje : j = F := by omega
                have hjl' : ¬ (j : Int) < F := by omega
                have g0 := S9.out.g0
                have g1 := S9.out.g1
                have hl9 := S9.out.lt
                have hel : es.length ≤ 1000 := by omega
                have hN2 : N ≤ 1000 := by omega
                have HEI := Lib.hid (endsI_length N es)
                have hEl := endsL_le N es
                have hHE : bimB rs = true → (H : Int) = (es.length : Int) - ((N : Int) - ((endsL N es).length : Int)) := by
                  have := HHE.out
                  rw [← HNN.out] at this
                  exact this
                have HHE2 := Lib.hid hHE
                have hwE : IntKind.i64.wrap ((N : Int) - ((endsL N es).length : Int)) = (N : Int) - ((endsL N es).length : Int) := by rw [IntKind.wrap_i64]; omega
                have HHL := Lib.hid hHl
                have KS := Lib.hid (show ∀ w', Below w10.heap.size w10 w' → w'.cell? ⟨w.heap.size, 0, none⟩ = some (.int .i64 N) ∧ w'.cell? ⟨w.heap.size, 1, none⟩ = some (.slice A es.length cap) from fun w' h => ⟨(h.cell (p := ⟨w.heap.size, 0, none⟩) hl9).trans g0, (h.cell (p := ⟨w.heap.size, 1, none⟩) hl9).trans g1⟩)
                clear hje hHE hHl HCN HCE
                go_upto_region 27 with fail
                go_region_held3 (fun w' => w'.cell? ⟨w.heap.size, 0, none⟩ = some (.int .i64 N) ∧ w'.cell? ⟨w.heap.size, 1, none⟩ = some (.slice A es.length cap))
                  (first | exact ⟨g0, g1⟩ | exact KS.out _ hb11)
                  (first
                    | (go_at_call 19; refine (ref6Ends_any N A cap es _ (by exact S9.out.es) hel hN2).mono ?_; rintro e w11 ⟨v11, rfl, hb11', ho11⟩; have hb11 := below_undrew hb11'; clear hb11'; rw [HEI.out] at ho11; obtain ⟨A11, c11, rfl⟩ := own_slice ho11))
                have S11 := Lib.hid (S9.out.next hb11)
                obtain ⟨EL, hEL⟩ : ∃ EL, EL = (endsL N es).length := ⟨_, rfl⟩
                rw [← hEL] at HHE2 hEl hwE
                rw [← hEL]
                have hbim := fun W h1 h2 => bimo_any N A C cap ccap es rs W h1 h2 hr1 HR2.out
                rw [HA.out, Bool.true_and] at hbim
                have HBIM := Lib.hid hbim
                clear ho11 hb11 g0 g1 KS hEL hbim HEI
                have g0 := S11.out.g0
                have g1 := S11.out.g1
                go_wp2_with fail
                refine (HBIM.out w11 S11.out.es S11.out.rs).mono ?_
                rintro e w12 ⟨rfl, hb12⟩
                have S12 := Lib.hid (S11.out.next hb12)
                clear hb12 g0 g1
                have g0 := S12.out.g0
                have g1 := S12.out.g1
                cases hb : bimB rs with
                | false =>
                  clear hb
                  go_wp2_with fail
                  go_ret
                  exact ⟨rfl, S12.out.below⟩
                | true =>
                  have hHe := HHE2.out hb
                  have hHl := HHL.out
                  have hwH : IntKind.i64.wrap ((es.length : Int) - ((N : Int) - (EL : Int))) = (H : Int) := by rw [IntKind.wrap_i64]; omega
                  have hHH : ((H : Int) == (H : Int)) = true := by simp
                  clear hb hHe hHl
                  go_wp2_with fail
                  go_ret
                  exact ⟨rfl, S12.out.below⟩
end Go.Proofs.Ytelcofkjpkdjiaa
