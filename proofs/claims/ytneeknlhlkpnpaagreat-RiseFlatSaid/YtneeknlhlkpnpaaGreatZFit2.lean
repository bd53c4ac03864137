import Derived.Test.YtneeknlhlkpnpaaGreatZAsg
import Derived.Test.YtneeknlhlkpnpaaGreatZAng1
import Derived.Test.YtneeknlhlkpnpaaGreatZAng0
/-
 The reference's Rooms and Try: what they compute. Written by an AI agent.
-/
namespace Go.Proofs.YtneeknlhlkpnpaaGreat
open Go.RowKit
def fillT (F i : Nat) : List Int := List.replicate i (-1) ++ List.replicate (F - i) 0
theorem fillT_length {F i : Nat} (h : i ≤ F) : (fillT F i).length = F := by simp [fillT]; omega
theorem fillT_set {F i : Nat} (h : i < F) : (fillT F i).set i (-1) = fillT F (i + 1) := by
 unfold fillT
 rw [List.set_append_right (h := by simp), List.length_replicate, Nat.sub_self, show F - i = (F - (i + 1)) + 1 by omega, List.replicate_succ, List.set_cons_zero, List.replicate_succ', List.append_assoc]
 rfl
def RoomPost (l : List Int) (w : World) (e : Ending) (w' : World) : Prop := ∃ g, e = .returned (.slice (some ⟨g, 0, none⟩) l.length l.length) ∧ Below w.heap.size w w' ∧ Blk w' g 3 (intCells l).toArray ∧ w.heap.size ≤ g
noncomputable def roomE (n : Int) (es : List (Int × Int)) (rs : List (List Int)) (f0 : Nat) : List Int := roomT (angF n es rs) (angK es rs) (facesOf n es rs).length f0 (2 * es.length)
set_option maxRecDepth 20000 in
set_option maxHeartbeats 4000000 in
theorem rooms_any (n : Int) (A C : Option Addr) (cap ccap : Nat) (es : List (Int × Int)) (rs : List (List Int)) (f0 : Nat) (w : World) (hes : Cells w w.heap.size A (edgeCells es)) (hrs : RowsAt w w.heap.size C rs) (hr1 : rs.length ≤ 1000) (hr2 : ∀ l ∈ rs, l.length ≤ 1000) (hP : RightP n es rs) (hf : f0 < (facesOf n es rs).length) :
  Calls Tryz.prog 66 #[.agg #[.int .i64 n, .slice A es.length cap], .slice C rs.length ccap, .int .i64 f0] w (RoomPost (roomE n es rs f0) w) := by
 have hm := (may_parts hP.may).2.2
 have S1 := Lib.hid (SG.start n cap hes hrs)
 have HR2 := Lib.hid hr2
 have HP := Lib.hid hP
 have hFl := faces_le hP
 have HRL := Lib.hid (show (roomE n es rs f0).length = (facesOf n es rs).length from roomT_length _ _ _ _ _)
 have HRE := Lib.hid (show roomE n es rs f0 = roomT (angF n es rs) (angK es rs) (facesOf n es rs).length f0 (2 * es.length) from rfl)
 have HFc := Lib.hid (show ∀ h, h < 2 * es.length → angF n es rs h < (facesOf n es rs).length from fun h hh => (angF_spec HP.out hh).1)
 have HKd := Lib.hid (show ∀ h, h < 2 * es.length → angK es rs h ≤ 2 from fun h _ => by unfold angK kindF; split <;> (try split) <;> omega)
 clear hes hrs hr2 hP
 go_enter Tryz.func66, Tryz.ntmps66
 go_upto_region 1 with fail
 generalize w.alloc (.cells #[.int .i64 n, .slice A es.length cap] 24) = w1 at *
 have g0 := S1.out.g0
 have g1 := S1.out.g1
 have hl1 := S1.out.lt
 obtain ⟨F, hF⟩ : ∃ F, F = (facesOf n es rs).length := ⟨_, rfl⟩
 have hfc := refFaces_any n A C cap ccap es rs w1 S1.out.es S1.out.rs hr1 HR2.out HP.out
 rw [← hF] at hFl hf HRL HRE HFc
 have HFE := Lib.hid hF
 clear hF
 have hmk := fun W => run_make1 elemInt rfl F (by omega) (by omega) W
 go_wp2_with fail
 refine hfc.mono ?_
 rintro e w2 ⟨A2, c2, rfl, hb2, _⟩
 have S2 := Lib.hid (S1.out.next hb2)
 rw [← HFE.out]
 have HB3 := Lib.hid (Blk.new w2 3 (Array.replicate F (.int .i64 0)))
 have hb3 := (Below.refl w2.heap.size w2).alloc (Nat.le_refl _) (.cells (Array.replicate F (.int .i64 0)) 3)
 have S3 := Lib.hid (S2.out.next hb3)
 have hz3 := World.size_alloc w2 (.cells (Array.replicate F (.int .i64 0)) 3)
 have HB23 := Lib.hid hb3
 have hwg := Nat.le_of_lt S2.out.lt
 clear hfc hb2 hb3 g0 g1 hl1
 go_upto_region 2 with fail
 obtain ⟨g, hg⟩ : ∃ g, g = w2.heap.size := ⟨_, rfl⟩
 rw [← hg] at HB3 hz3 HB23 hwg
 rw [← hg]
 generalize w2.alloc (.cells (Array.replicate F (.int .i64 0)) 3) = w3 at *
 have HB4 := Lib.hid (show Blk w3 g 3 (intCells (fillT F 0)).toArray by simpa [fillT, intCells] using HB3.out)
 have HGE := Lib.hid hg
 clear hg hmk
 go_wp2_with fail
 go_loopg [8] F (fun k s8 wr => ∃ i : Nat, s8 = .int .i64 i ∧ i ≤ F ∧ k = F - i ∧ But [g] w3 wr ∧ Blk wr g 3 (intCells (fillT F i)).toArray)
 case atStart => exact ⟨0, rfl, Nat.zero_le _, rfl, But.refl _ _, HB4.out⟩
 case round =>
  obtain ⟨i, rfl, hi, hk, hb, hbl⟩ := hrel
  have Hk := Lib.hid hk
  have HB := Lib.hid hb
  have HBL := Lib.hid hbl
  clear hk hb hbl
  by_cases hil : i < F
  ·have hil' : (i : Int) < F := by omega
   have hlen := fillT_length (F := F) (i := i) hi
   have cv := HBL.out.int_ (k := i) (by omega)
   have fv := HBL.out.frozen i
   have HN := Lib.hid (show Blk (wr.setCell ⟨g, i, none⟩ (.int .i64 (-1))) g 3 (intCells (fillT F (i + 1))).toArray by rw [← fillT_set hil]; exact HBL.out.setInt i (-1))
   have HBN := Lib.hid (HB.out.trans (But.set_ wr (show g ∈ [g] by simp) i (.int .i64 (-1))))
   generalize (fillT F i).getD i 0 = v at *
   clear hlen
   go_wp2_with fail
   go_roundg (F - (i + 1))
   case measure => rw [Hk.out]; omega
   case rel => exact ⟨i + 1, by go_num, by omega, rfl, HBN.out, HN.out⟩
  ·have hie : i = F := by omega
   have hil' : ¬ (i : Int) < F := by omega
   have HF4 := Lib.hid (show Blk wr g 3 (intCells (List.replicate F (-1))).toArray by
    have h1 := HBL.out
    rw [hie] at h1
    simpa [fillT] using h1)
   have hf' : (f0 : Int) < F := by omega
   have cv := HF4.out.int_ (k := f0) (by simpa using hf)
   have fv := HF4.out.frozen f0
   have HF5 := Lib.hid (show Blk (wr.setCell ⟨g, f0, none⟩ (.int .i64 1)) g 3 (intCells (roomT (angF n es rs) (angK es rs) F f0 0)).toArray by rw [roomT_zero]; exact HF4.out.setInt f0 1)
   have hbb := HB.out.trans (But.set_ wr (show g ∈ [g] by simp) f0 (.int .i64 1))
   have hb5 : Below g w2 (wr.setCell ⟨g, f0, none⟩ (.int .i64 1)) := HB23.out.trans (hbb.below (B := g) (by omega) (by simp))
   have S5 := Lib.hid (S2.out.next (by rw [← HGE.out]; exact hb5))
   have HB25 := Lib.hid hb5
   have hz5 := hbb.size
   generalize (List.replicate F (-1 : Int)).getD f0 0 = v at *
   clear hie hbb hb5
   go_upto_region 7 with fail
   generalize wr.setCell ⟨g, f0, none⟩ (.int .i64 1) = w5 at *
   have g0 := S5.out.g0
   have g1 := S5.out.g1
   clear cv fv
   go_wp2_with fail
   refine (refAngs_any n A C cap ccap es rs w5 S5.out.es S5.out.rs hr1 HR2.out HP.out).mono ?_
   rintro e w6 ⟨A6, c6, rfl, hb6, hc6, hge⟩
   rw [angL_length]
   rw [angL_qu] at hc6
   have HB6 := Lib.hid (HF5.out.below hb6 (by omega))
   have HB26 := Lib.hid (HB25.out.trans (hb6.mono (by omega)))
   have HC6 := Lib.hid hc6
   have HGH := Lib.hid hge
   have hz6 := hb6.size
   obtain ⟨M, hM⟩ : ∃ M, M = 2 * es.length := ⟨_, rfl⟩
   rw [← hM] at HC6 HFc HKd HRE
   rw [← hM]
   have hM1 : M ≤ 256 := by omega
   have hF1 : F ≤ 256 := by omega
   have HRG := Lib.hid (show Below w.heap.size w w2 from S2.out.below)
   clear hb6 hc6 hge g0 g1 hM
   go_wp2_with fail
   go_loopg [10] M (fun k s10 wr => ∃ i : Nat, s10 = .int .i64 i ∧ i ≤ M ∧ k = M - i ∧ But [g] w6 wr ∧ Blk wr g 3 (intCells (roomT (angF n es rs) (angK es rs) F f0 i)).toArray)
   case atStart => exact ⟨0, rfl, Nat.zero_le _, rfl, But.refl _ _, HB6.out⟩
   case round =>
    obtain ⟨i, rfl, hi, hk, hb, hr⟩ := hrel
    have Hk := Lib.hid hk
    have HB := Lib.hid hb
    have HR := Lib.hid hr
    clear hk hb hr
    by_cases hil : i < M
    ·have hil' : (i : Int) < M := by omega
     obtain ⟨ba, oa, rfl, hba, hca⟩ := HC6.out.qu (by omega)
     have hge := HGH.out _ rfl
     simp only at hge
     obtain ⟨d0, d1, d2, d3⟩ := hca i hil
     have hkeep : ∀ j, wr.cell? ⟨ba, j, none⟩ = w6.cell? ⟨ba, j, none⟩ := fun j => World.cell?_of_block (HB.out.block ba hba (by simp; omega))
     have e2 := (hkeep _).trans d2
     have e3 := (hkeep _).trans d3
     have hfl := HFc.out i hil
     have hk2 := HKd.out i hil
     have HS := Lib.hid (roomT_succ (Fc := angF n es rs) (Kd := angK es rs) (F := F) (f0 := f0) (k := i))
     have HLR := Lib.hid (roomT_length (angF n es rs) (angK es rs) F f0 i)
     have HBD := Lib.hid (show ∀ x ∈ roomT (angF n es rs) (angK es rs) F f0 i, -1 ≤ x ∧ x ≤ i + 1 from fun x hx => roomT_le hx)
     obtain ⟨fc, hfc⟩ : ∃ fc, fc = angF n es rs i := ⟨_, rfl⟩
     obtain ⟨kd, hkd⟩ : ∃ kd, kd = angK es rs i := ⟨_, rfl⟩
     rw [← hfc] at e2 hfl HS
     rw [← hkd] at e3 hk2 HS
     have hfl' : (fc : Int) < F := by omega
     have fr := HR.out.frozen fc
     have cr := HR.out.int_ (k := fc) (by rw [HLR.out]; exact hfl)
     have hvb := HBD.out ((roomT (angF n es rs) (angK es rs) F f0 i).getD fc 0) (by
      rw [List.getD_eq_getElem?_getD, List.getElem?_eq_getElem (by rw [HLR.out]; exact hfl)]
      exact List.getElem_mem _)
     obtain ⟨rv, hrv⟩ : ∃ rv, rv = (roomT (angF n es rs) (angK es rs) F f0 i).getD fc 0 := ⟨_, rfl⟩
     rw [← hrv] at cr hvb
     have HRV := Lib.hid hrv
     clear hfc hkd hca d0 d1 d2 d3 hkeep hrv
     by_cases hk : kd = 2
     ·subst hk
      have HN := Lib.hid (show Blk (wr.setCell ⟨g, fc, none⟩ (.int .i64 (rv + 1))) g 3 (intCells (roomT (angF n es rs) (angK es rs) F f0 (i + 1))).toArray by
       rw [HS.out, if_pos rfl, ← HRV.out]; exact HR.out.setInt fc (rv + 1))
      have HBN := Lib.hid (HB.out.trans (But.set_ wr (show g ∈ [g] by simp) fc (.int .i64 (rv + 1))))
      have hwv : IntKind.i64.wrap (rv + 1) = rv + 1 := by rw [IntKind.wrap_i64]; omega
      go_wp2_with fail
      go_roundg (M - (i + 1))
      case measure => rw [Hk.out]; omega
      case rel => exact ⟨i + 1, by go_num, by omega, rfl, HBN.out, HN.out⟩
     ·have hk' : ((kd : Int) == 2) = false := by rw [beq_eq_false_iff_ne]; omega
      have HN := Lib.hid (show Blk wr g 3 (intCells (roomT (angF n es rs) (angK es rs) F f0 (i + 1))).toArray by rw [HS.out, if_neg hk]; exact HR.out)
      clear hk
      go_wp2_with fail
      go_roundg (M - (i + 1))
      case measure => rw [Hk.out]; omega
      case rel => exact ⟨i + 1, by go_num, by omega, rfl, HB.out, HN.out⟩
    ·have hie : i = M := by omega
     have hil' : ¬ (i : Int) < M := by omega
     have HFIN := Lib.hid (show Blk wr g 3 (intCells (roomE n es rs f0)).toArray by rw [HRE.out, ← hie]; exact HR.out)
     have HBF := Lib.hid (show Below w.heap.size w wr from HRG.out.trans ((HB26.out.trans (HB.out.below (B := g) (by omega) (by simp))).mono hwg))
     clear hie
     go_wp2_with fail
     go_ret
     refine ⟨g, ?_, HBF.out, HFIN.out, hwg⟩
     rw [HRL.out]
     rfl
end Go.Proofs.YtneeknlhlkpnpaaGreat
namespace Go.Proofs.YtneeknlhlkpnpaaGreat
open Go.RowKit
theorem endsF_succ (es : List (Int × Int)) (f : Int × Int → Int) (x : Int) (k : Nat) : endsF es f x (k + 1) = endsF es f x k ++ if f (es.getD k (0, 0)) = x then [(k : Int)] else [] := rfl
set_option maxRecDepth 20000 in
set_option maxHeartbeats 4000000 in
theorem refEnds_any (n : Int) (A : Option Addr) (cap : Nat) (es : List (Int × Int)) (x : Nat) (from_ : Bool) (w : World) (hes : Cells w w.heap.size A (edgeCells es)) (hl : es.length ≤ 1000) :
  Calls Tryz.prog 37 #[.agg #[.int .i64 n, .slice A es.length cap], .int .i64 x, .bool from_] w (ListPost (endsF es (if from_ = true then Prod.fst else Prod.snd) x es.length) w) := by
 have S1 := Lib.hid (SG.start n cap hes (rs := []) (C := none) (fun h => absurd h (by simp)))
 clear hes
 generalize hF : (if from_ = true then Prod.fst else Prod.snd : Int × Int → Int) = F at *
 have HF := Lib.hid hF
 clear hF
 go_enter Tryz.func37, Tryz.ntmps37
 go_upto_region 1 with fail
 generalize w.alloc (.cells #[.int .i64 n, .slice A es.length cap] 24) = w1 at *
 have HO2 := Lib.hid (show (w1.alloc (.cells #[] 3)).ownsRow w1.heap.size 3 1 (.slice (some ⟨w1.heap.size, 0, none⟩) 0 0) 0 (intCells []) from own_of_blk (xs := []) (Blk.new w1 3 #[]) (Nat.le_refl _) rfl (Nat.zero_le _))
 have hb2 := (Below.refl w1.heap.size w1).alloc (Nat.le_refl _) (.cells #[] 3)
 have hz2 := World.size_alloc w1 (.cells #[] 3)
 have HB12 := Lib.hid hb2
 clear hb2
 go_upto_region 2 with fail
 obtain ⟨gL, hgL⟩ : ∃ gL, gL = w1.heap.size := ⟨_, rfl⟩
 rw [← hgL] at HO2 HB12 hz2
 rw [← hgL]
 generalize w1.alloc (.cells #[] 3) = w2 at *
 have HG1 := Lib.hid hgL
 have hwg : w.heap.size ≤ gL := by have := S1.out.lt; omega
 clear hgL
 go_wp2_with fail
 go_loopg [7, 8] es.length (fun k s7 s8 wr => ∃ i : Nat, s8 = .int .i64 i ∧ i ≤ es.length ∧ k = es.length - i ∧ Below gL w1 wr ∧ gL ≤ wr.heap.size ∧ wr.ownsRow gL 3 1 s7 (endsF es F x i).length (intCells (endsF es F x i)))
 case atStart => exact ⟨0, rfl, Nat.zero_le _, rfl, HB12.out, by omega, HO2.out⟩
 case round =>
  obtain ⟨i, rfl, hi, hk, hb, hgw, hown⟩ := hrel
  have Hk := Lib.hid hk
  have HB := Lib.hid hb
  have HOW := Lib.hid hown
  obtain ⟨A7, c7, rfl⟩ := own_slice hown
  have S4 := Lib.hid (S1.out.next (w' := wr) (by rw [← HG1.out]; exact hb))
  have g0 := S4.out.g0
  have g1 := S4.out.g1
  clear hk hb hown
  by_cases hil : i < es.length
  ·have hil' : (i : Int) < es.length := by omega
   obtain ⟨b, off, rfl, hbb, hcc⟩ := S4.out.es.edges (by omega)
   obtain ⟨c0, c1⟩ := hcc i hil
   have HS := Lib.hid (show endsF es F x (i + 1) = endsF es F x i ++ if F es[i] = (x : Int) then [(i : Int)] else [] by
    rw [endsF_succ, List.getD_eq_getElem?_getD, List.getElem?_eq_getElem hil]; rfl)
   have HF1 := Lib.hid (show from_ = true → F es[i] = es[i].1 from fun h => by rw [← HF.out, if_pos h])
   have HF2 := Lib.hid (show from_ = false → F es[i] = es[i].2 from fun h => by rw [← HF.out, if_neg (by rw [h]; simp)])
   obtain ⟨p, hp⟩ : ∃ p, p = es[i].1 := ⟨_, rfl⟩
   obtain ⟨q, hq⟩ : ∃ q, q = es[i].2 := ⟨_, rfl⟩
   rw [← hp] at c0 HF1
   rw [← hq] at c1 HF2
   obtain ⟨v, hv⟩ : ∃ v, v = F es[i] := ⟨_, rfl⟩
   rw [← hv] at HS HF1 HF2
   clear hcc hp hq hv
   cases from_ with
   | true =>
    have hvp := HF1.out rfl
    subst hvp
    by_cases hx : v = (x : Int)
    ·have hxe : (v == (x : Int)) = true := by rw [hx]; simp
     have HS2 := Lib.hid (show endsF es F x (i + 1) = endsF es F x i ++ [(i : Int)] by rw [HS.out, if_pos hx])
     clear hx
     have hzw := HB.out.size
     have hle := endsF_length es F x i
     go_wp2_with (at_builtin; refine wp_app elemInt rfl _ _ rfl gL (.slice A7 (endsF es F x i).length c7) _ _ rfl wr.heap.size [.int .i64 (i : Int)] rfl rfl HOW.out rfl rfl ?x2 ?x3 ?x4 ?_)
     case x2 => omega
     case x3 => omega
     try (case x4 => omega)
     intro v10 w10 ho10 hg10 hb10
     have HBX := Lib.hid (below_app HB.out HOW.out hg10 (by omega) (Nat.le_refl _))
     have HOX := Lib.hid (show w10.ownsRow gL 3 1 v10 (endsF es F x (i + 1)).length (intCells (endsF es F x (i + 1))) by
      rw [HS2.out]
      simpa [intCells] using ho10)
     have hz10 : gL ≤ w10.heap.size := by have := hg10.size; omega
     clear ho10 hg10 hb10
     go_wp2_with fail
     go_roundg (es.length - (i + 1))
     case measure => rw [Hk.out]; omega
     case rel => exact ⟨i + 1, by go_num, by omega, rfl, HBX.out, hz10, HOX.out⟩
    ·have hxe : (v == (x : Int)) = false := by rw [beq_eq_false_iff_ne]; exact hx
     have HS2 := Lib.hid (show endsF es F x (i + 1) = endsF es F x i by rw [HS.out, if_neg hx, List.append_nil])
     clear hx
     have HOX := Lib.hid (show wr.ownsRow gL 3 1 (.slice A7 (endsF es F x i).length c7) (endsF es F x (i + 1)).length (intCells (endsF es F x (i + 1))) by rw [HS2.out]; exact HOW.out)
     go_wp2_with fail
     go_roundg (es.length - (i + 1))
     case measure => rw [Hk.out]; omega
     case rel => exact ⟨i + 1, by go_num, by omega, rfl, HB.out, hgw, HOX.out⟩
   | false =>
    have hvp := HF2.out rfl
    subst hvp
    by_cases hx : v = (x : Int)
    ·have hxe : (v == (x : Int)) = true := by rw [hx]; simp
     have HS2 := Lib.hid (show endsF es F x (i + 1) = endsF es F x i ++ [(i : Int)] by rw [HS.out, if_pos hx])
     clear hx
     have hzw := HB.out.size
     have hle := endsF_length es F x i
     go_wp2_with (at_builtin; refine wp_app elemInt rfl _ _ rfl gL (.slice A7 (endsF es F x i).length c7) _ _ rfl wr.heap.size [.int .i64 (i : Int)] rfl rfl HOW.out rfl rfl ?x2 ?x3 ?x4 ?_)
     case x2 => omega
     case x3 => omega
     try (case x4 => omega)
     intro v10 w10 ho10 hg10 hb10
     have HBX := Lib.hid (below_app HB.out HOW.out hg10 (by omega) (Nat.le_refl _))
     have HOX := Lib.hid (show w10.ownsRow gL 3 1 v10 (endsF es F x (i + 1)).length (intCells (endsF es F x (i + 1))) by
      rw [HS2.out]
      simpa [intCells] using ho10)
     have hz10 : gL ≤ w10.heap.size := by have := hg10.size; omega
     clear ho10 hg10 hb10
     go_wp2_with fail
     go_roundg (es.length - (i + 1))
     case measure => rw [Hk.out]; omega
     case rel => exact ⟨i + 1, by go_num, by omega, rfl, HBX.out, hz10, HOX.out⟩
    ·have hxe : (v == (x : Int)) = false := by rw [beq_eq_false_iff_ne]; exact hx
     have HS2 := Lib.hid (show endsF es F x (i + 1) = endsF es F x i by rw [HS.out, if_neg hx, List.append_nil])
     clear hx
     have HOX := Lib.hid (show wr.ownsRow gL 3 1 (.slice A7 (endsF es F x i).length c7) (endsF es F x (i + 1)).length (intCells (endsF es F x (i + 1))) by rw [HS2.out]; exact HOW.out)
     go_wp2_with fail
     go_roundg (es.length - (i + 1))
     case measure => rw [Hk.out]; omega
     case rel => exact ⟨i + 1, by go_num, by omega, rfl, HB.out, hgw, HOX.out⟩
  ·have hie : i = es.length := by omega
   have hil' : ¬ (i : Int) < es.length := by omega
   have HOX := Lib.hid (show wr.ownsRow w.heap.size 3 1 (.slice A7 (endsF es F x i).length c7) (endsF es F x es.length).length (intCells (endsF es F x es.length)) by rw [← hie]; exact own_mono HOW.out hwg)
   clear hie
   go_wp2_with fail
   go_ret
   exact ⟨_, rfl, S4.out.below, HOX.out⟩
end Go.Proofs.YtneeknlhlkpnpaaGreat
namespace Go.Proofs.YtneeknlhlkpnpaaGreat
open Go.RowKit
end Go.Proofs.YtneeknlhlkpnpaaGreat
namespace Go.Proofs.YtneeknlhlkpnpaaGreat
open Go.RowKit
theorem rowsF_at {n : Nat} {es : List (Int × Int)} {f : Int × Int → Int} {x : Nat} (h : x < n) : (rowsF n es f).getD x [] = endsF es f x es.length := by
 unfold rowsF
 rw [List.getD_eq_getElem?_getD, List.getElem?_map, List.getElem?_range h]
 rfl
set_option maxRecDepth 20000 in
set_option maxHeartbeats 4000000 in
theorem refBare_any (n : Nat) (A : Option Addr) (cap : Nat) (es : List (Int × Int)) (to_ : Bool) (w : World) (hes : Cells w w.heap.size A (edgeCells es)) (hl : es.length ≤ 1000) (hn : n ≤ 1000) :
  Calls Tryz.prog 11 #[.agg #[.int .i64 n, .slice A es.length cap], .bool to_] w (ListPost (bareVI n es (if to_ = true then Prod.snd else Prod.fst)) w) := by
 have S1 := Lib.hid (SG.start n cap hes (rs := []) (C := none) (fun h => absurd h (by simp)))
 clear hes
 generalize hF : (if to_ = true then Prod.snd else Prod.fst : Int × Int → Int) = F at *
 have HF := Lib.hid (show (if (!to_) = true then Prod.fst else Prod.snd : Int × Int → Int) = F by rw [← hF]; cases to_ <;> rfl)
 clear hF
 go_enter Tryz.func11, Tryz.ntmps11
 go_upto_region 1 with fail
 generalize w.alloc (.cells #[.int .i64 n, .slice A es.length cap] 24) = w1 at *
 have HO2 := Lib.hid (show (w1.alloc (.cells #[] 3)).ownsRow w1.heap.size 3 1 (.slice (some ⟨w1.heap.size, 0, none⟩) 0 0) 0 (intCells []) from own_of_blk (xs := []) (Blk.new w1 3 #[]) (Nat.le_refl _) rfl (Nat.zero_le _))
 have hb2 := (Below.refl w1.heap.size w1).alloc (Nat.le_refl _) (.cells #[] 3)
 have hz2 := World.size_alloc w1 (.cells #[] 3)
 have HB12 := Lib.hid hb2
 clear hb2
 go_upto_region 2 with fail
 obtain ⟨gL, hgL⟩ : ∃ gL, gL = w1.heap.size := ⟨_, rfl⟩
 rw [← hgL] at HO2 HB12 hz2
 rw [← hgL]
 generalize w1.alloc (.cells #[] 3) = w2 at *
 have HG1 := Lib.hid hgL
 have hwg : w.heap.size ≤ gL := by have := S1.out.lt; omega
 clear hgL
 go_wp2_with fail
 go_loopg [5, 6] n (fun k s5 s6 wr => ∃ i : Nat, s6 = .int .i64 i ∧ i ≤ n ∧ k = n - i ∧ Below gL w1 wr ∧ gL ≤ wr.heap.size ∧ wr.ownsRow gL 3 1 s5 (bareI (rowsF n es F) i).length (intCells (bareI (rowsF n es F) i)))
 case atStart => exact ⟨0, rfl, Nat.zero_le _, rfl, HB12.out, by omega, HO2.out⟩
 case round =>
  obtain ⟨i, rfl, hi, hk, hb, hgw, hown⟩ := hrel
  have Hk := Lib.hid hk
  have HB := Lib.hid hb
  have HOW := Lib.hid hown
  obtain ⟨A5, c5, rfl⟩ := own_slice hown
  have S4 := Lib.hid (S1.out.next (w' := wr) (by rw [← HG1.out]; exact hb))
  have g0 := S4.out.g0
  have g1 := S4.out.g1
  clear hk hb hown
  by_cases hil : i < n
  ·have hil' : (i : Int) < n := by omega
   have HS := Lib.hid (show bareI (rowsF n es F) (i + 1) = bareI (rowsF n es F) i ++ if (endsF es F i es.length).length = 0 then [(i : Int)] else [] by
    rw [bareI_succ, rowsF_at hil])
   have hen := refEnds_any n A cap es i (!to_) wr S4.out.es hl
   rw [HF.out] at hen
   have hle := bareI_le (rowsF n es F) i
   have hel := endsF_length es F i es.length
   go_wp2_with fail
   refine hen.mono ?_
   rintro e w5 ⟨v5, rfl, hb5, ho5⟩
   obtain ⟨A8, c8, rfl⟩ := own_slice ho5
   have HB5 := Lib.hid (HB.out.trans (hb5.mono hgw))
   have HO5 := Lib.hid (own_below HOW.out hb5 (Nat.le_refl _))
   have hz5 : gL ≤ w5.heap.size := Nat.le_trans hgw hb5.size
   obtain ⟨L, hL⟩ : ∃ L, L = (endsF es F i es.length).length := ⟨_, rfl⟩
   rw [← hL] at HS hel
   rw [← hL]
   have S5 := Lib.hid (S4.out.next hb5)
   have g0' := S5.out.g0
   have g1' := S5.out.g1
   clear hen ho5 hb5 hL g0 g1
   by_cases hx : L = 0
   ·have hxe : ((L : Int) == 0) = true := by rw [hx]; rfl
    have HS2 := Lib.hid (show bareI (rowsF n es F) (i + 1) = bareI (rowsF n es F) i ++ [(i : Int)] by rw [HS.out, if_pos hx])
    clear hx
    have hzw := HB5.out.size
    go_wp2_with (at_builtin; refine wp_app elemInt rfl _ _ rfl gL (.slice A5 (bareI (rowsF n es F) i).length c5) _ _ rfl w5.heap.size [.int .i64 (i : Int)] rfl rfl HO5.out rfl rfl ?x2 ?x3 ?x4 ?_)
    case x2 => omega
    case x3 => omega
    try (case x4 => omega)
    intro v10 w10 ho10 hg10 hb10
    have HBX := Lib.hid (below_app HB5.out HO5.out hg10 (by omega) (Nat.le_refl _))
    have HOX := Lib.hid (show w10.ownsRow gL 3 1 v10 (bareI (rowsF n es F) (i + 1)).length (intCells (bareI (rowsF n es F) (i + 1))) by
     rw [HS2.out]
     simpa [intCells] using ho10)
    have hz10 : gL ≤ w10.heap.size := by have := hg10.size; omega
    clear ho10 hg10 hb10
    go_wp2_with fail
    go_roundg (n - (i + 1))
    case measure => rw [Hk.out]; omega
    case rel => exact ⟨i + 1, by go_num, by omega, rfl, HBX.out, hz10, HOX.out⟩
   ·have hxe : ((L : Int) == 0) = false := by rw [beq_eq_false_iff_ne]; omega
    have HS2 := Lib.hid (show bareI (rowsF n es F) (i + 1) = bareI (rowsF n es F) i by rw [HS.out, if_neg hx, List.append_nil])
    clear hx
    have HOX := Lib.hid (show w5.ownsRow gL 3 1 (.slice A5 (bareI (rowsF n es F) i).length c5) (bareI (rowsF n es F) (i + 1)).length (intCells (bareI (rowsF n es F) (i + 1))) by rw [HS2.out]; exact HO5.out)
    go_wp2_with fail
    go_roundg (n - (i + 1))
    case measure => rw [Hk.out]; omega
    case rel => exact ⟨i + 1, by go_num, by omega, rfl, HB5.out, hz5, HOX.out⟩
  ·have hie : i = n := by omega
   have hil' : ¬ (i : Int) < n := by omega
   have HOX := Lib.hid (show wr.ownsRow w.heap.size 3 1 (.slice A5 (bareI (rowsF n es F) i).length c5) (bareVI n es F).length (intCells (bareVI n es F)) by
    have h1 := own_mono HOW.out hwg
    rw [hie] at h1 ⊢
    exact h1)
   clear hie
   go_wp2_with fail
   go_ret
   exact ⟨_, rfl, S4.out.below, HOX.out⟩
end Go.Proofs.YtneeknlhlkpnpaaGreat
namespace Go.Proofs.YtneeknlhlkpnpaaGreat
open Go.RowKit
section
variable {es : List (Int × Int)} {N : Nat}
theorem vtx_odd (hin : InN N es) {i : Nat} (hi : i < es.length) : (vtx es (2 * i + 1) : Int) = (es.getD i (0, 0)).2 := by
 have h := atE_vtx hin (h := 2 * i + 1) (by omega)
 rw [← h]
 unfold atE
 rw [show (2 * i + 1) / 2 = i by omega]
 simp
end
end Go.Proofs.YtneeknlhlkpnpaaGreat
