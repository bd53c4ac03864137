import Derived.Test.YtelcofkjpkdjiaaGreatZAsg
import Derived.Test.YtelcofkjpkdjiaaGreatZAng1
import Derived.Test.YtelcofkjpkdjiaaGreatZAng0
/-
  The reference's Rooms and Try: what they compute. Written by an AI agent.
-/
namespace Go.Proofs.YtelcofkjpkdjiaaGreat
open Go.RowKit

def fillT (F i : Nat) : List Int := List.replicate i (-1) ++ List.replicate (F - i) 0
theorem fillT_length {F i : Nat} (h : i ≤ F) : (fillT F i).length = F := by simp [fillT]; omega
theorem fillT_set {F i : Nat} (h : i < F) : (fillT F i).set i (-1) = fillT F (i + 1) := by
  unfold fillT
  rw [List.set_append_right (h := by simp), List.length_replicate, Nat.sub_self, show F - i = (F - (i + 1)) + 1 by omega, List.replicate_succ, List.set_cons_zero, List.replicate_succ', List.append_assoc]
  rfl
def RoomPost (l : List Int) (w : World) (e : Ending) (w' : World) : Prop := ∃ g, e = .returned (.slice (some ⟨g, 0, none⟩) l.length l.length) ∧ Below w.heap.size w w' ∧ Blk w' g 3 (intCells l).toArray ∧ w.heap.size ≤ g
noncomputable def roomE (n : Int) (es : List (Int × Int)) (rs : List (List Int)) (f0 : Nat) : List Int := roomT (angF n es rs) (angK es rs) (facesOf n es rs).length f0 (2 * es.length)
set_option maxRecDepth 20000 in
set_option maxHeartbeats 4000000 in
theorem rooms_any (n : Int) (A C : Option Addr) (cap ccap : Nat) (es : List (Int × Int)) (rs : List (List Int)) (f0 : Nat) (w : World) (hes : Cells w w.heap.size A (edgeCells es)) (hrs : RowsAt w w.heap.size C rs) (hr1 : rs.length ≤ 1000) (hr2 : ∀ l ∈ rs, l.length ≤ 1000) (hP : RightP n es rs) (hf : f0 < (facesOf n es rs).length) :
    Calls Tryz.prog 42 #[.agg #[.int .i64 n, .slice A es.length cap], .slice C rs.length ccap, .int .i64 f0] w (RoomPost (roomE n es rs f0) w) := by
  have hm := (may_parts hP.may).2.2
  have S1 := Lib.hid (SG.start n cap hes hrs)
  have HR2 := Lib.hid hr2
  have HP := Lib.hid hP
  have hFl := faces_le hP
  have HRL := Lib.hid (show (roomE n es rs f0).length = (facesOf n es rs).length from roomT_length _ _ _ _ _)
  have HRE := Lib.hid (show roomE n es rs f0 = roomT (angF n es rs) (angK es rs) (facesOf n es rs).length f0 (2 * es.length) from rfl)
  have HFc := Lib.hid (show ∀ h, h < 2 * es.length → angF n es rs h < (facesOf n es rs).length from fun h hh => (angF_spec HP.out hh).1)
  have HKd := Lib.hid (show ∀ h, h < 2 * es.length → angK es rs h ≤ 2 from fun h _ => by unfold angK kindF; split <;> (try split) <;> omega)
  clear hes hrs hr2 hP
  go_enter Tryz.func42, Tryz.ntmps42
  go_upto_region 1 with fail
  generalize w.alloc (.cells #[.int .i64 n, .slice A es.length cap] 24) = w1 at *
  have g0 := S1.out.g0
  have g1 := S1.out.g1
  have hl1 := S1.out.lt
  obtain ⟨F, hF⟩ : ∃ F, F = (facesOf n es rs).length := ⟨_, rfl⟩
  have hfc := refFaces_any n A C cap ccap es rs w1 S1.out.es S1.out.rs hr1 HR2.out HP.out
  rw [← hF] at hFl hf HRL HRE HFc
  have HFE := Lib.hid hF
  clear hF
  have hmk := fun W => run_make1 elemInt rfl F (by omega) (by omega) W
  go_wp2_with fail
  refine hfc.mono ?_
  rintro e w2 ⟨A2, c2, rfl, hb2, _⟩
  have S2 := Lib.hid (S1.out.next hb2)
  rw [← HFE.out]
  have HB3 := Lib.hid (Blk.new w2 3 (Array.replicate F (.int .i64 0)))
  have hb3 := (Below.refl w2.heap.size w2).alloc (Nat.le_refl _) (.cells (Array.replicate F (.int .i64 0)) 3)
  have S3 := Lib.hid (S2.out.next hb3)
  have hz3 := World.size_alloc w2 (.cells (Array.replicate F (.int .i64 0)) 3)
  have HB23 := Lib.hid hb3
  have hwg := Nat.le_of_lt S2.out.lt
  clear hfc hb2 hb3 g0 g1 hl1
  go_upto_region 2 with fail
  obtain ⟨g, hg⟩ : ∃ g, g = w2.heap.size := ⟨_, rfl⟩
  rw [← hg] at HB3 hz3 HB23 hwg
  rw [← hg]
  generalize w2.alloc (.cells (Array.replicate F (.int .i64 0)) 3) = w3 at *
  have HB4 := Lib.hid (show Blk w3 g 3 (intCells (fillT F 0)).toArray by simpa [fillT, intCells] using HB3.out)
  have HGE := Lib.hid hg
  clear hg hmk
  go_wp2_with fail
  go_loopg [8] F (fun k s8 wr => ∃ i : Nat, s8 = .int .i64 i ∧ i ≤ F ∧ k = F - i ∧ But [g] w3 wr ∧ Blk wr g 3 (intCells (fillT F i)).toArray)
  case atStart => exact ⟨0, rfl, Nat.zero_le _, rfl, But.refl _ _, HB4.out⟩
  case round =>
    obtain ⟨i, rfl, hi, hk, hb, hbl⟩ := hrel
    have Hk := Lib.hid hk
    have HB := Lib.hid hb
    have HBL := Lib.hid hbl
    clear hk hb hbl
    by_cases hil : i < F
    · have hil' : (i : Int) < F := by omega
      have hlen := fillT_length (F := F) (i := i) hi
      have cv := HBL.out.int_ (k := i) (by omega)
      have fv := HBL.out.frozen i
      have HN := Lib.hid (show Blk (wr.setCell ⟨g, i, none⟩ (.int .i64 (-1))) g 3 (intCells (fillT F (i + 1))).toArray by rw [← fillT_set hil]; exact HBL.out.setInt i (-1))
      have HBN := Lib.hid (HB.out.trans (But.set_ wr (show g ∈ [g] by simp) i (.int .i64 (-1))))
      generalize (fillT F i).getD i 0 = v at *
      clear hlen
      go_wp2_with fail
      go_roundg (F - (i + 1))
      case measure => rw [Hk.out]; omega
      case rel => exact ⟨i + 1, by go_num, by omega, rfl, HBN.out, HN.out⟩
    · have hie : i = F := by omega
      have hil' : ¬ (i : Int) < F := by omega
      have HF4 := Lib.hid (show Blk wr g 3 (intCells (List.replicate F (-1))).toArray by
        have h1 := HBL.out
        rw [hie] at h1
        simpa [fillT] using h1)
      have hf' : (f0 : Int) < F := by omega
      have cv := HF4.out.int_ (k := f0) (by simpa using hf)
      have fv := HF4.out.frozen f0
      have HF5 := Lib.hid (show Blk (wr.setCell ⟨g, f0, none⟩ (.int .i64 1)) g 3 (intCells (roomT (angF n es rs) (angK es rs) F f0 0)).toArray by rw [roomT_zero]; exact HF4.out.setInt f0 1)
      have hbb := HB.out.trans (But.set_ wr (show g ∈ [g] by simp) f0 (.int .i64 1))
      have hb5 : Below g w2 (wr.setCell ⟨g, f0, none⟩ (.int .i64 1)) := HB23.out.trans (hbb.below (B := g) (by omega) (by simp))
      have S5 := Lib.hid (S2.out.next (by rw [← HGE.out]; exact hb5))
      have HB25 := Lib.hid hb5
      have hz5 := hbb.size
      generalize (List.replicate F (-1 : Int)).getD f0 0 = v at *
      clear hie hbb hb5
      go_upto_region 7 with fail
      generalize wr.setCell ⟨g, f0, none⟩ (.int .i64 1) = w5 at *
      have g0 := S5.out.g0
      have g1 := S5.out.g1
      clear cv fv
      go_wp2_with fail
      refine (refAngs_any n A C cap ccap es rs w5 S5.out.es S5.out.rs hr1 HR2.out HP.out).mono ?_
      rintro e w6 ⟨A6, c6, rfl, hb6, hc6, hge⟩
      rw [angL_length]
      rw [angL_qu] at hc6
      have HB6 := Lib.hid (HF5.out.below hb6 (by omega))
      have HB26 := Lib.hid (HB25.out.trans (hb6.mono (by omega)))
      have HC6 := Lib.hid hc6
      have HGH := Lib.hid hge
      have hz6 := hb6.size
      obtain ⟨M, hM⟩ : ∃ M, M = 2 * es.length := ⟨_, rfl⟩
      rw [← hM] at HC6 HFc HKd HRE
      rw [← hM]
      have hM1 : M ≤ 256 := by omega
      have hF1 : F ≤ 256 := by omega
      have HRG := Lib.hid (show Below w.heap.size w w2 from S2.out.below)
      clear hb6 hc6 hge g0 g1 hM
      go_wp2_with fail
      go_loopg [10] M (fun k s10 wr => ∃ i : Nat, s10 = .int .i64 i ∧ i ≤ M ∧ k = M - i ∧ But [g] w6 wr ∧ Blk wr g 3 (intCells (roomT (angF n es rs) (angK es rs) F f0 i)).toArray)
      case atStart => exact ⟨0, rfl, Nat.zero_le _, rfl, But.refl _ _, HB6.out⟩
      case round =>
        obtain ⟨i, rfl, hi, hk, hb, hr⟩ := hrel
        have Hk := Lib.hid hk
        have HB := Lib.hid hb
        have HR := Lib.hid hr
        clear hk hb hr
        by_cases hil : i < M
        · have hil' : (i : Int) < M := by omega
          obtain ⟨ba, oa, rfl, hba, hca⟩ := HC6.out.qu (by omega)
          have hge := HGH.out _ rfl
          simp only at hge
          obtain ⟨d0, d1, d2, d3⟩ := hca i hil
          have hkeep : ∀ j, wr.cell? ⟨ba, j, none⟩ = w6.cell? ⟨ba, j, none⟩ := fun j => World.cell?_of_block (HB.out.block ba hba (by simp; omega))
          have e2 := (hkeep _).trans d2
          have e3 := (hkeep _).trans d3
          have hfl := HFc.out i hil
          have hk2 := HKd.out i hil
          have HS := Lib.hid (roomT_succ (Fc := angF n es rs) (Kd := angK es rs) (F := F) (f0 := f0) (k := i))
          have HLR := Lib.hid (roomT_length (angF n es rs) (angK es rs) F f0 i)
          have HBD := Lib.hid (show ∀ x ∈ roomT (angF n es rs) (angK es rs) F f0 i, -1 ≤ x ∧ x ≤ i + 1 from fun x hx => roomT_le hx)
          obtain ⟨fc, hfc⟩ : ∃ fc, fc = angF n es rs i := ⟨_, rfl⟩
          obtain ⟨kd, hkd⟩ : ∃ kd, kd = angK es rs i := ⟨_, rfl⟩
          rw [← hfc] at e2 hfl HS
          rw [← hkd] at e3 hk2 HS
          have hfl' : (fc : Int) < F := by omega
          have fr := HR.out.frozen fc
          have cr := HR.out.int_ (k := fc) (by rw [HLR.out]; exact hfl)
          have hvb := HBD.out ((roomT (angF n es rs) (angK es rs) F f0 i).getD fc 0) (by
            rw [List.getD_eq_getElem?_getD, List.getElem?_eq_getElem (by rw [HLR.out]; exact hfl)]
            exact List.getElem_mem _)
          obtain ⟨rv, hrv⟩ : ∃ rv, rv = (roomT (angF n es rs) (angK es rs) F f0 i).getD fc 0 := ⟨_, rfl⟩
          rw [← hrv] at cr hvb
          have HRV := Lib.hid hrv
          clear hfc hkd hca d0 d1 d2 d3 hkeep hrv
          by_cases hk : kd = 2
          · subst hk
            have HN := Lib.hid (show Blk (wr.setCell ⟨g, fc, none⟩ (.int .i64 (rv + 1))) g 3 (intCells (roomT (angF n es rs) (angK es rs) F f0 (i + 1))).toArray by
              rw [HS.out, if_pos rfl, ← HRV.out]; exact HR.out.setInt fc (rv + 1))
            have HBN := Lib.hid (HB.out.trans (But.set_ wr (show g ∈ [g] by simp) fc (.int .i64 (rv + 1))))
            have hwv : IntKind.i64.wrap (rv + 1) = rv + 1 := by rw [IntKind.wrap_i64]; omega
            go_wp2_with fail
            go_roundg (M - (i + 1))
            case measure => rw [Hk.out]; omega
            case rel => exact ⟨i + 1, by go_num, by omega, rfl, HBN.out, HN.out⟩
          · have hk' : ((kd : Int) == 2) = false := by rw [beq_eq_false_iff_ne]; omega
            have HN := Lib.hid (show Blk wr g 3 (intCells (roomT (angF n es rs) (angK es rs) F f0 (i + 1))).toArray by rw [HS.out, if_neg hk]; exact HR.out)
            clear hk
            go_wp2_with fail
            go_roundg (M - (i + 1))
            case measure => rw [Hk.out]; omega
            case rel => exact ⟨i + 1, by go_num, by omega, rfl, HB.out, HN.out⟩
        · have hie : i = M := by omega
          have hil' : ¬ (i : Int) < M := by omega
          have HFIN := Lib.hid (show Blk wr g 3 (intCells (roomE n es rs f0)).toArray by rw [HRE.out, ← hie]; exact HR.out)
          have HBF := Lib.hid (show Below w.heap.size w wr from HRG.out.trans ((HB26.out.trans (HB.out.below (B := g) (by omega) (by simp))).mono hwg))
          clear hie
          go_wp2_with fail
          go_ret
          refine ⟨g, ?_, HBF.out, HFIN.out, hwg⟩
          rw [HRL.out]
          rfl
end Go.Proofs.YtelcofkjpkdjiaaGreat
/-
  The reference's Ends and Bare of a graph. Written by an AI agent.
-/
namespace Go.Proofs.YtelcofkjpkdjiaaGreat
open Go.RowKit

theorem endsF_succ (es : List (Int × Int)) (f : Int × Int → Int) (x : Int) (k : Nat) : endsF es f x (k + 1) = endsF es f x k ++ if f (es.getD k (0, 0)) = x then [(k : Int)] else [] := rfl
set_option maxRecDepth 20000 in
set_option maxHeartbeats 4000000 in
theorem refEnds_any (n : Int) (A : Option Addr) (cap : Nat) (es : List (Int × Int)) (x : Nat) (from_ : Bool) (w : World) (hes : Cells w w.heap.size A (edgeCells es)) (hl : es.length ≤ 1000) :
    Calls Tryz.prog 55 #[.agg #[.int .i64 n, .slice A es.length cap], .int .i64 x, .bool from_] w (ListPost (endsF es (if from_ = true then Prod.fst else Prod.snd) x es.length) w) := by
  have S1 := Lib.hid (SG.start n cap hes (rs := []) (C := none) (fun h => absurd h (by simp)))
  clear hes
  generalize hF : (if from_ = true then Prod.fst else Prod.snd : Int × Int → Int) = F at *
  have HF := Lib.hid hF
  clear hF
  go_enter Tryz.func55, Tryz.ntmps55
  go_upto_region 1 with fail
  generalize w.alloc (.cells #[.int .i64 n, .slice A es.length cap] 24) = w1 at *
  have HO2 := Lib.hid (show (w1.alloc (.cells #[] 3)).ownsRow w1.heap.size 3 1 (.slice (some ⟨w1.heap.size, 0, none⟩) 0 0) 0 (intCells []) from own_of_blk (xs := []) (Blk.new w1 3 #[]) (Nat.le_refl _) rfl (Nat.zero_le _))
  have hb2 := (Below.refl w1.heap.size w1).alloc (Nat.le_refl _) (.cells #[] 3)
  have hz2 := World.size_alloc w1 (.cells #[] 3)
  have HB12 := Lib.hid hb2
  clear hb2
  go_upto_region 2 with fail
  obtain ⟨gL, hgL⟩ : ∃ gL, gL = w1.heap.size := ⟨_, rfl⟩
  rw [← hgL] at HO2 HB12 hz2
  rw [← hgL]
  generalize w1.alloc (.cells #[] 3) = w2 at *
  have HG1 := Lib.hid hgL
  have hwg : w.heap.size ≤ gL := by have := S1.out.lt; omega
  clear hgL
  go_wp2_with fail
  go_loopg [7, 8] es.length (fun k s7 s8 wr => ∃ i : Nat, s8 = .int .i64 i ∧ i ≤ es.length ∧ k = es.length - i ∧ Below gL w1 wr ∧ gL ≤ wr.heap.size ∧ wr.ownsRow gL 3 1 s7 (endsF es F x i).length (intCells (endsF es F x i)))
  case atStart => exact ⟨0, rfl, Nat.zero_le _, rfl, HB12.out, by omega, HO2.out⟩
  case round =>
    obtain ⟨i, rfl, hi, hk, hb, hgw, hown⟩ := hrel
    have Hk := Lib.hid hk
    have HB := Lib.hid hb
    have HOW := Lib.hid hown
    obtain ⟨A7, c7, rfl⟩ := own_slice hown
    have S4 := Lib.hid (S1.out.next (w' := wr) (by rw [← HG1.out]; exact hb))
    have g0 := S4.out.g0
    have g1 := S4.out.g1
    clear hk hb hown
    by_cases hil : i < es.length
    · have hil' : (i : Int) < es.length := by omega
      obtain ⟨b, off, rfl, hbb, hcc⟩ := S4.out.es.edges (by omega)
      obtain ⟨c0, c1⟩ := hcc i hil
      have HS := Lib.hid (show endsF es F x (i + 1) = endsF es F x i ++ if F es[i] = (x : Int) then [(i : Int)] else [] by
        rw [endsF_succ, List.getD_eq_getElem?_getD, List.getElem?_eq_getElem hil]; rfl)
      have HF1 := Lib.hid (show from_ = true → F es[i] = es[i].1 from fun h => by rw [← HF.out, if_pos h])
      have HF2 := Lib.hid (show from_ = false → F es[i] = es[i].2 from fun h => by rw [← HF.out, if_neg (by rw [h]; simp)])
      obtain ⟨p, hp⟩ : ∃ p, p = es[i].1 := ⟨_, rfl⟩
      obtain ⟨q, hq⟩ : ∃ q, q = es[i].2 := ⟨_, rfl⟩
      rw [← hp] at c0 HF1
      rw [← hq] at c1 HF2
      obtain ⟨v, hv⟩ : ∃ v, v = F es[i] := ⟨_, rfl⟩
      rw [← hv] at HS HF1 HF2
      clear hcc hp hq hv
      cases from_ with
      | true =>
        have hvp := HF1.out rfl
        subst hvp
        by_cases hx : v = (x : Int)
        · have hxe : (v == (x : Int)) = true := by rw [hx]; simp
          have HS2 := Lib.hid (show endsF es F x (i + 1) = endsF es F x i ++ [(i : Int)] by rw [HS.out, if_pos hx])
          clear hx
          have hzw := HB.out.size
          have hle := endsF_length es F x i
          go_wp2_with (at_builtin; refine wp_app elemInt rfl _ _ rfl gL (.slice A7 (endsF es F x i).length c7) _ _ rfl wr.heap.size [.int .i64 (i : Int)] rfl rfl HOW.out rfl rfl ?x2 ?x3 ?x4 ?_)
          case x2 => omega
          case x3 => omega
          try (case x4 => omega)
          intro v10 w10 ho10 hg10 hb10
          have HBX := Lib.hid (below_app HB.out HOW.out hg10 (by omega) (Nat.le_refl _))
          have HOX := Lib.hid (show w10.ownsRow gL 3 1 v10 (endsF es F x (i + 1)).length (intCells (endsF es F x (i + 1))) by
            rw [HS2.out]
            simpa [intCells] using ho10)
          have hz10 : gL ≤ w10.heap.size := by have := hg10.size; omega
          clear ho10 hg10 hb10
          go_wp2_with fail
          go_roundg (es.length - (i + 1))
          case measure => rw [Hk.out]; omega
          case rel => exact ⟨i + 1, by go_num, by omega, rfl, HBX.out, hz10, HOX.out⟩
        · have hxe : (v == (x : Int)) = false := by rw [beq_eq_false_iff_ne]; exact hx
          have HS2 := Lib.hid (show endsF es F x (i + 1) = endsF es F x i by rw [HS.out, if_neg hx, List.append_nil])
          clear hx
          have HOX := Lib.hid (show wr.ownsRow gL 3 1 (.slice A7 (endsF es F x i).length c7) (endsF es F x (i + 1)).length (intCells (endsF es F x (i + 1))) by rw [HS2.out]; exact HOW.out)
          go_wp2_with fail
          go_roundg (es.length - (i + 1))
          case measure => rw [Hk.out]; omega
          case rel => exact ⟨i + 1, by go_num, by omega, rfl, HB.out, hgw, HOX.out⟩
      | false =>
        have hvp := HF2.out rfl
        subst hvp
        by_cases hx : v = (x : Int)
        · have hxe : (v == (x : Int)) = true := by rw [hx]; simp
          have HS2 := Lib.hid (show endsF es F x (i + 1) = endsF es F x i ++ [(i : Int)] by rw [HS.out, if_pos hx])
          clear hx
          have hzw := HB.out.size
          have hle := endsF_length es F x i
          go_wp2_with (at_builtin; refine wp_app elemInt rfl _ _ rfl gL (.slice A7 (endsF es F x i).length c7) _ _ rfl wr.heap.size [.int .i64 (i : Int)] rfl rfl HOW.out rfl rfl ?x2 ?x3 ?x4 ?_)
          case x2 => omega
          case x3 => omega
          try (case x4 => omega)
          intro v10 w10 ho10 hg10 hb10
          have HBX := Lib.hid (below_app HB.out HOW.out hg10 (by omega) (Nat.le_refl _))
          have HOX := Lib.hid (show w10.ownsRow gL 3 1 v10 (endsF es F x (i + 1)).length (intCells (endsF es F x (i + 1))) by
            rw [HS2.out]
            simpa [intCells] using ho10)
          have hz10 : gL ≤ w10.heap.size := by have := hg10.size; omega
          clear ho10 hg10 hb10
          go_wp2_with fail
          go_roundg (es.length - (i + 1))
          case measure => rw [Hk.out]; omega
          case rel => exact ⟨i + 1, by go_num, by omega, rfl, HBX.out, hz10, HOX.out⟩
        · have hxe : (v == (x : Int)) = false := by rw [beq_eq_false_iff_ne]; exact hx
          have HS2 := Lib.hid (show endsF es F x (i + 1) = endsF es F x i by rw [HS.out, if_neg hx, List.append_nil])
          clear hx
          have HOX := Lib.hid (show wr.ownsRow gL 3 1 (.slice A7 (endsF es F x i).length c7) (endsF es F x (i + 1)).length (intCells (endsF es F x (i + 1))) by rw [HS2.out]; exact HOW.out)
          go_wp2_with fail
          go_roundg (es.length - (i + 1))
          case measure => rw [Hk.out]; omega
          case rel => exact ⟨i + 1, by go_num, by omega, rfl, HB.out, hgw, HOX.out⟩
    · have hie : i = es.length := by omega
      have hil' : ¬ (i : Int) < es.length := by omega
      have HOX := Lib.hid (show wr.ownsRow w.heap.size 3 1 (.slice A7 (endsF es F x i).length c7) (endsF es F x es.length).length (intCells (endsF es F x es.length)) by rw [← hie]; exact own_mono HOW.out hwg)
      clear hie
      go_wp2_with fail
      go_ret
      exact ⟨_, rfl, S4.out.below, HOX.out⟩
end Go.Proofs.YtelcofkjpkdjiaaGreat
/-
  The reference's Try: what it computes. Written by an AI agent.
-/
namespace Go.Proofs.YtelcofkjpkdjiaaGreat
open Go.RowKit

theorem set_set (l : List Int) (i : Nat) (a b : Int) : (l.set i a).set i b = l.set i b := by simp
def Small (rm : List Int) : Prop := ∀ x ∈ rm, -10000 ≤ x ∧ x ≤ 10000
theorem Small.at_ {rm : List Int} (h : Small rm) {f : Nat} (hf : f < rm.length) : -10000 ≤ rm.getD f 0 ∧ rm.getD f 0 ≤ 10000 := by
  rw [List.getD_eq_getElem?_getD, List.getElem?_eq_getElem hf]
  exact h _ (List.getElem_mem hf)
theorem Small.down {rm : List Int} (h : Small rm) {f : Nat} (hf : f < rm.length) (hp : 0 < rm.getD f 0) : Small (rm.set f (rm.getD f 0 - 1)) := by
  intro x hx
  rcases List.mem_or_eq_of_mem_set hx with h1 | h1
  · exact h x h1
  · have := h.at_ hf
    omega
set_option maxRecDepth 20000 in
set_option maxHeartbeats 4000000 in
theorem try_any (A Ae : Option Addr) (ca ce : Nat) (V Fc Kd : Nat → Nat) (M : Nat) (E : List Nat) (g B : Nat) (hBg : B ≤ g) (hM : M ≤ 2000) (hE : E.length ≤ 2000) (hE2 : ∀ x ∈ E, x ≤ 10000) (hV : ∀ h, h < M → V h ≤ 10000) : ∀ (r : List Nat) (at_ : Nat) (rm : List Int) (w : World), E.drop at_ = r → at_ ≤ E.length → Cells w B A (qCells (quL V Fc Kd M)) → Cells w B Ae (intCells (E.map fun z : Nat => (z : Int))) → Blk w g 3 (intCells rm).toArray → (∀ h, h < M → Fc h < rm.length) → rm.length ≤ 2000 → Small rm →
    Calls Tryz.prog 41 #[.slice A M ca, .slice Ae E.length ce, .int .i64 at_, .slice (some ⟨g, 0, none⟩) rm.length rm.length] w (fun e w' => e = .returned (.bool (tryF V Fc M r rm)) ∧ But [g] w w' ∧ Blk w' g 3 (intCells rm).toArray) := by
  intro r
  induction r with
  | nil =>
    intro at_ rm w hr hat hA hEc hR hFc hl hS
    have hae : at_ = E.length := by
      have := congrArg List.length hr
      simp at this
      omega
    subst hae
    have HR := Lib.hid hR
    have HS := Lib.hid hS
    have HT := Lib.hid (show tryF V Fc M [] rm = rm.all fun n => decide (n = 0) from rfl)
    clear hA hEc hR hS hr hFc hat
    go_enter Tryz.func41, Tryz.ntmps41
    have hee : ((E.length : Int) == (E.length : Int)) = true := by simp
    go_wp2_with fail
    go_loopg [9] rm.length (fun k s9 wr => ∃ i : Nat, s9 = .int .i64 i ∧ i ≤ rm.length ∧ k = rm.length - i ∧ w = wr ∧ ∀ j (h : j < rm.length), j < i → rm[j] = 0)
    case atStart => exact ⟨0, rfl, Nat.zero_le _, rfl, rfl, fun j _ h => absurd h (Nat.not_lt_zero _)⟩
    case round =>
      obtain ⟨i, rfl, hi, hk, rfl, hz⟩ := hrel
      have Hk := Lib.hid hk
      have HZ := Lib.hid hz
      clear hk hz
      by_cases hil : i < rm.length
      · have hil' : (i : Int) < rm.length := by omega
        have cv := HR.out.int_ (k := i) hil
        rw [List.getD_eq_getElem?_getD, List.getElem?_eq_getElem hil, Option.getD_some] at cv
        have HN := Lib.hid (fun (h : rm[i] = 0) (j : Nat) (hj : j < rm.length) (hji : j < i + 1) => (by
          by_cases e : j = i
          · subst e; exact h
          · exact HZ.out j hj (by omega) : rm[j] = 0))
        have HF := Lib.hid (show rm[i] ≠ 0 → tryF V Fc M [] rm = false from fun h => by
          rw [HT.out, List.all_eq_false]
          exact ⟨rm[i], List.getElem_mem hil, by simpa using h⟩)
        generalize rm[i] = v at *
        by_cases hv : v = 0
        · have hv' : (v != 0) = false := by rw [hv]; rfl
          have HN2 := Lib.hid (HN.out hv)
          go_wp2_with fail
          go_roundg (rm.length - (i + 1))
          case measure => rw [Hk.out]; omega
          case rel => exact ⟨i + 1, by go_num, by omega, rfl, rfl, HN2.out⟩
        · have hv' : (v != 0) = true := by rw [bne_iff_ne]; exact hv
          have HF2 := Lib.hid (HF.out hv)
          clear hv
          go_wp2_with fail
          go_ret
          exact ⟨ret_bool HF2.out.symm, But.refl _ _, HR.out⟩
      · have hie : i = rm.length := by omega
        have hil' : ¬ (i : Int) < rm.length := by omega
        have HF2 := Lib.hid (show tryF V Fc M [] rm = true by
          rw [HT.out, List.all_eq_true]
          intro x hx
          obtain ⟨j, hj, rfl⟩ := List.getElem_of_mem hx
          simpa using HZ.out j hj (by omega))
        clear hie
        go_wp2_with fail
        go_ret
        exact ⟨ret_bool HF2.out.symm, But.refl _ _, HR.out⟩
  | cons x r ih =>
    intro at_ rm w hr hat hA hEc hR hFc hl hS
    have hal : at_ < E.length := by
      have := congrArg List.length hr
      simp at this
      omega
    have hxe : E[at_] = x ∧ E.drop (at_ + 1) = r := by
      rw [List.drop_eq_getElem_cons hal] at hr
      injection hr with h1 h2
      exact ⟨h1, h2⟩
    have hxl : x ≤ 10000 := by
      have := hE2 _ (List.getElem_mem hal)
      rw [hxe.1] at this
      exact this
    have HXE := Lib.hid hxe
    have HA := Lib.hid hA
    have HE := Lib.hid hEc
    have HR := Lib.hid hR
    have HS := Lib.hid hS
    have HFc := Lib.hid hFc
    have HV := Lib.hid hV
    have IH := Lib.hid ih
    have HE2 := Lib.hid hE2
    have hgl := hR.lt
    have HT := Lib.hid (show tryF V Fc M (x :: r) rm = (List.range M).any fun h => decide (V h = x) && (decide (0 < rm.getD (Fc h) 0) && tryF V Fc M r (rm.set (Fc h) (rm.getD (Fc h) 0 - 1))) from rfl)
    have hal' : (at_ : Int) < E.length := by omega
    have hne : ((at_ : Int) == (E.length : Int)) = false := by rw [beq_eq_false_iff_ne]; omega
    clear hA hEc hR hS hr hFc hat hxe ih hE2 hV
    go_enter Tryz.func41, Tryz.ntmps41
    go_wp2_with fail
    go_loopg [10] M (fun k s10 wr => ∃ i : Nat, s10 = .int .i64 i ∧ i ≤ M ∧ k = M - i ∧ But [g] w wr ∧ Blk wr g 3 (intCells rm).toArray ∧ ∀ h, h < i → (decide (V h = x) && (decide (0 < rm.getD (Fc h) 0) && tryF V Fc M r (rm.set (Fc h) (rm.getD (Fc h) 0 - 1)))) = false)
    case atStart => exact ⟨0, rfl, Nat.zero_le _, rfl, But.refl _ _, HR.out, fun h hh => absurd hh (Nat.not_lt_zero _)⟩
    case round =>
      obtain ⟨i, rfl, hi, hk, hb, hbl, hno⟩ := hrel
      have Hk := Lib.hid hk
      have HB := Lib.hid hb
      have HBL := Lib.hid hbl
      have HNO := Lib.hid hno
      clear hk hb hbl hno
      by_cases hil : i < M
      · have hil' : (i : Int) < M := by omega
        have HAW := Lib.hid (HA.out.but HB.out (by omega) (by simpa using hBg))
        have HEW := Lib.hid (HE.out.but HB.out (by omega) (by simpa using hBg))
        obtain ⟨ba, oa, rfl, hba, hca⟩ := HAW.out.qu (by omega)
        obtain ⟨be, oe, rfl, hbe, hce⟩ := HEW.out.ints (by simpa using (show 0 < E.length by omega))
        obtain ⟨d0, d1, d2, d3⟩ := hca i hil
        have cx := hce at_ (by simpa using hal)
        simp only [List.getElem_map] at cx
        rw [HXE.out.1] at cx
        have hfl := HFc.out i hil
        have hvl := HV.out i hil
        have HN := Lib.hid (show (decide (V i = x) && (decide (0 < rm.getD (Fc i) 0) && tryF V Fc M r (rm.set (Fc i) (rm.getD (Fc i) 0 - 1)))) = false → ∀ h, h < i + 1 → (decide (V h = x) && (decide (0 < rm.getD (Fc h) 0) && tryF V Fc M r (rm.set (Fc h) (rm.getD (Fc h) 0 - 1)))) = false from fun h0 h hh => by
          by_cases e : h = i
          · subst e; exact h0
          · exact HNO.out h (by omega))
        have HY := Lib.hid (show (decide (V i = x) && (decide (0 < rm.getD (Fc i) 0) && tryF V Fc M r (rm.set (Fc i) (rm.getD (Fc i) 0 - 1)))) = true → tryF V Fc M (x :: r) rm = true from fun h0 => by
          rw [HT.out, List.any_eq_true]
          exact ⟨i, List.mem_range.2 hil, h0⟩)
        obtain ⟨v, hv⟩ : ∃ v, v = V i := ⟨_, rfl⟩
        obtain ⟨fc, hfc⟩ : ∃ fc, fc = Fc i := ⟨_, rfl⟩
        rw [← hv] at d1 hvl HN HY
        rw [← hfc] at d2 hfl HN HY
        have hfl' : (fc : Int) < rm.length := by omega
        have cr := HBL.out.int_ (k := fc) hfl
        have fr := HBL.out.frozen fc
        have hsm := HS.out.at_ hfl
        have HSD := Lib.hid (show 0 < rm.getD fc 0 → Small (rm.set fc (rm.getD fc 0 - 1)) from fun h => HS.out.down hfl h)
        have HSS := Lib.hid (show (rm.set fc (rm.getD fc 0 - 1)).set fc (rm.getD fc 0) = rm by rw [set_set]; exact set_same fc)
        have HGT := Lib.hid (show (rm.set fc (rm.getD fc 0 - 1)).getD fc 0 = rm.getD fc 0 - 1 by rw [getD_setZ _ _ _ _ hfl, if_pos rfl])
        obtain ⟨rv, hrv⟩ : ∃ rv, rv = rm.getD fc 0 := ⟨_, rfl⟩
        rw [← hrv] at cr hsm HSD HSS HN HY HGT
        clear hca hce d0 d3 hv hfc hrv
        by_cases hvx : v = x
        · subst hvx
          have hn1 : ((v : Int) != (v : Int)) = false := by simp
          by_cases hr0 : 0 < rv
          · have hr0' : ¬ rv ≤ 0 := by omega
            have hr0'' : decide (rv ≤ 0) = false := decide_eq_false hr0'
            have HSD2 := Lib.hid (HSD.out hr0)
            have HN2 := Lib.hid (show tryF V Fc M r (rm.set fc (rv - 1)) = false → _ from fun h => HN.out (by rw [h]; simp))
            have HY2 := Lib.hid (show tryF V Fc M r (rm.set fc (rv - 1)) = true → _ from fun h => HY.out (by rw [h]; simp; omega))
            clear hr0
            go_wp2_with fail
            go_quiet (fail)
            have HB5 := Lib.hid (HB.out.drewN nq)
            have HBL5 := Lib.hid (HBL.out.drewN nq)
            have d2' : (wr.drewN nq).cell? ⟨ba, oa + i * 4 + 2, none⟩ = some (.int .i64 fc) := d2
            have cr' : (wr.drewN nq).cell? ⟨g, fc, none⟩ = some (.int .i64 rv) := cr
            have fr' := HBL5.out.frozen fc
            have hgw : g < (wr.drewN nq).heap.size := HBL5.out.lt
            generalize wr.drewN nq = w5 at *
            clear d1 d2 cr fr cx
            have HBL6 := Lib.hid (HBL5.out.setInt fc (rv - 1))
            have HB6 := Lib.hid (HB5.out.trans (But.set_ w5 (show g ∈ [g] by simp) fc (.int .i64 (rv - 1))))
            have hbg : ba ≠ g := by omega
            have d26 : (w5.setCell ⟨g, fc, none⟩ (.int .i64 (rv - 1))).cell? ⟨ba, oa + i * 4 + 2, none⟩ = some (.int .i64 fc) := by
              rw [World.cell?_of_block (Below.heap_setCell w5 ⟨g, fc, none⟩ _ ba (by simpa using hbg))]; exact d2'
            have hwv : IntKind.i64.wrap (rv - 1) = rv - 1 := by rw [IntKind.wrap_i64]; omega
            have hwv2 : IntKind.i64.wrap (rv - 1 + 1) = rv := by rw [IntKind.wrap_i64]; omega
            go_upto_region 13 with fail
            generalize w5.setCell ⟨g, fc, none⟩ (.int .i64 (rv - 1)) = w6 at *
            have hrec := IH.out (at_ + 1) (rm.set fc (rv - 1)) w6 HXE.out.2 (by omega) (HA.out.but HB6.out (by omega) (by simpa using hBg)) (HE.out.but HB6.out (by omega) (by simpa using hBg)) HBL6.out (by rw [List.length_set]; exact HFc.out) (by rw [List.length_set]; exact hl) HSD2.out
            rw [List.length_set] at hrec
            have hba6 : ba < w6.heap.size := World.block_lt_of_cell? w6 _ d26
            obtain ⟨t, ht⟩ : ∃ t, t = tryF V Fc M r (rm.set fc (rv - 1)) := ⟨_, rfl⟩
            rw [← ht] at hrec HN2 HY2
            clear ht d2' cr' fr'
            go_wp2_with fail
            refine hrec.mono ?_
            rintro e w7 ⟨rfl, hb7, hbl7⟩
            have d27 : w7.cell? ⟨ba, oa + i * 4 + 2, none⟩ = some (.int .i64 fc) := (World.cell?_of_block (hb7.block ba hba6 (by simpa using hbg))).trans d26
            have cr7 := hbl7.int_ (k := fc) (by rw [List.length_set]; exact hfl)
            rw [HGT.out] at cr7
            have fr7 := hbl7.frozen fc
            have HB7 := Lib.hid (HB6.out.trans hb7)
            have HBL8 := Lib.hid (show Blk (w7.setCell ⟨g, fc, none⟩ (.int .i64 rv)) g 3 (intCells rm).toArray by
              have h1 := hbl7.setInt fc rv
              rw [HSS.out] at h1
              exact h1)
            have HB8 := Lib.hid (HB7.out.trans (But.set_ w7 (show g ∈ [g] by simp) fc (.int .i64 rv)))
            clear hb7 hbl7 hrec d26
            cases t with
            | true =>
              have HT2 := Lib.hid (HY2.out rfl)
              go_wp2_with fail
              go_ret
              exact ⟨ret_bool HT2.out.symm, HB8.out, HBL8.out⟩
            | false =>
              have HN3 := Lib.hid (HN2.out rfl)
              go_wp2_with fail
              go_roundg (M - (i + 1))
              case measure => rw [Hk.out]; omega
              case rel => exact ⟨i + 1, by go_num, by omega, rfl, HB8.out, HBL8.out, HN3.out⟩
          · have hr0' : rv ≤ 0 := by omega
            have HN2 := Lib.hid (HN.out (by rw [decide_eq_false hr0]; simp))
            clear hr0
            go_wp2_with fail
            go_quiet (fail)
            have HBN := Lib.hid (HB.out.drewN nq)
            have HBLN := Lib.hid (HBL.out.drewN nq)
            go_wp2_with fail
            go_roundg (M - (i + 1))
            case measure => rw [Hk.out]; omega
            case rel => exact ⟨i + 1, by go_num, by omega, rfl, HBN.out, HBLN.out, HN2.out⟩
        · have hn1 : ((v : Int) != (x : Int)) = true := by rw [bne_iff_ne]; omega
          have HN2 := Lib.hid (HN.out (by rw [decide_eq_false hvx]; simp))
          clear hvx
          go_wp2_with fail
          go_quiet (fail)
          have HBN := Lib.hid (HB.out.drewN nq)
          have HBLN := Lib.hid (HBL.out.drewN nq)
          go_wp2_with fail
          go_roundg (M - (i + 1))
          case measure => rw [Hk.out]; omega
          case rel => exact ⟨i + 1, by go_num, by omega, rfl, HBN.out, HBLN.out, HN2.out⟩
      · have hie : i = M := by omega
        have hil' : ¬ (i : Int) < M := by omega
        have HF := Lib.hid (show tryF V Fc M (x :: r) rm = false by
          rw [HT.out, List.any_eq_false]
          intro h hh
          rw [HNO.out h (by rw [hie]; exact List.mem_range.1 hh)]
          simp)
        clear hie
        go_wp2_with fail
        go_ret
        exact ⟨ret_bool HF.out.symm, HB.out, HBL.out⟩
end Go.Proofs.YtelcofkjpkdjiaaGreat
/-
  The reference's Bare, Ends and Outer. Written by an AI agent.
-/
namespace Go.Proofs.YtelcofkjpkdjiaaGreat
open Go.RowKit

theorem rowsF_at {n : Nat} {es : List (Int × Int)} {f : Int × Int → Int} {x : Nat} (h : x < n) : (rowsF n es f).getD x [] = endsF es f x es.length := by
  unfold rowsF
  rw [List.getD_eq_getElem?_getD, List.getElem?_map, List.getElem?_range h]
  rfl
set_option maxRecDepth 20000 in
set_option maxHeartbeats 4000000 in
theorem refBare_any (n : Nat) (A : Option Addr) (cap : Nat) (es : List (Int × Int)) (to_ : Bool) (w : World) (hes : Cells w w.heap.size A (edgeCells es)) (hl : es.length ≤ 1000) (hn : n ≤ 1000) :
    Calls Tryz.prog 79 #[.agg #[.int .i64 n, .slice A es.length cap], .bool to_] w (ListPost (bareVI n es (if to_ = true then Prod.snd else Prod.fst)) w) := by
  have S1 := Lib.hid (SG.start n cap hes (rs := []) (C := none) (fun h => absurd h (by simp)))
  clear hes
  generalize hF : (if to_ = true then Prod.snd else Prod.fst : Int × Int → Int) = F at *
  have HF := Lib.hid (show (if (!to_) = true then Prod.fst else Prod.snd : Int × Int → Int) = F by rw [← hF]; cases to_ <;> rfl)
  clear hF
  go_enter Tryz.func79, Tryz.ntmps79
  go_upto_region 1 with fail
  generalize w.alloc (.cells #[.int .i64 n, .slice A es.length cap] 24) = w1 at *
  have HO2 := Lib.hid (show (w1.alloc (.cells #[] 3)).ownsRow w1.heap.size 3 1 (.slice (some ⟨w1.heap.size, 0, none⟩) 0 0) 0 (intCells []) from own_of_blk (xs := []) (Blk.new w1 3 #[]) (Nat.le_refl _) rfl (Nat.zero_le _))
  have hb2 := (Below.refl w1.heap.size w1).alloc (Nat.le_refl _) (.cells #[] 3)
  have hz2 := World.size_alloc w1 (.cells #[] 3)
  have HB12 := Lib.hid hb2
  clear hb2
  go_upto_region 2 with fail
  obtain ⟨gL, hgL⟩ : ∃ gL, gL = w1.heap.size := ⟨_, rfl⟩
  rw [← hgL] at HO2 HB12 hz2
  rw [← hgL]
  generalize w1.alloc (.cells #[] 3) = w2 at *
  have HG1 := Lib.hid hgL
  have hwg : w.heap.size ≤ gL := by have := S1.out.lt; omega
  clear hgL
  go_wp2_with fail
  go_loopg [5, 6] n (fun k s5 s6 wr => ∃ i : Nat, s6 = .int .i64 i ∧ i ≤ n ∧ k = n - i ∧ Below gL w1 wr ∧ gL ≤ wr.heap.size ∧ wr.ownsRow gL 3 1 s5 (bareI (rowsF n es F) i).length (intCells (bareI (rowsF n es F) i)))
  case atStart => exact ⟨0, rfl, Nat.zero_le _, rfl, HB12.out, by omega, HO2.out⟩
  case round =>
    obtain ⟨i, rfl, hi, hk, hb, hgw, hown⟩ := hrel
    have Hk := Lib.hid hk
    have HB := Lib.hid hb
    have HOW := Lib.hid hown
    obtain ⟨A5, c5, rfl⟩ := own_slice hown
    have S4 := Lib.hid (S1.out.next (w' := wr) (by rw [← HG1.out]; exact hb))
    have g0 := S4.out.g0
    have g1 := S4.out.g1
    clear hk hb hown
    by_cases hil : i < n
    · have hil' : (i : Int) < n := by omega
      have HS := Lib.hid (show bareI (rowsF n es F) (i + 1) = bareI (rowsF n es F) i ++ if (endsF es F i es.length).length = 0 then [(i : Int)] else [] by
        rw [bareI_succ, rowsF_at hil])
      have hen := refEnds_any n A cap es i (!to_) wr S4.out.es hl
      rw [HF.out] at hen
      have hle := bareI_le (rowsF n es F) i
      have hel := endsF_length es F i es.length
      go_wp2_with fail
      refine hen.mono ?_
      rintro e w5 ⟨v5, rfl, hb5, ho5⟩
      obtain ⟨A8, c8, rfl⟩ := own_slice ho5
      have HB5 := Lib.hid (HB.out.trans (hb5.mono hgw))
      have HO5 := Lib.hid (own_below HOW.out hb5 (Nat.le_refl _))
      have hz5 : gL ≤ w5.heap.size := Nat.le_trans hgw hb5.size
      obtain ⟨L, hL⟩ : ∃ L, L = (endsF es F i es.length).length := ⟨_, rfl⟩
      rw [← hL] at HS hel
      rw [← hL]
      have S5 := Lib.hid (S4.out.next hb5)
      have g0' := S5.out.g0
      have g1' := S5.out.g1
      clear hen ho5 hb5 hL g0 g1
      by_cases hx : L = 0
      · have hxe : ((L : Int) == 0) = true := by rw [hx]; rfl
        have HS2 := Lib.hid (show bareI (rowsF n es F) (i + 1) = bareI (rowsF n es F) i ++ [(i : Int)] by rw [HS.out, if_pos hx])
        clear hx
        have hzw := HB5.out.size
        go_wp2_with (at_builtin; refine wp_app elemInt rfl _ _ rfl gL (.slice A5 (bareI (rowsF n es F) i).length c5) _ _ rfl w5.heap.size [.int .i64 (i : Int)] rfl rfl HO5.out rfl rfl ?x2 ?x3 ?x4 ?_)
        case x2 => omega
        case x3 => omega
        try (case x4 => omega)
        intro v10 w10 ho10 hg10 hb10
        have HBX := Lib.hid (below_app HB5.out HO5.out hg10 (by omega) (Nat.le_refl _))
        have HOX := Lib.hid (show w10.ownsRow gL 3 1 v10 (bareI (rowsF n es F) (i + 1)).length (intCells (bareI (rowsF n es F) (i + 1))) by
          rw [HS2.out]
          simpa [intCells] using ho10)
        have hz10 : gL ≤ w10.heap.size := by have := hg10.size; omega
        clear ho10 hg10 hb10
        go_wp2_with fail
        go_roundg (n - (i + 1))
        case measure => rw [Hk.out]; omega
        case rel => exact ⟨i + 1, by go_num, by omega, rfl, HBX.out, hz10, HOX.out⟩
      · have hxe : ((L : Int) == 0) = false := by rw [beq_eq_false_iff_ne]; omega
        have HS2 := Lib.hid (show bareI (rowsF n es F) (i + 1) = bareI (rowsF n es F) i by rw [HS.out, if_neg hx, List.append_nil])
        clear hx
        have HOX := Lib.hid (show w5.ownsRow gL 3 1 (.slice A5 (bareI (rowsF n es F) i).length c5) (bareI (rowsF n es F) (i + 1)).length (intCells (bareI (rowsF n es F) (i + 1))) by rw [HS2.out]; exact HO5.out)
        go_wp2_with fail
        go_roundg (n - (i + 1))
        case measure => rw [Hk.out]; omega
        case rel => exact ⟨i + 1, by go_num, by omega, rfl, HB5.out, hz5, HOX.out⟩
    · have hie : i = n := by omega
      have hil' : ¬ (i : Int) < n := by omega
      have HOX := Lib.hid (show wr.ownsRow w.heap.size 3 1 (.slice A5 (bareI (rowsF n es F) i).length c5) (bareVI n es F).length (intCells (bareVI n es F)) by
        have h1 := own_mono HOW.out hwg
        rw [hie] at h1 ⊢
        exact h1)
      clear hie
      go_wp2_with fail
      go_ret
      exact ⟨_, rfl, S4.out.below, HOX.out⟩

theorem endsI_app (n : Nat) (es : List (Int × Int)) : bareVI n es Prod.snd ++ bareVI n es Prod.fst = endsI n es := by
  simp [endsI, endsL, bareVI]
set_option maxRecDepth 20000 in
set_option maxHeartbeats 4000000 in
theorem ref6Ends_any (n : Nat) (A : Option Addr) (cap : Nat) (es : List (Int × Int)) (w : World) (hes : Cells w w.heap.size A (edgeCells es)) (hl : es.length ≤ 1000) (hn : n ≤ 1000) :
    Calls Tryz.prog 39 #[.agg #[.int .i64 n, .slice A es.length cap]] w (ListPost (endsI n es) w) := by
  have S1 := Lib.hid (SG.start n cap hes (rs := []) (C := none) (fun h => absurd h (by simp)))
  clear hes
  go_enter Tryz.func39, Tryz.ntmps39
  go_upto_region 1 with fail
  generalize w.alloc (.cells #[.int .i64 n, .slice A es.length cap] 24) = w1 at *
  have g0 := S1.out.g0
  have g1 := S1.out.g1
  have hl1 := S1.out.lt
  have hs1 := bareV_le n es Prod.snd
  have hs2 := bareV_le n es Prod.fst
  have hq1 : (bareVI n es Prod.snd).length = (bareV n es Prod.snd).length := by simp [bareVI]
  have hq2 : (bareVI n es Prod.fst).length = (bareV n es Prod.fst).length := by simp [bareVI]
  have hq3 : (bareVI n es Prod.snd).length + (bareVI n es Prod.fst).length ≤ 2000 := by omega
  clear hs1 hs2 hq1 hq2
  have HG := Lib.hid S1.out.b
  have hLe : (intCells (bareVI n es Prod.snd ++ bareVI n es Prod.fst)) = intCells (bareVI n es Prod.snd) ++ intCells (bareVI n es Prod.fst) := by simp [intCells]
  have HLE := Lib.hid hLe
  have HEN := Lib.hid (endsI_app n es)
  clear hLe
  obtain ⟨gb, hgb⟩ : ∃ gb, gb = w.heap.size := ⟨_, rfl⟩
  rw [← hgb] at HG g0 g1 hl1
  rw [← hgb]
  have HGE := Lib.hid hgb
  clear hgb g0 g1
  refine R3.wp_region_i w1.heap.size [[], [3]] [0, 0, 0, 0, 1, 0]
    [([], .val (.agg #[.int .i64 n, .slice A es.length cap])), ([0], .own 3 1 (bareVI n es Prod.snd).length (intCells (bareVI n es Prod.snd))), ([], .val (.agg #[.int .i64 n, .slice A es.length cap])), ([2], .own 3 1 (bareVI n es Prod.fst).length (intCells (bareVI n es Prod.fst))), ([1, 3], .own 3 1 ((bareVI n es Prod.snd).length + (bareVI n es Prod.fst).length) (intCells (bareVI n es Prod.snd) ++ intCells (bareVI n es Prod.fst))), ([4], .own 3 1 ((bareVI n es Prod.snd).length + (bareVI n es Prod.fst).length) (intCells (bareVI n es Prod.snd) ++ intCells (bareVI n es Prod.fst)))] [5] (by kernel_rfl) (by kernel_rfl) (fun us => ?_) ?_
  · refine R3.pgo_pure _ rfl rfl (fun wv hw hu => ⟨.agg #[.int .i64 n, .slice A es.length cap], ?_, rfl⟩) ?_
    · have zy0 : wv.cell? ⟨gb, 0, none⟩ = some (.int .i64 n) := ((evo_nil (by kernel_rfl) hw).cell (p := ⟨gb, 0, none⟩) HG.out.lt).trans (HG.out.cell 0)
      have zy1 : wv.cell? ⟨gb, 1, none⟩ = some (.slice A es.length cap) := ((evo_nil (by kernel_rfl) hw).cell (p := ⟨gb, 1, none⟩) HG.out.lt).trans (HG.out.cell 1)
      clear hw hu
      go_simp
    refine R3.pgo_op _ rfl rfl (fun K wv hw hu hK => ?_) ?_
    · have h0 : us 0 = .agg #[.int .i64 n, .slice A es.length cap] := hu.1
      have hbl := evo_nil (by kernel_rfl) hw
      have hsz : w1.heap.size ≤ wv.heap.size := hw.size
      refine wpo_call (f := 79) (args := #[.agg #[.int .i64 n, .slice A es.length cap], .bool true]) ?_ ((refBare_any n A cap es true wv ((S1.out.es.drew.below hbl).more hbl.size) hl hn).mono ?_)
      · clear hK hw hu
        go_simp
      rintro e w' ⟨v, rfl, hb, ho⟩
      rw [if_pos rfl] at ho
      obtain ⟨A', c', rfl⟩ := own_slice ho
      exact ⟨_, rfl, hK _ _ (Evo.of_below hb) ⟨_, _, rfl, own_mono ho hsz⟩⟩
    refine R3.pgo_pure _ rfl rfl (fun wv hw hu => ⟨.agg #[.int .i64 n, .slice A es.length cap], ?_, rfl⟩) ?_
    · have zy0 : wv.cell? ⟨gb, 0, none⟩ = some (.int .i64 n) := ((evo_nil (by kernel_rfl) hw).cell (p := ⟨gb, 0, none⟩) HG.out.lt).trans (HG.out.cell 0)
      have zy1 : wv.cell? ⟨gb, 1, none⟩ = some (.slice A es.length cap) := ((evo_nil (by kernel_rfl) hw).cell (p := ⟨gb, 1, none⟩) HG.out.lt).trans (HG.out.cell 1)
      clear hw hu
      go_simp
    refine R3.pgo_op _ rfl rfl (fun K wv hw hu hK => ?_) ?_
    · have h2 : us 2 = .agg #[.int .i64 n, .slice A es.length cap] := hu.1
      have hbl := evo_nil (by kernel_rfl) hw
      have hsz : w1.heap.size ≤ wv.heap.size := hw.size
      refine wpo_call (f := 79) (args := #[.agg #[.int .i64 n, .slice A es.length cap], .bool false]) ?_ ((refBare_any n A cap es false wv ((S1.out.es.drew.below hbl).more hbl.size) hl hn).mono ?_)
      · clear hK hw hu
        go_simp
      rintro e w' ⟨v, rfl, hb, ho⟩
      rw [if_neg (by decide)] at ho
      obtain ⟨A', c', rfl⟩ := own_slice ho
      exact ⟨_, rfl, hK _ _ (Evo.of_below hb) ⟨_, _, rfl, own_mono ho hsz⟩⟩
    refine R3.pgo_op _ rfl rfl (fun K wv hw hu hK => ?_) ?_
    · obtain ⟨A1, c1, h1, ho1⟩ := hu.1
      obtain ⟨A3, c3, h3, ho3⟩ := hu.2.1
      have hsz : w1.heap.size ≤ wv.heap.size := hw.size
      rw [h1] at ho1
      rw [h3] at ho3
      refine wpo_app_any elemInt _ _ rfl (by repeat (first | (with_reducible exact (put_eval_same _ _ _ (by simp [put_size])).trans h1) | (with_reducible refine put_eval _ _ _ _ _ (by decide) ?_))) ho1 (by repeat (first | (with_reducible exact (put_eval_same _ _ _ (by simp [put_size])).trans h3) | (with_reducible refine put_eval _ _ _ _ _ (by decide) ?_))) (Cells.of_own ho3) (show (intCells (bareVI n es Prod.fst)).length = (bareVI n es Prod.fst).length * 1 by simp [intCells]) (intCells_one _) (by omega) (by omega) hsz (fun v' w' ho hg hv => ?_)
      obtain ⟨A8, c8, rfl⟩ := own_slice ho
      exact hK _ _ (Evo.of_grown ho1 hg (by decide) (Nat.le_refl _)) ⟨_, _, rfl, ho⟩
    refine R3.pgo_val _ rfl rfl (fun wv hw hu => ?_) ?_
    · obtain ⟨A4, c4, h4, ho4⟩ := hu.1
      refine ⟨us 4, wv, ?_, Evo.refl _ _ _, ⟨A4, c4, h4, ho4⟩⟩
      rw [h4]
      clear hw hu
      go_simp
    trivial
  · intro us w6 hw hu
    obtain ⟨A5, c5, h5, ho5⟩ := hu.1
    have HB6 := Lib.hid (S1.out.below.trans ((below_undrew' (hw.below (Nat.le_refl _))).mono (Nat.le_of_lt S1.out.lt)))
    have HO6 := Lib.hid (own_mono ho5 (Nat.le_of_lt S1.out.lt))
    rw [← HLE.out, ← List.length_append, HEN.out, h5] at HO6
    clear hw hu ho5
    simp only [lexL]
    go_simp
    go_wp2_with fail
    go_ret
    exact ⟨_, rfl, HB6.out, HO6.out⟩
end Go.Proofs.YtelcofkjpkdjiaaGreat
/-
  Sources and sinks of a connected graph: each once, all others have both (plain law). Written by an AI agent.
-/
namespace Go.Proofs.YtelcofkjpkdjiaaGreat
open Go.RowKit

section
variable {es : List (Int × Int)} {N : Nat}
theorem vtx_even (hin : InN N es) {i : Nat} (hi : i < es.length) : (vtx es (2 * i) : Int) = (es.getD i (0, 0)).1 := by
  have h := atE_vtx hin (h := 2 * i) (by omega)
  rw [← h]
  unfold atE
  rw [show 2 * i / 2 = i by omega]
  simp
theorem vtx_odd (hin : InN N es) {i : Nat} (hi : i < es.length) : (vtx es (2 * i + 1) : Int) = (es.getD i (0, 0)).2 := by
  have h := atE_vtx hin (h := 2 * i + 1) (by omega)
  rw [← h]
  unfold atE
  rw [show (2 * i + 1) / 2 = i by omega]
  simp
theorem even_iff (hin : InN N es) {x : Nat} : hasEven es x ↔ ∃ i, i < es.length ∧ (es.getD i (0, 0)).1 = (x : Int) := by
  constructor
  · rintro ⟨k, hk, hv, he⟩
    have h2 : k % 2 = 0 := by simpa [ev] using he
    refine ⟨k / 2, by omega, ?_⟩
    rw [← vtx_even hin (by omega), show 2 * (k / 2) = k by omega, hv]
  · rintro ⟨i, hi, e⟩
    refine ⟨2 * i, by omega, ?_, by simp [ev]⟩
    have := vtx_even hin hi
    omega
theorem odd_iff (hin : InN N es) {x : Nat} : hasOdd es x ↔ ∃ i, i < es.length ∧ (es.getD i (0, 0)).2 = (x : Int) := by
  constructor
  · rintro ⟨k, hk, hv, he⟩
    have h2 : k % 2 = 1 := by
      have := Nat.mod_two_eq_zero_or_one k
      simp [ev] at he
      omega
    refine ⟨k / 2, by omega, ?_⟩
    rw [← vtx_odd hin (by omega), show 2 * (k / 2) + 1 = k by omega, hv]
  · rintro ⟨i, hi, e⟩
    refine ⟨2 * i + 1, by omega, ?_, by simp [ev]⟩
    have := vtx_odd hin hi
    omega
theorem mem_src (hin : InN N es) {x : Nat} : x ∈ bareV N es Prod.snd ↔ x < N ∧ ¬ hasOdd es x := by
  rw [mem_bareV, odd_iff hin]
  exact ⟨fun h => ⟨h.1, fun ⟨i, hi, e⟩ => h.2 i hi e⟩, fun h => ⟨h.1, fun i hi e => h.2 ⟨i, hi, e⟩⟩⟩
theorem mem_snk (hin : InN N es) {x : Nat} : x ∈ bareV N es Prod.fst ↔ x < N ∧ ¬ hasEven es x := by
  rw [mem_bareV, even_iff hin]
  exact ⟨fun h => ⟨h.1, fun ⟨i, hi, e⟩ => h.2 i hi e⟩, fun h => ⟨h.1, fun i hi e => h.2 ⟨i, hi, e⟩⟩⟩
theorem edge_touch (hin : InN N es) {p q : Nat} {c : Nat → Bool} (h : Edge1 true c es p q) : (hasOdd es p ∨ hasEven es p) ∧ (hasOdd es q ∨ hasEven es q) := by
  obtain ⟨i, hi, _, h⟩ := h
  have hg : es.getD i (0, 0) = es[i] := by rw [List.getD_eq_getElem?_getD, List.getElem?_eq_getElem hi]; rfl
  rcases h with e | ⟨_, e⟩
  · exact ⟨.inr ((even_iff hin).2 ⟨i, hi, by rw [hg, e]⟩), .inl ((odd_iff hin).2 ⟨i, hi, by rw [hg, e]⟩)⟩
  · exact ⟨.inl ((odd_iff hin).2 ⟨i, hi, by rw [hg, e]⟩), .inr ((even_iff hin).2 ⟨i, hi, by rw [hg, e]⟩)⟩
theorem star_touch (hin : InN N es) {p q : Nat} {c : Nat → Bool} (h : Star (Edge1 true c es) p q) : p = q ∨ ((hasOdd es p ∨ hasEven es p) ∧ (hasOdd es q ∨ hasEven es q)) := by
  induction h with
  | refl => exact .inl rfl
  | head h1 _ ih =>
    refine .inr ⟨(edge_touch hin h1).1, ?_⟩
    rcases ih with e | e
    · subst e; exact (edge_touch hin h1).2
    · exact e.2
/-- in a connected graph with edges each vertex touches one -/
theorem touch (hin : InN N es) (h1 : cls (Q es es.length) N = 1) (he : 0 < es.length) {x : Nat} (hx : x < N) : hasOdd es x ∨ hasEven es x := by
  have hQ := cls_one (Q_equ N es.length) h1
  have h0 : hasOdd es 0 ∨ hasEven es 0 := by
    have ht : vtx es 0 < N := vtx_lt hin (by omega)
    rcases star_touch hin (hQ _ ht) with e | e
    · exact .inr ⟨0, by omega, e.symm, by simp [ev]⟩
    · exact e.1
  rcases star_touch hin (hQ x hx) with e | e
  · subst e; exact h0
  · exact e.2
theorem bareT_count (ls : List (List Int)) (n : Nat) : (bareT ls n).length = (List.range n).countP fun x => decide ((ls.getD x []).length = 0) := by
  unfold bareT
  rw [List.countP_eq_length_filter]
theorem src_count (hin : InN N es) : (bareV N es Prod.snd).length = (List.range N).countP fun x => tst (¬ hasOdd es x) := by
  unfold bareV
  rw [bareT_count]
  refine count_congr fun x hx => ?_
  rw [Bool.eq_iff_iff, tst_iff, decide_eq_true_eq]
  have h := mem_src hin (x := x)
  unfold bareV bareT at h
  rw [List.mem_filter, List.mem_range, decide_eq_true_eq] at h
  exact ⟨fun e => (h.1 ⟨hx, e⟩).2, fun e => (h.2 ⟨hx, e⟩).2⟩
theorem snk_count (hin : InN N es) : (bareV N es Prod.fst).length = (List.range N).countP fun x => tst (¬ hasEven es x) := by
  unfold bareV
  rw [bareT_count]
  refine count_congr fun x hx => ?_
  rw [Bool.eq_iff_iff, tst_iff, decide_eq_true_eq]
  have h := mem_snk hin (x := x)
  unfold bareV bareT at h
  rw [List.mem_filter, List.mem_range, decide_eq_true_eq] at h
  exact ⟨fun e => (h.1 ⟨hx, e⟩).2, fun e => (h.2 ⟨hx, e⟩).2⟩
theorem three_count (p q : Nat → Prop) : ∀ N : Nat, (∀ x, x < N → p x ∨ q x) → ((List.range N).countP fun x => tst (¬ p x)) + ((List.range N).countP fun x => tst (¬ q x)) + ((List.range N).countP fun x => tst (p x ∧ q x)) = N
  | 0, _ => rfl
  | N + 1, h => by
    have ih := three_count p q N fun x hx => h x (by omega)
    have hN := h N (by omega)
    rw [List.range_succ, List.countP_append, List.countP_append, List.countP_append]
    have e : ∀ r : Nat → Bool, [N].countP r = if r N = true then 1 else 0 := fun r => by simp [List.countP_cons]
    rw [e, e, e]
    by_cases hp : p N
    · by_cases hq : q N
      · rw [if_neg (by rw [tst_iff]; exact fun h => h hp), if_neg (by rw [tst_iff]; exact fun h => h hq), if_pos (tst_iff.2 ⟨hp, hq⟩)]; omega
      · rw [if_neg (by rw [tst_iff]; exact fun h => h hp), if_pos (tst_iff.2 hq), if_neg (by rw [tst_iff]; exact fun h => hq h.2)]; omega
    · have hq : q N := hN.resolve_left hp
      rw [if_pos (tst_iff.2 hp), if_neg (by rw [tst_iff]; exact fun h => h hq), if_neg (by rw [tst_iff]; exact fun h => hp h.1)]; omega
theorem ends_count (hin : InN N es) (h1 : cls (Q es es.length) N = 1) (he : 0 < es.length) : (endsL N es).length + bothN es N = N := by
  unfold endsL bothN
  rw [List.length_append, src_count hin, snk_count hin]
  exact three_count (hasOdd es) (hasEven es) N fun x hx => touch hin h1 he hx
theorem bareV_nodup (n : Nat) (f : Int × Int → Int) : (bareV n es f).Nodup := by
  unfold bareV bareT
  exact List.nodup_range.filter _
theorem ends_nodup (hin : InN N es) (h1 : cls (Q es es.length) N = 1) (he : 0 < es.length) : (endsL N es).Nodup := by
  unfold endsL
  rw [List.nodup_append]
  refine ⟨bareV_nodup _ _, bareV_nodup _ _, fun a ha b hb e => ?_⟩
  subst e
  obtain ⟨hx, h2⟩ := (mem_src hin).1 ha
  obtain ⟨_, h3⟩ := (mem_snk hin).1 hb
  rcases touch hin h1 he hx with h | h
  · exact h2 h
  · exact h3 h
end
end Go.Proofs.YtelcofkjpkdjiaaGreat
/-
  What fit finds, and what trying all choices finds, is one (plain law). Written by an AI agent.
-/
namespace Go.Proofs.YtelcofkjpkdjiaaGreat
open Go.RowKit

section
variable {V Fc : Nat → Nat} {n M : Nat} {rm : List Int}
theorem sum_getD : ∀ l : List Int, l.sum = ((List.range l.length).map fun f => l.getD f 0).sum
  | [] => rfl
  | a :: l => by
    rw [List.sum_cons, List.length_cons, List.range_succ_eq_map, List.map_cons, List.sum_cons, sum_getD l, List.map_map]
    rfl
theorem sum_cast (f : Nat → Nat) : ∀ k : Nat, (((List.range k).map f).sum : Int) = ((List.range k).map fun x => (f x : Int)).sum
  | 0 => rfl
  | k + 1 => by
    rw [List.range_succ, List.map_append, List.sum_append, List.map_append, List.sum_append, ← sum_cast f k]
    simp
theorem sum_congrZ {f g : Nat → Int} {k : Nat} (h : ∀ x, x < k → f x = g x) : ((List.range k).map f).sum = ((List.range k).map g).sum := by
  congr 1
  exact List.map_congr_left fun x hx => h x (List.mem_range.1 hx)
theorem count_faces {F : Nat} {E : List Nat} {g : Nat → Nat} (hg : ∀ x ∈ E, Fc (g x) < F) : ((List.range F).map fun f => E.countP fun x => decide (Fc (g x) = f)).sum = E.length := by
  have h := count_fibers (v := fun x => Fc (g x)) (M := F) (fun _ => true) E (fun k hk _ => hg k hk)
  rw [List.countP_true] at h
  rw [h]
  simp
/-- the sum of the rooms where great angles fit -/
theorem fitG_sum (hFc : ∀ h, h < M → Fc h < rm.length) {E : List Nat} (h : FitG V Fc M E rm) : (rm.all fun n => decide (0 ≤ n)) = true ∧ rm.sum = (E.length : Int) := by
  obtain ⟨g, h1, h2⟩ := h
  constructor
  · rw [List.all_eq_true]
    intro z hz
    obtain ⟨f, hf, rfl⟩ := List.getElem_of_mem hz
    have := h2 f hf
    rw [List.getD_eq_getElem?_getD, List.getElem?_eq_getElem hf] at this
    rw [decide_eq_true_eq]
    rw [show rm[f] = _ from this]
    exact Int.natCast_nonneg _
  · rw [sum_getD, sum_congrZ (fun f hf => h2 f hf), ← sum_cast]
    congr 1
    exact count_faces fun x hx => hFc _ (h1 x hx).1
theorem le_sum_eq {f g : Nat → Int} : ∀ {k : Nat}, (∀ x, x < k → f x ≤ g x) → ((List.range k).map f).sum = ((List.range k).map g).sum → ∀ x, x < k → f x = g x
  | 0, _, _ => fun x h => absurd h (Nat.not_lt_zero _)
  | k + 1, hle, hs => by
    have mono : ∀ j, j ≤ k → ((List.range j).map f).sum ≤ ((List.range j).map g).sum := by
      intro j
      induction j with
      | zero => intro _; simp
      | succ j ih =>
        intro hj
        rw [List.range_succ, List.map_append, List.sum_append, List.map_append, List.sum_append]
        have h1 := ih (by omega)
        have h2 := hle j (by omega)
        simp only [List.map_cons, List.map_nil, List.sum_cons, List.sum_nil]
        omega
    rw [List.range_succ, List.map_append, List.sum_append, List.map_append, List.sum_append] at hs
    simp only [List.map_cons, List.map_nil, List.sum_cons, List.sum_nil] at hs
    have h1 := mono k (Nat.le_refl _)
    have h2 := hle k (by omega)
    have h3 : ((List.range k).map f).sum = ((List.range k).map g).sum := by omega
    intro x hx
    by_cases e : x = k
    · subst e; omega
    · exact le_sum_eq (fun y hy => hle y (by omega)) h3 x (by omega)
theorem good_start (n M : Nat) (hall : (rm.all fun n => decide (0 ≤ n)) = true) : GoodG V Fc n M rm (List.replicate n (-1)) := by
  have hg : ∀ y, y < n → (List.replicate n (-1 : Int)).getD y 0 = -1 := fun y hy => by
    rw [List.getD_eq_getElem?_getD, List.getElem?_replicate, if_pos hy]; rfl
  refine ⟨by simp, fun y hy h => ?_, fun y hy => ?_, fun f hf => ?_⟩
  · rw [hg y hy] at h; omega
  · rw [hg y hy]; omega
  · have : holdL Fc n (List.replicate n (-1)) f = [] := by
      rw [List.eq_nil_iff_forall_not_mem]
      intro y hy
      obtain ⟨h1, h2, _⟩ := mem_hold.1 hy
      rw [hg y h1] at h2
      omega
    rw [this]
    rw [List.all_eq_true] at hall
    have := hall _ (List.getElem_mem hf)
    rw [decide_eq_true_eq] at this
    rw [List.getD_eq_getElem?_getD, List.getElem?_eq_getElem hf]
    simpa using this
theorem hold_ends {E : List Nat} {G : List Int} (hnd : E.Nodup) (hE : ∀ z ∈ E, z < n) (h : ∀ z, z < n → (0 ≤ G.getD z 0 ↔ z ∈ E)) (f : Nat) : (holdL Fc n G f).length = E.countP fun x => decide (Fc (G.getD x 0).toNat = f) := by
  rw [hold_count, nodup_count hnd hE]
  refine count_congr fun x hx => ?_
  congr 1
  rw [Bool.eq_iff_iff, decide_eq_true_eq, decide_eq_true_eq]
  exact h x hx
structure Fits (V Fc : Nat → Nat) (n M : Nat) (rm : List Int) (E : List Nat) (G : List Int) : Prop where
  good : GoodG V Fc n M rm G
  ends : ∀ z, z < n → (0 ≤ G.getD z 0 ↔ z ∈ E)
  full : ∀ f, f < rm.length → ((holdL Fc n G f).length : Int) = rm.getD f 0
theorem fits_fitG {E : List Nat} {G : List Int} (hnd : E.Nodup) (hE : ∀ z ∈ E, z < n) (h : Fits V Fc n M rm E G) : FitG V Fc M E rm := by
  refine ⟨fun x => (G.getD x 0).toNat, fun x hx => h.good.own x (hE x hx) ((h.ends x (hE x hx)).2 hx), fun f hf => ?_⟩
  rw [← h.full f hf, hold_ends hnd hE h.ends]
end
section
variable {V Fc Kd : Nat → Nat} {n M F f0 : Nat} {E : List Nat}
theorem fitR_some (hFc : ∀ h, h < M → Fc h < F) (hnd : E.Nodup) (hE : ∀ z ∈ E, z < n) {G : List Int} (h : fitR V Fc Kd n M F f0 E = some G) : Fits V Fc n M (roomT Fc Kd F f0 M) E G := by
  unfold fitR at h
  split at h
  case isFalse => cases h
  case isTrue hc =>
    obtain ⟨hall, hsum⟩ := hc
    have hFc' : ∀ h, h < M → Fc h < (roomT Fc Kd F f0 M).length := fun h hh => by rw [roomT_length]; exact hFc h hh
    obtain ⟨_, h2⟩ := fitL_spec hFc' hnd hE E [] (List.replicate n (-1)) rfl (good_start n M hall) (fun z hz => by
      rw [List.getD_eq_getElem?_getD, List.getElem?_replicate, if_pos hz]
      simp)
    obtain ⟨hG, he⟩ := h2 G h
    refine ⟨hG, he, fun f hf => ?_⟩
    have hh : ∀ f, (holdL Fc n G f).length = E.countP fun x => decide (Fc (G.getD x 0).toNat = f) := hold_ends hnd hE he
    have hs : ((List.range (roomT Fc Kd F f0 M).length).map fun f => (holdL Fc n G f).length).sum = E.length := by
      rw [show (fun f => (holdL Fc n G f).length) = fun f => E.countP fun x => decide (Fc (G.getD x 0).toNat = f) from funext hh]
      exact count_faces (g := fun x => (G.getD x 0).toNat) fun x hx => hFc' _ (hG.own x (hE x hx) ((he x (hE x hx)).2 hx)).1
    refine le_sum_eq (f := fun f => ((holdL Fc n G f).length : Int)) (fun x hx => hG.cap x hx) ?_ f hf
    rw [← sum_cast, hs, ← hsum, ← sum_getD]
theorem fitR_iff (hFc : ∀ h, h < M → Fc h < F) (hnd : E.Nodup) (hE : ∀ z ∈ E, z < n) : (fitR V Fc Kd n M F f0 E).isSome = true ↔ FitG V Fc M E (roomT Fc Kd F f0 M) := by
  have hFc' : ∀ h, h < M → Fc h < (roomT Fc Kd F f0 M).length := fun h hh => by rw [roomT_length]; exact hFc h hh
  constructor
  · intro h
    obtain ⟨G, hG⟩ := Option.isSome_iff_exists.1 h
    exact fits_fitG hnd hE (fitR_some hFc hnd hE hG)
  · intro h
    obtain ⟨hall, hsum⟩ := fitG_sum hFc' h
    cases hf : fitR V Fc Kd n M F f0 E with
    | some G => rfl
    | none =>
      exfalso
      unfold fitR at hf
      rw [if_pos ⟨hall, hsum⟩] at hf
      obtain ⟨h1, _⟩ := fitL_spec hFc' hnd hE E [] (List.replicate n (-1)) rfl (good_start n M hall) (fun z hz => by
        rw [List.getD_eq_getElem?_getD, List.getElem?_replicate, if_pos hz]
        simp)
      exact h1 hf h
theorem fitR_try (hFc : ∀ h, h < M → Fc h < F) (hnd : E.Nodup) (hE : ∀ z ∈ E, z < n) : (fitR V Fc Kd n M F f0 E).isSome = tryF V Fc M E (roomT Fc Kd F f0 M) := by
  rw [Bool.eq_iff_iff, fitR_iff hFc hnd hE, try_iff E _ hnd fun h hh => by rw [roomT_length]; exact hFc h hh]
end
/-- the first place that serves; none: -1 -/
def firstI (p : Nat → Bool) (F : Nat) : Int := match (List.range F).find? p with | some i => i | none => -1
theorem firstI_at {p : Nat → Bool} {F i : Nat} (hi : i < F) (h : p i = true) (hn : ∀ j, j < i → p j = false) : firstI p F = i := by
  unfold firstI
  have : (List.range F).find? p = some i := by
    obtain ⟨d, rfl⟩ : ∃ d, F = i + (1 + d) := ⟨F - i - 1, by omega⟩
    rw [List.range_add, List.find?_append, List.find?_eq_none.2 (fun j hj => by rw [hn j (List.mem_range.1 hj)]; simp), List.range_add, List.map_append, List.find?_append]
    simp [h]
  rw [this]
theorem firstI_none {p : Nat → Bool} {F : Nat} (h : ∀ j, j < F → p j = false) : firstI p F = -1 := by
  unfold firstI
  rw [List.find?_eq_none.2 (fun j hj => by rw [h j (List.mem_range.1 hj)]; simp)]
theorem least_or (p : Nat → Bool) : ∀ F : Nat, (∃ i, i < F ∧ p i = true ∧ ∀ j, j < i → p j = false) ∨ ∀ j, j < F → p j = false
  | 0 => .inr fun j h => absurd h (Nat.not_lt_zero _)
  | F + 1 => by
    rcases least_or p F with ⟨i, hi, h1, h2⟩ | h
    · exact .inl ⟨i, by omega, h1, h2⟩
    · cases hp : p F with
      | true => exact .inl ⟨F, by omega, hp, h⟩
      | false =>
        right
        intro j hj
        rcases Nat.lt_or_ge j F with e | e
        · exact h j e
        · rw [show j = F by omega]; exact hp
noncomputable def tryE (n : Int) (es : List (Int × Int)) (rs : List (List Int)) (f0 : Nat) : Bool := tryF (vtx es) (angF n es rs) (2 * es.length) (endsL rs.length es) (roomE n es rs f0)
noncomputable def outerR (n : Int) (es : List (Int × Int)) (rs : List (List Int)) : Int := if bimB rs = true then firstI (tryE n es rs) (facesOf n es rs).length else -1
section
variable {n : Int} {es : List (Int × Int)} {rs : List (List Int)}
theorem ask_one (h : askA n es rs = true) : cls (Q es es.length) rs.length = 1 := by
  unfold askA at h
  simp only [Bool.and_eq_true, decide_eq_true_eq] at h
  exact h.2.2.2
theorem ask_ends (h : askA n es rs = true) (he : 0 < es.length) : (endsL rs.length es).Nodup := ends_nodup (right_inN (ask_right h)) (ask_one h) he
theorem fitE_try (h : askA n es rs = true) (he : 0 < es.length) (f0 : Nat) : (fitE n es rs f0).isSome = tryE n es rs f0 := by
  unfold fitE tryE roomE
  exact fitR_try (fun k hk => (angF_spec (ask_right h) hk).1) (ask_ends h he) fun z hz => endsL_lt hz
theorem fitE_some (h : askA n es rs = true) (he : 0 < es.length) {f0 : Nat} {G : List Int} (hG : fitE n es rs f0 = some G) : Fits (vtx es) (angF n es rs) rs.length (2 * es.length) (roomE n es rs f0) (endsL rs.length es) G := by
  unfold fitE at hG
  exact fitR_some (fun k hk => (angF_spec (ask_right h) hk).1) (ask_ends h he) (fun z hz => endsL_lt hz) hG
/-- what Assign tells and what Outer tells -/
theorem assign_outer (h : askA n es rs = true) (he : 0 < es.length) : (assignR n es rs = none ∧ outerR n es rs = -1) ∨ ∃ f G, assignR n es rs = some (f, G) ∧ outerR n es rs = (f : Int) ∧ f < (facesOf n es rs).length ∧ fitE n es rs f = some G := by
  unfold assignR outerR
  rw [h, Bool.true_and]
  cases hb : bimB rs with
  | false => exact .inl ⟨rfl, rfl⟩
  | true =>
    rw [if_pos rfl, if_pos rfl, if_neg (by omega)]
    rcases least_or (tryE n es rs) (facesOf n es rs).length with ⟨i, hi, h1, h2⟩ | h0
    · right
      have e1 := fitE_try h he i
      rw [h1] at e1
      obtain ⟨G, hG⟩ := Option.isSome_iff_exists.1 e1
      refine ⟨i, G, firstF_at hi hG (fun j hj => ?_), firstI_at hi h1 h2, hi, hG⟩
      have e2 := fitE_try h he j
      rw [h2 j hj] at e2
      exact Option.isSome_eq_false_iff.1 e2 |> Option.isNone_iff_eq_none.1
    · left
      refine ⟨firstF_none fun j hj => ?_, firstI_none h0⟩
      have e2 := fitE_try h he j
      rw [h0 j hj] at e2
      exact Option.isSome_eq_false_iff.1 e2 |> Option.isNone_iff_eq_none.1
end
end Go.Proofs.YtelcofkjpkdjiaaGreat
