import Derived.Test.YtelcofkjpkdjiaaZSp12
import Derived.Test.YtelcofkjpkdjiaaZCountSum
import Derived.Test.YtelcofkjpkdjiaaZFit2
/-
  The law ForestCount, walked. Written by an AI agent.
-/
namespace Go.Proofs.Ytelcofkjpkdjiaa
open Go.RowKit

set_option maxRecDepth 20000 in
set_option maxHeartbeats 8000000 in
theorem fcount_any (n : Int) (A C : Option Addr) (cap ccap : Nat) (es : List (Int × Int)) (rs : List (List Int)) (w : World) (hcap : es.length ≤ cap) (hes : Cells w w.heap.size A (edgeCells es)) (hrs : RowsAt w w.heap.size C rs) :
    Calls Try.prog 8 #[.agg #[.int .i64 n, .slice A es.length cap], .slice C rs.length ccap] w (fun e w' => e = .returned (.bool true) ∧ Below w.heap.size w w') := by
  have S1 := Lib.hid (SG.start n cap hes hrs)
  have HCAP := Lib.hid hcap
  clear hes hrs hcap
  go_enter Try.func8, Try.ntmps8
  go_upto_region 1 with fail
  generalize w.alloc (.cells #[.int .i64 n, .slice A es.length cap] 24) = w1 at *
  go_wp2_with fail
  refine (speaks12_any w1).mono ?_
  rintro e w2 ⟨rfl, hb2⟩
  have S2 := Lib.hid (S1.out.next hb2)
  have g0 := S2.out.g0
  have g1 := S2.out.g1
  clear hb2 S1
  go_wp2_with fail
  refine (great2_any n A C cap ccap es rs 60 w2 S2.out.rs).mono ?_
  rintro e w3 ⟨b, rfl, hb3, hgr⟩
  have S3 := Lib.hid (S2.out.next hb3)
  clear hb3 S2 g0 g1
  have g0 := S3.out.g0
  have g1 := S3.out.g1
  cases b with
  | true =>
    clear hgr
    go_wp2_with fail
    go_ret
    exact ⟨rfl, S3.out.below⟩
  | false =>
    obtain ⟨h1, h2, h3⟩ := hgr rfl
    have hr1 : rs.length ≤ 1000 := by omega
    have HR2 := Lib.hid (show ∀ l ∈ rs, l.length ≤ 1000 from fun l hl => by have := h3 l hl; omega)
    clear hgr h3
    go_wp2_with fail
    refine (rfask_any n A C cap ccap es rs w3 S3.out.es S3.out.rs hr1 HR2.out).mono ?_
    rintro e w4 ⟨rfl, hb4⟩
    have S4 := Lib.hid (S3.out.next hb4)
    clear hb4 S3 g0 g1
    have g0 := S4.out.g0
    have g1 := S4.out.g1
    cases ha : faskB n es rs with
    | false =>
      clear ha
      go_wp2_with fail
      go_ret
      exact ⟨rfl, S4.out.below⟩
    | true =>
      have HA := Lib.hid ha
      have HK := Lib.hid (fask_ask ha)
      clear ha
      go_wp2_with fail
      refine (bimo_any n A C cap ccap es rs w4 S4.out.es S4.out.rs hr1 HR2.out).mono ?_
      rw [HK.out]
      rintro e w5 ⟨rfl, hb5⟩
      have S5 := Lib.hid (S4.out.next hb5)
      clear hb5 S4 g0 g1
      have g0 := S5.out.g0
      have g1 := S5.out.g1
      cases hbm : bimB rs with
      | false =>
        clear hbm
        go_wp2_with fail
        go_ret
        exact ⟨rfl, S5.out.below⟩
      | true =>
        have HBM := Lib.hid hbm
        clear hbm
        by_cases h0 : es.length = 0
        · have h0' : ((es.length : Int) == 0) = true := by rw [h0]; rfl
          clear h0 h1
          go_wp2_with fail
          go_ret
          exact ⟨rfl, S5.out.below⟩
        · have h0' : ((es.length : Int) == 0) = false := by rw [beq_eq_false_iff_ne]; omega
          have HFIN := Lib.hid (count_final HA.out HBM.out (by omega))
          have HFB := Lib.hid (show (facesOf n es rs).length ≤ 120 ∧ ((angR n es rs).filter hiQ).length ≤ 120 by
            have h5 := ask_right HK.out
            have h6 := faces_le h5
            have h7 := angR_length HK.out
            have h8 : ((angR n es rs).filter hiQ).length ≤ (angR n es rs).length := List.length_filter_le _ _
            omega)
          clear h0
          go_wp2_with fail
          refine (fParts_any n A C cap ccap es rs w5 S5.out.es S5.out.rs hr1 HR2.out HCAP.out).mono ?_
          rintro e w6 ⟨v, rfl, hb6, _, hvt⟩
          obtain ⟨rv, hpm⟩ := hvt HA.out
          have S6 := Lib.hid (S5.out.next hb6)
          have HPM := Lib.hid (show PartM w6 w5.heap.size v (pos (roR n es rs) (facesOf n es rs).length) (rlB (roR n es rs) (facesOf n es rs).length rs.length) (cA (roR n es rs) ((angR n es rs).filter hiQ)) rv from hpm)
          clear hb6 hvt hpm S5 g0 g1 h0'
          have HPF := Lib.hid (show pos (roR n es rs) (facesOf n es rs).length ≤ (facesOf n es rs).length from pos_le _)
          generalize roR n es rs = ro at *
          generalize (angR n es rs).filter hiQ = H at *
          generalize (facesOf n es rs).length = F at *
          obtain ⟨m, hm⟩ : ∃ m, m = pos ro F := ⟨_, rfl⟩
          rw [← hm] at HPM HPF HFIN
          clear hm
          have hmF : m ≤ 120 := by have := HPF.out; have := HFB.out; omega
          obtain ⟨A1, c1, rfl⟩ := own_slice HPM.out.own
          go_wp2_with fail
          go_loopg [5, 6, 40] m (fun k s5 s6 s40 wr => ∃ j : Nat, s5 = .int .i64 (inS es ro F rs.length j : Nat) ∧ s6 = .int .i64 (exS ro H F rs.length j) ∧ s40 = .int .i64 j ∧ j ≤ m ∧ k = m - j ∧ Below w6.heap.size w6 wr)
          case atStart => exact ⟨0, rfl, rfl, rfl, Nat.zero_le _, rfl, Below.refl _ _⟩
          case round =>
            obtain ⟨j, rfl, rfl, rfl, hj, hk, hb⟩ := hrel
            have Hk := Lib.hid hk
            have HB := Lib.hid hb
            clear hk hb
            have hex := exS_bound (ro := ro) (H := H) (F := F) (N := rs.length) (by have := HFB.out; omega) (by omega) (by have := HFB.out; omega) j
            have hin : inS es ro F rs.length j ≤ 10000 := Nat.le_trans (inS_le es ro F rs.length j) (Nat.le_trans (Nat.mul_le_mul h2 (Nat.le_trans hj hmF)) (by omega))
            have HIS := Lib.hid (inS_succ es ro F rs.length j)
            have HES := Lib.hid (show exS ro H F rs.length (j + 1) = exS ro H F rs.length j + exK ro H F rs.length j from rfl)
            obtain ⟨ex, hxe⟩ : ∃ x, x = exS ro H F rs.length j := ⟨_, rfl⟩
            obtain ⟨inn, hie⟩ : ∃ x, x = inS es ro F rs.length j := ⟨_, rfl⟩
            rw [← hxe] at hex HES
            rw [← hie] at hin HIS
            rw [← hxe, ← hie]
            have HXE := Lib.hid (And.intro hxe hie)
            clear hxe hie
            have hex1 : -400000 ≤ ex := by omega
            have hex2 : ex ≤ 400000 := by omega
            clear hex
            by_cases hlt : j < m
            · have hlt' : (j : Int) < m := by omega
              obtain ⟨gp, cp2, hvp, _⟩ := HPM.out.form (by omega)
              injection hvp with hv1 _ hv2
              subst hv1 hv2
              have HP1 := Lib.hid (HPM.out.below HB.out (Nat.le_refl _))
              obtain ⟨A3, c3, z0, _⟩ := HP1.out.part (k := j) (j := 0) hlt (by omega)
              obtain ⟨A2, c2, z1, hc2⟩ := HP1.out.part (k := j) (j := 1) hlt (by omega)
              have z2 := HP1.out.cellN hlt
              rw [Nat.add_zero, Nat.add_zero] at z0
              rw [Nat.mul_comm 3 j] at z0 z1 z2
              have HEK := Lib.hid (show exK ro H F rs.length j = ((cA ro H j : Nat) : Int) - (((rlB ro F rs.length (2 * j)).length : Nat) : Int) - (((rlB ro F rs.length (2 * j + 1)).length : Nat) : Int) + 1 from rfl)
              have HIK := Lib.hid (show inK es ro F rs.length j = (rlB ro F rs.length (2 * j + 1)).countP (hasEnds es) from rfl)
              have HLN := Lib.hid (show ∀ i (hi : i < (rlB ro F rs.length (2 * j + 1)).length), ∃ y : Nat, y < rs.length ∧ (rlB ro F rs.length (2 * j + 1))[i] = (y : Int) by
                rw [rlB_odd]
                exact fun i hi => rlV_nat hi)
              have hl0 : (rlB ro F rs.length (2 * j)).length ≤ 1000 := by rw [rlB_even]; exact Nat.le_trans (rlF_length _ _) (by have := HFB.out; omega)
              have hl1 : (rlB ro F rs.length (2 * j + 1)).length ≤ 1000 := by rw [rlB_odd]; exact Nat.le_trans (rlV_length _ _ _) (by omega)
              have hca : cA ro H j ≤ 1000 := Nat.le_trans List.countP_le_length (by have := HFB.out; omega)
              obtain ⟨l0, hl0e⟩ : ∃ l, l = (rlB ro F rs.length (2 * j)).length := ⟨_, rfl⟩
              obtain ⟨lv, hlv⟩ : ∃ l, l = rlB ro F rs.length (2 * j + 1) := ⟨_, rfl⟩
              obtain ⟨ca, hcae⟩ : ∃ c, c = cA ro H j := ⟨_, rfl⟩
              rw [← hl0e] at z0 hl0 HEK
              rw [← hlv] at z1 hl1 HEK HIK HLN hc2
              rw [← hcae] at z2 HEK hca
              clear hl0e hlv hcae
              have HC2 := Lib.hid hc2
              have HAB := Lib.hid ((Below.refl wr.heap.size wr).alloc (Nat.le_refl _) (.cells #[.slice A3 l0 c3, .slice A2 lv.length c2, .int .i64 (ca : Nat)] 56))
              have HBA := Lib.hid (Blk.new wr 56 #[.slice A3 l0 c3, .slice A2 lv.length c2, .int .i64 (ca : Nat)])
              obtain ⟨gA, hgA⟩ : ∃ gA, gA = wr.heap.size := ⟨_, rfl⟩
              clear hc2
              go_upto_region 10 with fail
              generalize wr.alloc (.cells #[.slice A3 l0 c3, .slice A2 lv.length c2, .int .i64 (ca : Nat)] 56) = w7 at *
              have HC7 := Lib.hid ((HC2.out.below HAB.out).more HAB.out.size)
              have HB7 := Lib.hid (HB.out.trans (HAB.out.mono HB.out.size))
              rw [← hgA] at HBA
              rw [← hgA]
              clear z0 z1 z2 HB HAB hgA HC2 HP1
              have b1 := HBA.out.cell 1
              simp only [List.getElem?_toArray, List.getElem?_cons_zero, List.getElem?_cons_succ] at b1
              go_wp2_with fail
              clear b1
              go_loopg [5, 47] lv.length (fun k s5 s47 wr => ∃ i : Nat, s5 = .int .i64 ((inn + (lv.take i).countP (hasEnds es) : Nat) : Int) ∧ s47 = .int .i64 i ∧ i ≤ lv.length ∧ k = lv.length - i ∧ Below w7.heap.size w7 wr)
              case atStart => exact ⟨0, rfl, rfl, Nat.zero_le _, rfl, Below.refl _ _⟩
              case round =>
                obtain ⟨i, rfl, rfl, hi, hk, hb⟩ := hrel
                have Hk2 := Lib.hid hk
                have HB8 := Lib.hid hb
                clear hk hb
                have hcl : (lv.take i).countP (hasEnds es) ≤ 1000 := Nat.le_trans List.countP_le_length (by simp; omega)
                by_cases hil : i < lv.length
                · have hil' : (i : Int) < lv.length := by omega
                  have HST := Lib.hid (show (lv.take (i + 1)).countP (hasEnds es) = (lv.take i).countP (hasEnds es) + if hasEnds es lv[i] = true then 1 else 0 by
                    rw [List.take_succ_eq_append_getElem hil, List.countP_append]
                    by_cases h : hasEnds es lv[i] = true <;> simp [h])
                  obtain ⟨bq, oq, rfl, hbq, hcc⟩ := (HC7.out.below HB8.out).ints (by omega)
                  have ez := hcc i hil
                  obtain ⟨y, hy, hye⟩ := HLN.out i hil
                  have HHE := Lib.hid (show hasEnds es (y : Int) = decide (0 < (endsF es Prod.fst (y : Int) es.length).length) from rfl)
                  rw [hye] at ez HST
                  obtain ⟨cn, hcn⟩ : ∃ c, c = inn + (lv.take i).countP (hasEnds es) := ⟨_, rfl⟩
                  rw [← hcn]
                  have hcnl : cn ≤ 20000 := by omega
                  have HCN := Lib.hid hcn
                  have S8 := Lib.hid (S6.out.next (HB7.out.trans (HB8.out.mono HB7.out.size)))
                  have g0 := S8.out.g0
                  have g1 := S8.out.g1
                  have HEN := Lib.hid (refEnds_any n A cap es y true wr S8.out.es (by omega))
                  clear hcc hye hcn
                  go_wp2_with fail
                  refine HEN.out.mono ?_
                  rintro e w9 ⟨v9, rfl, hb9, ho9⟩
                  simp only [if_true] at ho9
                  obtain ⟨A9, c9, rfl⟩ := own_slice ho9
                  have HB9 := Lib.hid (HB8.out.trans (hb9.mono HB8.out.size))
                  obtain ⟨le, hle⟩ : ∃ l, l = (endsF es Prod.fst (y : Int) es.length).length := ⟨_, rfl⟩
                  rw [← hle] at HHE
                  rw [← hle]
                  clear hb9 ho9 hle HEN S8 g0 g1 ez
                  by_cases hp : 0 < le
                  · have hp' : (0 : Int) < le := by omega
                    have HN := Lib.hid (show inn + (lv.take (i + 1)).countP (hasEnds es) = cn + 1 by
                      have := HCN.out
                      rw [HST.out, HHE.out, decide_eq_true hp, if_pos rfl]
                      omega)
                    clear hp
                    go_wp2_with fail
                    go_roundg (lv.length - (i + 1))
                    case measure => rw [Hk2.out]; omega
                    case rel => exact ⟨i + 1, by rw [HN.out]; rfl, by go_num, by omega, rfl, HB9.out⟩
                  · have hp' : ¬ (0 : Int) < le := by omega
                    have HN := Lib.hid (show inn + (lv.take (i + 1)).countP (hasEnds es) = cn by
                      have := HCN.out
                      rw [HST.out, HHE.out, decide_eq_false hp, if_neg (by simp)]
                      omega)
                    clear hp
                    go_wp2_with fail
                    go_roundg (lv.length - (i + 1))
                    case measure => rw [Hk2.out]; omega
                    case rel => exact ⟨i + 1, by rw [HN.out], by go_num, by omega, rfl, HB9.out⟩
                · have hil' : ¬ (i : Int) < lv.length := by omega
                  have HIN := Lib.hid (show inS es ro F rs.length (j + 1) = inn + (lv.take i).countP (hasEnds es) by
                    rw [HIS.out, HIK.out, List.take_of_length_le (by omega)])
                  have HBA8 := Lib.hid (HBA.out.below HB8.out HBA.out.lt)
                  have b0 := HBA8.out.cell 0
                  have b1 := HBA8.out.cell 1
                  have b2 := HBA8.out.cell 2
                  simp only [List.getElem?_toArray, List.getElem?_cons_zero, List.getElem?_cons_succ] at b0 b1 b2
                  have HEX := Lib.hid (show exS ro H F rs.length (j + 1) = ex + ((ca : Int) - (l0 : Int) - (lv.length : Int) + 1) by rw [HES.out, HEK.out])
                  have HB9 := Lib.hid (HB7.out.trans (HB8.out.mono HB7.out.size))
                  clear hil hi Hk2
                  go_wp2_with fail
                  go_roundg (m - (j + 1))
                  case measure => rw [Hk.out]; omega
                  case rel => exact ⟨j + 1, by rw [HIN.out, Int.natCast_add], by rw [HEX.out], by go_num, by omega, rfl, HB9.out⟩
            · have hje : j = m := by omega
              have hlt' : ¬ (j : Int) < m := by omega
              have S7 := Lib.hid (S6.out.next HB.out)
              have HF2 := Lib.hid (show (((m : Int) - ex) == ((inn : Int) + 1)) = true by
                have h := HFIN.out
                rw [← hje, ← HXE.out.1, ← HXE.out.2, hje] at h
                rw [beq_iff_eq]
                exact h)
              have hq := HF2.out
              clear hje hlt hj
              go_wp2_with fail
              go_ret
              exact ⟨by first | rfl | (rw [HF2.out]; rfl), S7.out.below⟩
end Go.Proofs.Ytelcofkjpkdjiaa
