/-
  poset.Longest: what it computes. Written by an AI agent.
-/
import Derived.Test.YtnjikhhegebkiaaDoorLev
import Derived.Test.YtnjikhhegebkiaaDoorWayLaw
namespace Go.Proofs.YtnjikhhegebkiaaDoor
open Go.RowKit

theorem view_of {n : Nat} {es : List (Int × Int)} (hm : mayB n es = true) : vN n es = n ∧ vE n es = es := by
  rw [vN, vE, if_pos hm, if_pos hm]
  exact ⟨Int.toNat_natCast n, rfl⟩
set_option maxRecDepth 20000 in
set_option maxHeartbeats 4000000 in
theorem longest_any (n : Int) (A : Option Addr) (cap : Nat) (es : List (Int × Int)) (w : World) (hes : Cells w w.heap.size A (edgeCells es)) :
    Calls Tryd.prog 17 #[.agg #[.int .i64 n, .slice A es.length cap]] w (fun e w' => ∃ v, e = .returned (.tuple #[v, .int .i64 (errOf (askB n es))]) ∧ Below w.heap.size w w' ∧ (askB n es = true → w'.ownsRow w.heap.size 3 1 v (longF n.toNat es (levF n.toNat es)).length (intCells (longF n.toNat es (levF n.toNat es)))) ∧ (askB n es = false → v = .slice none 0 0)) := by
  have b0 := Blk.new w 24 #[.int .i64 n, .slice A es.length cap]
  have hbw := (Below.refl w.heap.size w).alloc (Nat.le_refl _) (.cells #[.int .i64 n, .slice A es.length cap] 24)
  have s1 := World.size_alloc w (.cells #[.int .i64 n, .slice A es.length cap] 24)
  have hesa := (hes.below hbw).more hbw.size
  go_enter Tryd.func17, Tryd.ntmps17
  go_upto_region 1 with fail
  generalize w.alloc (.cells #[.int .i64 n, .slice A es.length cap] 24) = w1 at *
  have HW1 := Lib.hid hbw
  have HES := Lib.hid hesa
  have HB0 := Lib.hid b0
  have g0 : w1.cell? ⟨w.heap.size, 0, none⟩ = some (.int .i64 n) := b0.cell 0
  have g1 : w1.cell? ⟨w.heap.size, 1, none⟩ = some (.slice A es.length cap) := b0.cell 1
  have l1 : w.heap.size < w1.heap.size := by omega
  clear hbw b0 hesa hes
  go_wp2_with fail
  refine (levels_any n A cap es w1 HES.out).mono ?_
  rintro e w2 ⟨v, rfl, hb2, hown, hnil⟩
  have HB2 := Lib.hid hb2
  have HO2 := Lib.hid hown
  have hz2 := hb2.size
  have HW2 := Lib.hid (HW1.out.trans (hb2.mono (Nat.le_of_lt l1)))
  have HB02 := Lib.hid (HB0.out.below hb2 l1)
  have HES2 := Lib.hid ((HES.out.below hb2).more hz2)
  have g0 : w2.cell? ⟨w.heap.size, 0, none⟩ = some (.int .i64 n) := HB02.out.cell 0
  have g1 : w2.cell? ⟨w.heap.size, 1, none⟩ = some (.slice A es.length cap) := HB02.out.cell 1
  clear hb2 hown hnil
  cases ha : askB n es with
  | false =>
    have HA := Lib.hid ha
    rw [show errOf false = 1 from rfl]
    clear ha
    go_wp2_with fail
    go_ret2
    refine ⟨.slice none 0 0, by rw [HA.out]; rfl, HW2.out, fun h => ?_, fun _ => rfl⟩
    rw [HA.out] at h
    cases h
  | true =>
    have HA := Lib.hid ha
    have ho := HO2.out ha
    have hmay : mayB n es = true := by unfold askB at ha; exact (Bool.and_eq_true _ _ ▸ ha).1
    have hord : (orderF es n.toNat).length = n.toNat := by unfold askB at ha; exact of_decide_eq_true (Bool.and_eq_true _ _ ▸ ha).2
    obtain ⟨hm1, hm2, hm3⟩ := may_parts hmay
    have hin := badE_in hmay
    obtain ⟨n, rfl⟩ : ∃ k : Nat, n = k := ⟨n.toNat, by omega⟩
    simp only [Int.toNat_natCast] at ho hord
    have HE := Lib.hid (show EdgesIn n es from hin)
    have HLv := Lib.hid (levF_lev HE.out hord)
    have HLt := Lib.hid (fun v (hv : v < n) => levF_lt (es := es) HE.out hord hv)
    have hll := levF_length n es
    obtain ⟨L, hL⟩ : ∃ L, L = levF n es := ⟨_, rfl⟩
    rw [← hL] at HLv HLt hll ho
    have HL := Lib.hid hL
    obtain ⟨A2, c2, rfl⟩ := own_slice ho
    have HO := Lib.hid (Cells.of_own ho)
    have HVe := Lib.hid (view_of hmay)
    rw [show errOf true = 0 from rfl]
    clear ha hmay hord hin ho hL HO2
    go_wp2_with fail
    refine (view_any n A cap es w2 HES2.out).mono ?_
    rintro e w3 ⟨gv, rfl, hb3, hv3⟩
    rw [HVe.out.1, HVe.out.2] at hv3
    have HV := Lib.hid hv3
    have hz3 := hb3.size
    have HW3 := Lib.hid (HW2.out.trans (hb3.mono (by omega)))
    have HB03 := Lib.hid (HB02.out.below hb3 (by omega))
    have HO3 := Lib.hid ((HO.out.below hb3).more hz3)
    obtain ⟨Av, ce, go, gi, os, is, hbv, hesv, _⟩ := hv3
    have HLV := Lib.hid hbv.lt
    have HY := Lib.hid (show w3.cell? ⟨gv, 1, none⟩ = some (.slice Av es.length ce) from hbv.cell 1)
    have HEV := Lib.hid hesv
    have g0 : w3.cell? ⟨w.heap.size, 0, none⟩ = some (.int .i64 n) := HB03.out.cell 0
    have hmx := max_any A2 c2 L w3 HO3.out (by omega) (by omega)
    have hix := fun v => index_any A2 c2 L v w3 HO3.out (by omega)
    rw [hll] at hmx
    simp only [hll] at hix
    clear hb3 hbv hesv g1
    go_wp2_with fail
    refine hmx.mono ?_
    rintro e w4 ⟨rfl, rfl⟩
    go_wp2_with fail
    refine (hix _).mono ?_
    rintro e w4 ⟨rfl, rfl⟩
    obtain ⟨top, htop, htl, htm⟩ := topF_spec (L := L) (by omega)
    have htop' : idxF L (maxL L n) = (top : Int) := by rw [← htop]; unfold topF; rw [hll]
    rw [htop']
    have HTop := Lib.hid htop
    clear hmx hix htop htop' htm
    have HO5 := Lib.hid (own_of_blk (xs := intCells [(top : Int)]) (Blk.new w3 3 #[.int .i64 top]) (Nat.le_refl _) (show _ = 1 from rfl) (by omega))
    have HB5 := Lib.hid ((Below.refl w3.heap.size w3).alloc (Nat.le_refl _) (.cells #[.int .i64 top] 3))
    have hz5 := World.size_alloc w3 (.cells #[.int .i64 top] 3)
    go_upto_region 7 with fail
    generalize w3.alloc (.cells #[.int .i64 top] 3) = w5 at *
    have htn : top < n := by omega
    have hlen : L.getD top 0 < n := HLt.out top htn
    have hnn : 0 ≤ L.getD top 0 := HLv.out.nn top
    go_loopg [2, 6] (L.getD top 0).toNat (fun k s2 s6 wr => ∃ (pre : List Int) (x : Nat), s6 = .int .i64 x ∧ x < n ∧ k = (L.getD x 0).toNat ∧ wayF n es L (L.getD top 0).toNat top = pre ++ wayF n es L (L.getD x 0).toNat x ∧ Below w3.heap.size w3 wr ∧ wr.ownsRow w3.heap.size 3 1 s2 (pre ++ [(x : Int)]).length (intCells (pre ++ [(x : Int)])))
    case atStart => exact ⟨[], top, rfl, htn, rfl, rfl, HB5.out, HO5.out⟩
    case round =>
      obtain ⟨pre, x, rfl, hxn, hk, hway, hb, hown⟩ := hrel
      have Hk := Lib.hid hk
      have HWay := Lib.hid hway
      have HB6 := Lib.hid hb
      have HO6 := Lib.hid hown
      have hz6 := hb.size
      have hplen : pre.length + 1 ≤ n := by
        have := congrArg List.length hway
        rw [List.length_append, wayF_length, wayF_length] at this
        omega
      have hxn' : (x : Int) < n := by omega
      obtain ⟨bl, ol, hA2, hbl, hcl⟩ := HO3.out.ints (by omega)
      have cx := (hb.cell (p := ⟨bl, ol + x, none⟩) hbl).trans (hcl x (by omega))
      have HCL := Lib.hid hcl
      have hxv : L[x]'(by omega) = L.getD x 0 := by rw [List.getD_eq_getElem?_getD, List.getElem?_eq_getElem (by omega)]; rfl
      rw [hxv] at cx
      have hvn : 0 ≤ L.getD x 0 := HLv.out.nn x
      have hvl := HLt.out x hxn
      have g0' := (hb.cell (p := ⟨w.heap.size, 0, none⟩) (show w.heap.size < w3.heap.size by omega)).trans g0
      subst hA2
      clear hk hway hb hown hcl hxv
      obtain ⟨vx, hvx⟩ : ∃ vx, vx = L.getD x 0 := ⟨_, rfl⟩
      rw [← hvx] at cx hvn hvl
      have HVX := Lib.hid hvx
      clear hvx
      by_cases h0 : (0 : Int) < vx
      · obtain ⟨w6, rfl⟩ : ∃ y, y = wr := ⟨_, rfl⟩
        go_wp2_with fail
        refine (ins_any gv n es x w6 (HV.out.below HB6.out (Nat.le_refl _)) hxn (by omega)).mono ?_
        rintro e w7 ⟨v5, rfl, hb7, ho7⟩
        obtain ⟨A5, c5, rfl⟩ := own_slice ho7
        have HB7 := Lib.hid (HB6.out.trans (hb7.mono hz6))
        have hz7 := hb7.size
        have HO67 := Lib.hid (own_below HO6.out hb7 (Nat.le_refl _))
        have HO7 := Lib.hid ho7
        obtain ⟨l5, hl5⟩ : ∃ z, z = endsF es Prod.snd x es.length := ⟨_, rfl⟩
        have hlm : l5.length ≤ es.length := by rw [hl5]; exact endsF_length _ _ _ _
        rw [← hl5] at HO7
        have HL5 := Lib.hid hl5
        rw [← hl5]
        clear hb7 ho7 hl5 cx g0'
        go_wp2_with fail
        go_loopg [7, 38] l5.length (fun k s7 s38 wr => ∃ j : Nat, s38 = .int .i64 j ∧ s7 = .int .i64 (nextL es L x n (l5.take j)) ∧ j ≤ l5.length ∧ k = l5.length - j ∧ Below w7.heap.size w7 wr)
        case atStart => exact ⟨0, rfl, rfl, Nat.zero_le _, rfl, Below.refl _ _⟩
        case round =>
          obtain ⟨j, rfl, rfl, hj, hk2, hb8⟩ := hrel
          have Hk2 := Lib.hid hk2
          have HB8 := Lib.hid (HB7.out.trans (hb8.mono (by omega)))
          have HB78 := Lib.hid hb8
          have HC8 := Lib.hid ((Cells.of_own HO7.out).below hb8)
          clear hk2 hb8
          by_cases hjl : j < l5.length
          · have hjl' : (j : Int) < l5.length := by omega
            obtain ⟨i, hei, hil, hi1⟩ : ∃ i : Nat, l5[j] = (i : Int) ∧ ∃ h : i < es.length, es[i].2 = (x : Int) := by
              have e := HL5.out
              subst e
              exact endsF_at hjl
            obtain ⟨b5, o5, hA5, hb5, hc5⟩ := HC8.out.ints (by omega)
            have c5j := hc5 j hjl
            rw [hei] at c5j
            obtain ⟨b, off, hAv, hbb, hcc⟩ := HEV.out.edges (by omega)
            obtain ⟨c0, _⟩ := hcc i hil
            obtain ⟨q0, q1, q2, q3⟩ := HE.out es[i] (List.getElem_mem hil)
            obtain ⟨t, ht⟩ : ∃ t : Nat, es[i].1 = (t : Int) := ⟨es[i].1.toNat, by omega⟩
            rw [ht] at c0
            have c0' := (HB8.out.cell (p := ⟨b, off + i * 2, none⟩) hbb).trans c0
            have htn2 : t < n := by omega
            have htn' : (t : Int) < n := by omega
            have hil' : (i : Int) < es.length := by omega
            have y1 := (HB8.out.cell (p := ⟨gv, 1, none⟩) HLV.out).trans HY.out
            have ct := (HB8.out.cell (p := ⟨bl, ol + t, none⟩) hbl).trans (HCL.out t (by omega))
            have hxt : L[t]'(by omega) = L.getD t 0 := by rw [List.getD_eq_getElem?_getD, List.getElem?_eq_getElem (by omega)]; rfl
            have hxv : L[x]'(by omega) = vx := by rw [HVX.out, List.getD_eq_getElem?_getD, List.getElem?_eq_getElem (by omega)]; rfl
            have cx := (HB8.out.cell (p := ⟨bl, ol + x, none⟩) hbl).trans (HCL.out x (by omega))
            rw [hxt] at ct
            rw [hxv] at cx
            have HN := Lib.hid (nextL_succ (es := es) (L := L) (x := (x : Int)) (nx := (n : Int)) hjl)
            have etl : tl es l5[j] = (t : Int) := by rw [hei]; unfold tl; simp only [Int.toNat_natCast]; rw [List.getD_eq_getElem?_getD, List.getElem?_eq_getElem hil]; simpa using ht
            have HTL := Lib.hid etl
            have hwv : IntKind.i64.wrap (vx - 1) = vx - 1 := by rw [IntKind.wrap_i64]; omega
            obtain ⟨nx, hnx⟩ : ∃ nx, nx = nextL es L x n (l5.take j) := ⟨_, rfl⟩
            rw [← hnx]
            have HNX := Lib.hid hnx
            obtain ⟨vt, hvt⟩ : ∃ vt, vt = L.getD t 0 := ⟨_, rfl⟩
            rw [← hvt] at ct
            have HVT := Lib.hid hvt
            subst hA5 hAv
            have hmn : (if (t : Int) < nx then (t : Int) else nx) = min nx t := by split <;> omega
            clear hcc c0 hc5 q0 q1 q2 q3 hi1 hei ht hxt hxv etl hnx hvt
            go_upto_region 13 with fail
            go_quiet (fail)
            by_cases hc : vt = vx - 1
            · have hc' : (vt == vx - 1) = true := by rw [beq_iff_eq]; exact hc
              have HR := Lib.hid (show nextL es L x n (l5.take (j + 1)) = min nx t by
                rw [HN.out, HTL.out, if_pos (by simp only [Int.toNat_natCast]; rw [← HVT.out, ← HVX.out]; exact hc), HNX.out])
              clear hc
              go_wp2_with fail
              have hb9 : Below w7.heap.size w7 (wr.drewN nq) := ⟨HB78.out.os, HB78.out.tape, HB78.out.output, HB78.out.size, HB78.out.block⟩
              go_roundg (l5.length - (j + 1))
              case measure => rw [Hk2.out]; omega
              case rel => exact ⟨j + 1, by go_num, by rw [HR.out], by omega, rfl, hb9⟩
            · have hc' : (vt == vx - 1) = false := by rw [beq_eq_false_iff_ne]; exact hc
              have HR := Lib.hid (show nextL es L x n (l5.take (j + 1)) = nx by
                rw [HN.out, HTL.out, if_neg (by simp only [Int.toNat_natCast]; rw [← HVT.out, ← HVX.out]; exact hc), HNX.out])
              clear hc
              go_wp2_with fail
              have hb9 : Below w7.heap.size w7 (wr.drewN nq) := ⟨HB78.out.os, HB78.out.tape, HB78.out.output, HB78.out.size, HB78.out.block⟩
              go_roundg (l5.length - (j + 1))
              case measure => rw [Hk2.out]; omega
              case rel => exact ⟨j + 1, by go_num, by rw [HR.out], by omega, rfl, hb9⟩
          · have hje : j = l5.length := by omega
            have hjl' : ¬ (j : Int) < l5.length := by omega
            have hv0 : 0 < L.getD x 0 := by rw [← HVX.out]; exact h0
            obtain ⟨y, hy1, hy2, hy3, _⟩ := nextT_spec HE.out HLv.out hxn hv0
            have HNY := Lib.hid (show nextL es L x n (l5.take j) = (y : Int) by
              rw [hje, List.take_length, HL5.out, ← hy1]; rfl)
            have HY3 := Lib.hid hy3
            have HWay2 := Lib.hid (show wayF n es L (L.getD top 0).toNat top = (pre ++ [(x : Int)]) ++ wayF n es L (L.getD y 0).toNat y by
              rw [HWay.out, List.append_assoc]
              congr 1
              have := wayF_pos (n := n) (es := es) (L := L) (x := (x : Int)) (by simpa using hv0) (by rw [hy1]; simpa using hy3)
              rw [hy1] at this
              simpa using this)
            rw [HNY.out]
            have HO9 := Lib.hid (own_below HO67.out HB78.out (Nat.le_refl _))
            have HB9 := HB8
            have hz9 := HB78.out.size
            have hpl : (pre ++ [(x : Int)]).length ≤ n := by simpa using hplen
            clear hje hy1 hy3 hv0
            go_wp2_with (at_builtin; refine wp_app elemInt rfl _ _ rfl w3.heap.size u2 _ _ rfl wr.heap.size [.int .i64 (y : Int)] rfl rfl HO9.out rfl rfl ?h2 ?h3 ?h4 ?_)
            case h2 => omega
            case h3 => omega
            case h4 => omega
            intro v10 w10 ho10 hg10 _
            have HB10 := Lib.hid (below_app HB9.out HO9.out hg10 (by omega) (Nat.le_refl _))
            have HO10 := Lib.hid (show w10.ownsRow w3.heap.size 3 1 v10 ((pre ++ [(x : Int)]) ++ [(y : Int)]).length (intCells ((pre ++ [(x : Int)]) ++ [(y : Int)])) by simpa [intCells] using ho10)
            clear ho10 hg10
            go_wp2_with fail
            go_roundg (L.getD y 0).toNat
            case measure => rw [Hk.out, HY3.out]; have := HVX.out; omega
            case rel => exact ⟨pre ++ [(x : Int)], y, rfl, by omega, rfl, HWay2.out, HB10.out, HO10.out⟩
      · have HF := Lib.hid (show pre ++ [(x : Int)] = wayF n es L (L.getD top 0).toNat top by
          rw [HWay.out]
          congr 1
          have := wayF_zero (n := n) (es := es) (L := L) (x := (x : Int)) (by rw [Int.toNat_natCast, ← HVX.out]; exact h0)
          simpa using this.symm)
        have HT := Lib.hid (show longF n es (levF n es) = (pre ++ [(x : Int)]).reverse by
          rw [HF.out, ← HL.out]
          unfold longF
          rw [HTop.out]
          simp)
        have hpl : (pre ++ [(x : Int)]).length ≤ 1000 := by simp; omega
        have hbr := reverse_any u2 (pre ++ [(x : Int)]) w3.heap.size wr HO6.out hpl
        go_wp2_with fail
        refine hbr.mono ?_
        rintro e w11 ⟨rfl, hb11, ho11⟩
        have HB11 := Lib.hid (HW3.out.trans ((HB6.out.trans hb11).mono (by omega)))
        have HO11 := Lib.hid ho11
        clear hb11 ho11 hbr
        go_wp2_with fail
        go_ret2
        refine ⟨_, by rw [HA.out]; rfl, HB11.out, fun _ => ?_, fun h => ?_⟩
        · simp only [Int.toNat_natCast]
          rw [HT.out, List.length_reverse]
          exact own_mono HO11.out (by omega)
        · rw [HA.out] at h
          cases h
end Go.Proofs.YtnjikhhegebkiaaDoor
