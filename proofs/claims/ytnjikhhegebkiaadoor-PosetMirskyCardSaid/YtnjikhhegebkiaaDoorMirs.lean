/-
  Law PosetMirsky: walked. Written by an AI agent.
-/
import Derived.Test.YtnjikhhegebkiaaDoorMirsLaw
import Derived.Test.YtnjikhhegebkiaaDoorLong
namespace Go.Proofs.YtnjikhhegebkiaaDoor
open Go.RowKit Go.Maps

set_option maxRecDepth 20000 in
set_option maxHeartbeats 4000000 in
theorem mirsky_any (n : Int) (A : Option Addr) (cap : Nat) (es : List (Int × Int)) (w : World) (hes : Cells w w.heap.size A (edgeCells es)) (hT : Tab w) (hp : 0 < w.heap.size) :
    Calls Tryd.prog 7 #[.agg #[.int .i64 n, .slice A es.length cap]] w (fun e w' => e = .returned (.bool true) ∧ Below w.heap.size w w') := by
  have S1 := Lib.hid (St0.start n cap hes hT hp)
  clear hes hT hp
  go_enter Tryd.func7, Tryd.ntmps7
  go_upto_region 1 with fail
  generalize w.alloc (.cells #[.int .i64 n, .slice A es.length cap] 24) = w1 at *
  go_wp2_with fail
  refine (speaks_any w1 S1.out.tab S1.out.pos).mono ?_
  rintro e w2 ⟨rfl, hb⟩
  have S2 := Lib.hid (S1.out.next hb)
  have g0 := S2.out.g0
  have g1 := S2.out.g1
  clear hb S1
  by_cases hl : (es.length : Int) > 128
  · go_wp2_with fail
    go_ret
    exact ⟨rfl, S2.out.below⟩
  · have hl2 : es.length ≤ 1000 := by omega
    have hl' : ¬ (128 : Int) < es.length := by omega
    go_wp2_with fail
    refine (asked_ref n A cap es w2 S2.out.es hl2).mono ?_
    rintro e w3 ⟨rfl, hb⟩
    have S3 := Lib.hid (S2.out.next hb)
    have g0 := S3.out.g0
    have g1 := S3.out.g1
    clear hb S2
    cases ha : askB n es with
    | false =>
      clear ha
      go_wp2_with fail
      go_ret
      exact ⟨rfl, S3.out.below⟩
    | true =>
      obtain ⟨k, rfl, hk0, hk1, hk2, hin, hord⟩ := ask_parts ha
      have HIN := Lib.hid hin
      have HLV := Lib.hid (levF_lev (show EdgesIn k es from hin) hord)
      have HOR := Lib.hid hord
      have HA := Lib.hid ha
      clear hin hord ha
      go_wp2_with fail
      refine (levels_any k A cap es w3 S3.out.es).mono ?_
      rintro e w4 ⟨v4, rfl, hb4, hy, _⟩
      have ho4 := hy HA.out
      simp only [Int.toNat_natCast] at ho4
      have S4 := Lib.hid (S3.out.next hb4)
      have g0 := S4.out.g0
      have g1 := S4.out.g1
      obtain ⟨A4, c4, rfl⟩ := own_slice ho4
      obtain ⟨L, hL⟩ : ∃ L, L = levF k es := ⟨_, rfl⟩
      have hLl : L.length = k := by rw [hL, levF_length]
      have HRK := Lib.hid (fun T (h : Grown1 false (fun _ => true) k es T) => ranked_of (show EdgesIn k es from HIN.out) HOR.out hk1 h)
      rw [← hL] at ho4 HLV HRK
      have HC4 := Lib.hid (show Cells w4 w4.heap.size A4 (intCells L) by rw [← hLl] at ho4; exact Cells.of_own ho4)
      have HLE := Lib.hid hL
      rw [show errOf (askB (k : Int) es) = 0 by rw [HA.out]; rfl]
      clear hy ho4 hb4 S3 hL
      go_wp2_with fail
      refine (longest_any k A cap es w4 S4.out.es).mono ?_
      rintro e w5 ⟨v5, rfl, hb5, hy, _⟩
      have ho5 := hy HA.out
      simp only [Int.toNat_natCast] at ho5
      rw [← HLE.out] at ho5
      have S5 := Lib.hid (S4.out.next hb5)
      have g0 := S5.out.g0
      have g1 := S5.out.g1
      obtain ⟨A5, c5, rfl⟩ := own_slice ho5
      have HC5 := Lib.hid ((HC4.out.below hb5).more hb5.size)
      obtain ⟨lw, hlw⟩ : ∃ lw, lw = (longF k es L).length := ⟨_, rfl⟩
      have HLW := Lib.hid hlw
      have HCT := Lib.hid (fun (D : DataW Unit) (h : Seen L L.length D) => lev_count (show EdgesIn k es from HIN.out) HLV.out hLl hk0 h)
      rw [← hlw] at HCT
      rw [← hlw]
      rw [show errOf (askB (k : Int) es) = 0 by rw [HA.out]; rfl]
      clear hy ho5 hb5 S4 HC4 hlw
      have hmm := @run_makeMap Tryd.prog
      have hkk : ((k : Int) != (k : Int)) = false := by simp
      go_upto_region 10 with fail
      have HM0 := Lib.hid (World.ownsMap_made (H := Unit) w5 Tryd.prog 3 (plainElem Tryd.prog 3))
      have HBM := Lib.hid ((Below.refl w5.heap.size w5).alloc (Nat.le_refl _) (.map #[] 0))
      have hzm := World.size_alloc w5 (.map #[] 0)
      generalize w5.alloc (.map #[] 0) = w6 at *
      clear g0 g1 hkk hmm
      go_wp2_with fail
      go_loopg [51] k (fun gk s51 wr => ∃ (i : Nat) (D : DataW Unit), s51 = .int .i64 i ∧ i ≤ k ∧ gk = k - i ∧ Below w5.heap.size w5 wr ∧ wr.ownsMap Tryd.prog 3 (plainElem Tryd.prog 3) w5.heap.size i D ∧ Seen L i D)
      case atStart => exact ⟨0, .map [], rfl, Nat.zero_le _, rfl, HBM.out, HM0.out, Seen.zero L⟩
      case round =>
        obtain ⟨i, D, rfl, hi, hk, hb, hown, hs⟩ := hrel
        have Hk := Lib.hid hk
        have HB := Lib.hid hb
        have HO := Lib.hid hown
        have HS := Lib.hid hs
        have hzr := hb.size
        clear hk hb hs
        by_cases hik : i < k
        · have hik' : (i : Int) < k := by omega
          have hiL : i < L.length := by omega
          obtain ⟨b, off, rfl, hbb, hcc⟩ := HC5.out.ints (by omega)
          have cx := (HB.out.cell (p := ⟨b, off + i, none⟩) (by simp; omega)).trans (hcc i hiL)
          have HP := Lib.hid (fun (v : Int) => HS.out.push hiL (k := L[i]) (v := v) rfl)
          have hLb : 0 ≤ L[i] ∧ L[i] < k := by
            have a1 : 0 ≤ L.getD i 0 := HLV.out.nn i
            have a2 := levF_lt (show EdgesIn k es from HIN.out) HOR.out hik
            rw [← HLE.out] at a2
            rw [List.getD_eq_getElem?_getD, List.getElem?_eq_getElem hiL] at a1 a2
            exact ⟨a1, a2⟩
          obtain ⟨x, hx⟩ : ∃ x, x = L[i] := ⟨_, rfl⟩
          rw [← hx] at cx HP hLb
          have hkey : keyOf Tryd.prog 3 (.int .i64 x) = some (.int .i64 x) := keyOf_int_mk Tryd.underlying3 (WalkArith.wf_i64 (by omega))
          clear hcc hx
          go_upto_region 13 with fail
          clear cx
          go_wp2_with (first
            | (at_lookup; refine wpList_lookup_own_int _ rfl _ _ 44 rfl 3 3 .i64 law3 Tryd.underlying44 Tryd.underlying3 (zero3 _) w5.heap.size i _ rfl hown _ _ rfl hkey ?_; intro c hat hwc)
            | (at_mapUpdate; refine wpList_mapUpdate_own _ rfl _ _ _ 44 rfl 3 3 law3 Tryd.underlying44 _ w5.heap.size i _ rfl hown (by unfold maxLen; omega) _ _ _ rfl rfl hkey _ [] (plainElem_int Tryd.underlying3 (wrap64_wf _)) ?_; intro w8 hown8 hgrow8))
          have hcv := HS.out.val hat
          have hle := cntT_le L i x
          have hw1 : wrap64 (c + 1) = cntT L i x + 1 := by rw [hcv]; unfold wrap64; omega
          have HS2 := Lib.hid (HP.out _ hw1)
          have HB2 := Lib.hid (HB.out.grown hgrow8 HB.out.size (fun j hj => by cases hj; exact Nat.le_refl _))
          have HO2 := Lib.hid hown8
          clear hat hwc hcv hle hw1 hgrow8 hown8 hown hkey
          go_roundg (k - (i + 1))
          case measure => rw [Hk.out]; omega
          case rel => exact ⟨i + 1, _, by go_num, by omega, rfl, HB2.out, HO2.out, HS2.out⟩
        · have hie : i = k := by omega
          have hik' : ¬ (i : Int) < k := by omega
          have HSL := Lib.hid (show Seen L L.length D by rw [hLl, ← hie]; exact HS.out)
          obtain ⟨hc1, hc2⟩ := HCT.out D HSL.out
          have HC1 := Lib.hid hc1
          have HC2 := Lib.hid hc2
          have HSC := Lib.hid (fun x => HSL.out.cnt x)
          have S7 := Lib.hid (S5.out.next HB.out)
          have HC7 := Lib.hid ((HC5.out.below HB.out).more HB.out.size)
          have hlwb : lw ≤ k := by
            have h1 := cover_le ((List.range k).map fun j : Nat => [(j : Int)]) ((List.range lw).map fun j : Nat => (j : Int)) (by
              unfold List.Nodup
              rw [List.pairwise_map]
              exact List.Pairwise.imp (fun h e => by omega) List.pairwise_lt_range) (fun z hz => by
              obtain ⟨j, hj, rfl⟩ := List.mem_map.1 hz
              obtain ⟨t, ht, hte⟩ := List.getElem_of_mem (HC1.out j (List.mem_range.1 hj))
              have a2 := levF_lt (show EdgesIn k es from HIN.out) HOR.out (show t < k by omega)
              rw [← HLE.out, List.getD_eq_getElem?_getD, List.getElem?_eq_getElem ht] at a2
              have a2 : L[t] < k := a2
              exact ⟨[(j : Int)], List.mem_map.2 ⟨j, List.mem_range.2 (by omega), rfl⟩, by simp⟩) (fun l' hl' z _ z' _ h h' => by
              obtain ⟨j, _, rfl⟩ := List.mem_map.1 hl'
              have e1 : z = j := by simpa using h
              have e2 : z' = j := by simpa using h'
              rw [e1, e2])
            simpa using h1
          clear hc1 hc2 hie
          obtain ⟨w7, rfl⟩ : ∃ y, y = wr := ⟨_, rfl⟩
          go_wp2_with fail
          go_loopg [62] lw (fun gk s62 wr => ∃ j : Nat, s62 = .int .i64 j ∧ j ≤ lw ∧ gk = lw - j ∧ w7 = wr)
          case atStart => exact ⟨0, rfl, Nat.zero_le _, rfl, rfl⟩
          case round =>
            obtain ⟨j, rfl, hj, hk2, rfl⟩ := hrel
            have Hk2 := Lib.hid hk2
            clear hk2
            by_cases hjl : j < lw
            · have hjl' : (j : Int) < lw := by omega
              have hkey : keyOf Tryd.prog 3 (.int .i64 (j : Int)) = some (.int .i64 (j : Int)) := keyOf_int_mk Tryd.underlying3 (WalkArith.wf_i64 (by omega))
              go_upto_region 18 with fail
              go_wp2_with (first
                | (at_lookup; refine wpList_lookup_own_int _ rfl _ _ 44 rfl 3 3 .i64 law3 Tryd.underlying44 Tryd.underlying3 (zero3 _) w5.heap.size i _ rfl hown _ _ rfl hkey ?_; intro c hat hwc
                   have hcv := HSL.out.val hat
                   have hc0 : (c == 0) = false := by
                     rw [beq_eq_false_iff_ne, hcv]
                     have := HC1.out j hjl
                     unfold cntT
                     rw [List.take_length]
                     have : 0 < List.countP (fun a => decide (a = (j : Int))) L := List.countP_pos_iff.2 ⟨_, this, by simp⟩
                     omega
                   clear hat hwc hcv))
              go_roundg (lw - (j + 1))
              case measure => rw [Hk2.out]; omega
              case rel => exact ⟨j + 1, by go_num, by omega, rfl, rfl⟩
            · have hjl' : ¬ (j : Int) < lw := by omega
              have g0 := S7.out.g0
              have g1 := S7.out.g1
              clear hjl hj Hk2
              go_wp2_with fail
              refine (from_any k A cap es w7 S7.out.es).mono ?_
              rintro e w8 ⟨v8, rfl, hb8, hy, _⟩
              have hmay : mayB (k : Int) es = true := by have := HA.out; unfold askB at this; exact (Bool.and_eq_true _ _ ▸ this).1
              obtain ⟨T, hT, hoT⟩ := hy hmay
              simp only [Int.toNat_natCast] at hT
              have hTl : T.length = k := (grown_iff HIN.out hT).1
              have HLT := Lib.hid (show ∀ x y, x < k → y < k → x ≠ y → setHas (T.getD x 0) (y : Int) = true → L.getD x 0 < L.getD y 0 from fun x y hx hy hne h => by
                rw [setHas_nat _ y (by omega)] at h
                have h1 := (HRK.out T hT).1 x y hx (by unfold Up; rw [abF_at hx, offB_has (hT.1.at_ x) (by omega)]; exact ⟨fun e => hne e.symm, h⟩)
                have a1 : 0 ≤ L.getD x 0 := HLV.out.nn x
                have a2 : 0 ≤ L.getD y 0 := HLV.out.nn y
                simp only at h1
                omega)
              have HT64 := Lib.hid (show ∀ x, T.getD x 0 < 18446744073709551616 from fun x => hT.1.at_ x)
              rw [hTl] at hoT
              obtain ⟨gT, capT, RT, rfl, hgT, hkT, _⟩ := own_blk hoT (by omega)
              have HTC := Lib.hid (show ∀ x, x < k → w8.cell? ⟨gT, x, none⟩ = some (.int .u64 (T.getD x 0 : Nat)) from fun x hx => by
                rw [hkT.cell x, Array.getElem?_append_left (by simpa [setCells, hTl] using hx)]
                simp [setCells, hTl, hx])
              have S8 := Lib.hid (S7.out.next hb8)
              have HC8 := Lib.hid ((HC7.out.below hb8).more hb8.size)
              have HO8 := Lib.hid (own_map_below hown hb8 hown.lt)
              have g0 := S8.out.g0
              have hkk : ((k : Int) != (k : Int)) = false := by simp
              clear hb8 hy hmay hT hoT hkT hgT hown
              go_wp2_with fail
              clear hkk g0 g1
              go_loopg [79] k (fun gk s79 wr => ∃ (x m : Nat), s79 = .int .i64 x ∧ x ≤ k ∧ gk = k - x ∧ wr = w8.drewN m)
              case atStart => exact ⟨0, 0, rfl, Nat.zero_le _, rfl, rfl⟩
              case round =>
                obtain ⟨x, m, rfl, hx, hk2, rfl⟩ := hrel
                have Hkx := Lib.hid hk2
                clear hk2
                by_cases hxk : x < k
                · have hxk' : (x : Int) < k := by omega
                  go_wp2_with fail
                  go_loopg [84] k (fun gk s84 wr => ∃ (y m : Nat), s84 = .int .i64 y ∧ y ≤ k ∧ gk = k - y ∧ wr = w8.drewN m)
                  case atStart => exact ⟨0, m, rfl, Nat.zero_le _, rfl, rfl⟩
                  case round =>
                    obtain ⟨y, m, rfl, hy, hk2, hwr⟩ := hrel
                    have Hky := Lib.hid hk2
                    have Hwr := Lib.hid hwr
                    clear hk2
                    by_cases hyk : y < k
                    · have hyk' : (y : Int) < k := by omega
                      have cT : wr.cell? ⟨gT, x, none⟩ = some (.int .u64 (T.getD x 0 : Nat)) := by rw [hwr]; exact HTC.out x hxk
                      obtain ⟨b, off, rfl, hbb, hcc⟩ := HC8.out.ints (by omega)
                      have cx : wr.cell? ⟨b, off + x, none⟩ = some (.int .i64 (L.getD x 0)) := by
                        rw [hwr, List.getD_eq_getElem?_getD, List.getElem?_eq_getElem (by omega)]; exact hcc x (by omega)
                      have cy : wr.cell? ⟨b, off + y, none⟩ = some (.int .i64 (L.getD y 0)) := by
                        rw [hwr, List.getD_eq_getElem?_getD, List.getElem?_eq_getElem (by omega)]; exact hcc y (by omega)
                      have HX := Lib.hid (HLT.out x y hxk hyk)
                      have hz : T.getD x 0 < 18446744073709551616 := HT64.out x
                      generalize T.getD x 0 = z at *
                      generalize L.getD x 0 = lx at *
                      generalize L.getD y 0 = ly at *
                      clear hcc hwr
                      by_cases hxy : x = y
                      · have hne : ((x : Int) != (y : Int)) = false := by simp [hxy]
                        clear hxy
                        go_wp2_with fail
                        go_quiet (fail)
                        go_wp2_with fail
                        go_roundg (k - (y + 1))
                        case measure => rw [Hky.out]; omega
                        case rel => exact ⟨y + 1, m + nq, by go_num, by omega, rfl, by rw [Hwr.out]; simp⟩
                      · have hne : ((x : Int) != (y : Int)) = true := by rw [bne_iff_ne]; omega
                        cases hh : setHas z (y : Int) with
                        | false =>
                          have HE := Lib.hid hh
                          clear hxy hh
                          go_wp2_with fail
                          go_quiet ((go_at_call 22; exact quiet_left (has_is _ HE.out hz)))
                          go_wp2_with fail
                          go_roundg (k - (y + 1))
                          case measure => rw [Hky.out]; omega
                          case rel => exact ⟨y + 1, m + nq, by go_num, by omega, rfl, by rw [Hwr.out]; simp⟩
                        | true =>
                          have HE := Lib.hid hh
                          have hlt : ¬ ly ≤ lx := by have := HX.out hxy hh; omega
                          clear hxy hh
                          go_wp2_with fail
                          go_quiet ((go_at_call 22; exact quiet_left (has_is _ HE.out hz)))
                          go_wp2_with fail
                          go_roundg (k - (y + 1))
                          case measure => rw [Hky.out]; omega
                          case rel => exact ⟨y + 1, m + nq, by go_num, by omega, rfl, by rw [Hwr.out]; simp⟩
                    · have hyk' : ¬ (y : Int) < k := by omega
                      go_wp2_with fail
                      go_roundg (k - (x + 1))
                      case measure => rw [Hkx.out]; omega
                      case rel => exact ⟨x + 1, m, by go_num, by omega, rfl, rfl⟩
                · have hxk' : ¬ (x : Int) < k := by omega
                  have hlw : ((lw : Int) == (lw : Int)) = true := by simp
                  have hsz : ((Maps.size D : Nat) : Int) = lw := by rw [HC2.out]
                  go_wp2_with (at_len; refine wpList_len_own _ rfl _ 44 rfl 3 3 Tryd.underlying44 _ w5.heap.size i D rfl HO8.out ?_; rw [hsz])
                  go_ret
                  exact ⟨rfl, below_drewN S8.out.below m⟩
end Go.Proofs.YtnjikhhegebkiaaDoor
