/-
  arborref17.Longest: what it computes. Written by an AI agent.
-/
import Derived.Test.YtnjikhhegebkiaaDoorRefLev
import Derived.Test.YtnjikhhegebkiaaDoorLong
import Derived.Test.YtnjikhhegebkiaaDoorApp
namespace Go.Proofs.YtnjikhhegebkiaaDoor
open Go.RowKit

theorem nextL_ends {es : List (Int × Int)} {L : List Int} {x nx : Int} {j : Nat} : nextL es L x nx (endsF es Prod.snd x (j + 1)) = if (es.getD j (0, 0)).2 = x then (if L.getD ((es.getD j (0, 0)).1).toNat 0 = L.getD x.toNat 0 - 1 then min (nextL es L x nx (endsF es Prod.snd x j)) (es.getD j (0, 0)).1 else nextL es L x nx (endsF es Prod.snd x j)) else nextL es L x nx (endsF es Prod.snd x j) := by
  rw [endsF]
  by_cases h : (es.getD j (0, 0)).2 = x
  · rw [if_pos h, if_pos h]
    unfold nextL
    rw [List.foldl_append]
    have e : tl es (j : Int) = (es.getD j (0, 0)).1 := by unfold tl; simp
    simp only [List.foldl_cons, List.foldl_nil, e]
  · rw [if_neg h, if_neg h, List.append_nil]
theorem top_uniq {L : List Int} {t : Nat} (ht : t < L.length) (h1 : ∀ i (hi : i < L.length), L[i] ≤ L[t]) (h2 : ∀ i (hi : i < t), L[i] < L[t]) : topF L = t := by
  obtain ⟨k, e, hk, h3, h4⟩ := topF_spec (L := L) (by omega)
  rw [e]
  rcases Nat.lt_trichotomy t k with h | h | h
  · have := h4 t h; have := h1 k hk; omega
  · rw [h]
  · have := h2 k h; have := h3 t ht; omega
set_option maxRecDepth 20000 in
set_option maxHeartbeats 4000000 in
theorem longest_ref (n : Nat) (A : Option Addr) (cap : Nat) (es : List (Int × Int)) (w : World) (hes : Cells w w.heap.size A (edgeCells es)) (hE : EdgesIn n es) (hord : (orderF es n).length = n) (hp : 0 < n) (hn : n ≤ 64) (hl : es.length ≤ 1000) :
    Calls Tryd.prog 20 #[.agg #[.int .i64 n, .slice A es.length cap]] w (fun e w' => ∃ v, e = .returned v ∧ Below w.heap.size w w' ∧ w'.ownsRow w.heap.size 3 1 v (longF n es (levF n es)).length (intCells (longF n es (levF n es)))) := by
  have b0 := Blk.new w 24 #[.int .i64 n, .slice A es.length cap]
  have hbw := (Below.refl w.heap.size w).alloc (Nat.le_refl _) (.cells #[.int .i64 n, .slice A es.length cap] 24)
  have s1 := World.size_alloc w (.cells #[.int .i64 n, .slice A es.length cap] 24)
  have hesa := (hes.below hbw).more hbw.size
  go_enter Tryd.func20, Tryd.ntmps20
  go_upto_region 1 with fail
  generalize w.alloc (.cells #[.int .i64 n, .slice A es.length cap] 24) = w1 at *
  have HW1 := Lib.hid hbw
  have HES := Lib.hid hesa
  have HB0 := Lib.hid b0
  have g0 : w1.cell? ⟨w.heap.size, 0, none⟩ = some (.int .i64 n) := b0.cell 0
  have g1 : w1.cell? ⟨w.heap.size, 1, none⟩ = some (.slice A es.length cap) := b0.cell 1
  have l1 : w.heap.size < w1.heap.size := by omega
  have HE := Lib.hid hE
  have HORD := Lib.hid hord
  have hlr := levels_ref n A cap es w1 HES.out hE hn hl
  rw [levR_eq hE hord] at hlr
  have HLv := Lib.hid (levF_lev hE hord)
  have HLt := Lib.hid (fun v (hv : v < n) => levF_lt (es := es) hE hord hv)
  have hll := levF_length n es
  obtain ⟨L, hL⟩ : ∃ L, L = levF n es := ⟨_, rfl⟩
  rw [← hL] at HLv HLt hll hlr
  have HL := Lib.hid hL
  clear hbw b0 hesa hes hE hord hL s1
  go_wp2_with fail
  refine hlr.mono ?_
  rintro e w2 ⟨v, rfl, hb2, ho⟩
  obtain ⟨A2, c2, rfl⟩ := own_slice ho
  have HO := Lib.hid (Cells.of_own ho)
  have hz2 := hb2.size
  have HB02 := Lib.hid (HB0.out.below hb2 l1)
  have HES2 := Lib.hid ((HES.out.below hb2).more hz2)
  have HW2 := Lib.hid (HW1.out.trans (hb2.mono (Nat.le_of_lt l1)))
  clear hb2 ho g0 g1 hlr
  go_wp2_with fail
  go_loopg [4, 5] n (fun k s4 s5 wr => ∃ (t j : Nat), s4 = .int .i64 t ∧ s5 = .int .i64 j ∧ t < n ∧ j ≤ n ∧ k = n - j ∧ (∀ i, i < j → L.getD i 0 ≤ L.getD t 0) ∧ (∀ i, i < t → L.getD i 0 < L.getD t 0) ∧ Below w2.heap.size w2 wr)
  case atStart => exact ⟨0, 0, rfl, rfl, hp, Nat.zero_le _, rfl, fun i h => absurd h (Nat.not_lt_zero _), fun i h => absurd h (Nat.not_lt_zero _), Below.refl _ _⟩
  case round =>
    obtain ⟨t, j, rfl, rfl, htn, hj, hk, h1, h2, hb⟩ := hrel
    have Hk := Lib.hid hk
    have H1 := Lib.hid h1
    have H2 := Lib.hid h2
    have HB3 := Lib.hid hb
    have hz3 := hb.size
    obtain ⟨bl, ol, hA2, hbl, hcl⟩ := HO.out.ints (by omega)
    have HCL := Lib.hid hcl
    have ct := (hb.cell (p := ⟨bl, ol + t, none⟩) hbl).trans (hcl t (by omega))
    have hxt : L[t]'(by omega) = L.getD t 0 := by rw [List.getD_eq_getElem?_getD, List.getElem?_eq_getElem (by omega)]; rfl
    rw [hxt] at ct
    obtain ⟨vt, hvt⟩ : ∃ vt, vt = L.getD t 0 := ⟨_, rfl⟩
    rw [← hvt] at ct
    have HVT := Lib.hid hvt
    have htn' : (t : Int) < n := by omega
    subst hA2
    clear hk h1 h2 hb hcl hxt hvt
    by_cases hjn : j < n
    · have hjn' : (j : Int) < n := by omega
      have cj := (HB3.out.cell (p := ⟨bl, ol + j, none⟩) hbl).trans (HCL.out j (by omega))
      have hxj : L[j]'(by omega) = L.getD j 0 := by rw [List.getD_eq_getElem?_getD, List.getElem?_eq_getElem (by omega)]; rfl
      rw [hxj] at cj
      obtain ⟨vj, hvj⟩ : ∃ vj, vj = L.getD j 0 := ⟨_, rfl⟩
      rw [← hvj] at cj
      have HVJ := Lib.hid hvj
      clear hxj hvj
      go_upto_region 6 with fail
      go_quiet (fail)
      by_cases hc : vt < vj
      · go_wp2_with fail
        have hb9 : Below w2.heap.size w2 (wr.drewN nq) := ⟨HB3.out.os, HB3.out.tape, HB3.out.output, HB3.out.size, HB3.out.block⟩
        go_roundg (n - (j + 1))
        case measure => rw [Hk.out]; omega
        case rel =>
          refine ⟨j, j + 1, rfl, by go_num, hjn, by omega, rfl, fun i hi => ?_, fun i hi => ?_, hb9⟩
          · rcases Nat.lt_or_ge i j with h | h
            · have := H1.out i h; have := HVT.out; have := HVJ.out; omega
            · have : i = j := by omega
              rw [this]; exact Int.le_refl _
          · have := H1.out i hi; have := HVT.out; have := HVJ.out; omega
      · go_wp2_with fail
        have hb9 : Below w2.heap.size w2 (wr.drewN nq) := ⟨HB3.out.os, HB3.out.tape, HB3.out.output, HB3.out.size, HB3.out.block⟩
        go_roundg (n - (j + 1))
        case measure => rw [Hk.out]; omega
        case rel =>
          refine ⟨t, j + 1, rfl, by go_num, htn, by omega, rfl, fun i hi => ?_, H2.out, hb9⟩
          rcases Nat.lt_or_ge i j with h | h
          · exact H1.out i h
          · have : i = j := by omega
            rw [this]; have := HVT.out; have := HVJ.out; omega
    · have hje : j = n := by omega
      have hjn' : ¬ (j : Int) < n := by omega
      have HTop := Lib.hid (show topF L = (t : Int) by
        refine top_uniq (by omega) (fun i hi => ?_) (fun i hi => ?_)
        · have := H1.out i (by omega)
          rw [List.getD_eq_getElem?_getD, List.getD_eq_getElem?_getD, List.getElem?_eq_getElem hi, List.getElem?_eq_getElem (by omega)] at this
          exact this
        · have := H2.out i hi
          rw [List.getD_eq_getElem?_getD, List.getD_eq_getElem?_getD, List.getElem?_eq_getElem (by omega), List.getElem?_eq_getElem (by omega)] at this
          exact this)
      clear hje
      have HW3 := Lib.hid (HW2.out.trans (HB3.out.mono (by omega)))
      have HB03 := Lib.hid (HB02.out.below HB3.out (by omega))
      have HO3 := Lib.hid ((HO.out.below HB3.out).more HB3.out.size)
      have HES3 := Lib.hid ((HES2.out.below HB3.out).more HB3.out.size)
      have hblr : bl < wr.heap.size := by omega
      have HCLr := Lib.hid (fun (i : Nat) (h : i < L.length) => (HB3.out.cell (p := ⟨bl, ol + i, none⟩) hbl).trans (HCL.out i h))
      obtain ⟨w3, rfl⟩ : ∃ y, y = wr := ⟨_, rfl⟩
      have HO5 := Lib.hid (own_of_blk (xs := intCells [(t : Int)]) (Blk.new w3 3 #[.int .i64 t]) (Nat.le_refl _) (show _ = 1 from rfl) (by omega))
      have HB5 := Lib.hid ((Below.refl w3.heap.size w3).alloc (Nat.le_refl _) (.cells #[.int .i64 t] 3))
      have hz5 := World.size_alloc w3 (.cells #[.int .i64 t] 3)
      clear ct
      go_upto_region 9 with fail
      generalize w3.alloc (.cells #[.int .i64 t] 3) = w5 at *
      have hlen : L.getD t 0 < n := HLt.out t htn
      have hnn : 0 ≤ L.getD t 0 := HLv.out.nn t
      go_loopg [4, 6] (L.getD t 0).toNat (fun k s4 s6 wr => ∃ (pre : List Int) (x : Nat), s4 = .int .i64 x ∧ x < n ∧ k = (L.getD x 0).toNat ∧ wayF n es L (L.getD t 0).toNat t = pre ++ wayF n es L (L.getD x 0).toNat x ∧ Below w3.heap.size w3 wr ∧ wr.ownsRow w3.heap.size 3 1 s6 (pre.length + 1) (intCells (pre ++ [(x : Int)]).reverse))
      case atStart => exact ⟨[], t, rfl, htn, rfl, rfl, HB5.out, HO5.out⟩
      case round =>
        obtain ⟨pre, x, rfl, hxn, hk, hway, hb, hown⟩ := hrel
        have Hk := Lib.hid hk
        have HWay := Lib.hid hway
        have HB6 := Lib.hid hb
        obtain ⟨A6, c6, rfl⟩ := own_slice hown
        have HO6 := Lib.hid hown
        have hz6 := hb.size
        have hplen : pre.length + 1 ≤ n := by
          have := congrArg List.length hway
          rw [List.length_append, wayF_length, wayF_length] at this
          omega
        have hxn' : (x : Int) < n := by omega
        have cx := (hb.cell (p := ⟨bl, ol + x, none⟩) hblr).trans (HCLr.out x (by omega))
        have hxv : L[x]'(by omega) = L.getD x 0 := by rw [List.getD_eq_getElem?_getD, List.getElem?_eq_getElem (by omega)]; rfl
        rw [hxv] at cx
        have hvn : 0 ≤ L.getD x 0 := HLv.out.nn x
        have hvl := HLt.out x hxn
        have g0 : wr.cell? ⟨w.heap.size, 0, none⟩ = some (.int .i64 n) := (hb.cell (p := ⟨w.heap.size, 0, none⟩) (show w.heap.size < w3.heap.size by omega)).trans (HB03.out.cell 0)
        clear hk hway hb hown hxv
        obtain ⟨vx, hvx⟩ : ∃ vx, vx = L.getD x 0 := ⟨_, rfl⟩
        rw [← hvx] at cx hvn hvl
        have HVX := Lib.hid hvx
        clear hvx
        by_cases h0 : (0 : Int) < vx
        · obtain ⟨w6, rfl⟩ : ∃ y, y = wr := ⟨_, rfl⟩
          go_wp2_with fail
          clear cx g0
          go_loopg [7, 8] es.length (fun k s7 s8 wr => ∃ j : Nat, s8 = .int .i64 j ∧ s7 = .int .i64 (nextL es L x n (endsF es Prod.snd x j)) ∧ j ≤ es.length ∧ k = es.length - j ∧ Below w6.heap.size w6 wr)
          case atStart => exact ⟨0, rfl, rfl, Nat.zero_le _, rfl, Below.refl _ _⟩
          case round =>
            obtain ⟨j, rfl, rfl, hj, hk2, hb8⟩ := hrel
            have Hk2 := Lib.hid hk2
            have HB8 := Lib.hid (HB6.out.trans (hb8.mono (by omega)))
            have HB78 := Lib.hid hb8
            have hz8 := hb8.size
            have g1 : wr.cell? ⟨w.heap.size, 1, none⟩ = some (.slice A es.length cap) := (HB8.out.cell (p := ⟨w.heap.size, 1, none⟩) (show w.heap.size < w3.heap.size by omega)).trans (HB03.out.cell 1)
            clear hk2 hb8
            by_cases hjl : j < es.length
            · have hjl' : (j : Int) < es.length := by omega
              obtain ⟨b, off, hAv, hbb, hcc⟩ := HES3.out.edges (by omega)
              obtain ⟨c0, c1⟩ := hcc j hjl
              obtain ⟨q0, q1, q2, q3⟩ := HE.out es[j] (List.getElem_mem hjl)
              obtain ⟨p, hp'⟩ : ∃ p : Nat, es[j].1 = (p : Int) := ⟨es[j].1.toNat, by omega⟩
              obtain ⟨h, hh⟩ : ∃ h : Nat, es[j].2 = (h : Int) := ⟨es[j].2.toNat, by omega⟩
              have HNE := Lib.hid (nextL_ends (es := es) (L := L) (x := (x : Int)) (nx := (n : Int)) (j := j))
              have HGD := Lib.hid (show es.getD j (0, 0) = ((p : Int), (h : Int)) by
                rw [List.getD_eq_getElem?_getD, List.getElem?_eq_getElem hjl, ← hp', ← hh]; rfl)
              rw [hp'] at c0
              rw [hh] at c1
              have c0' := (HB8.out.cell (p := ⟨b, off + j * 2, none⟩) hbb).trans c0
              have c1' := (HB8.out.cell (p := ⟨b, off + j * 2 + 1, none⟩) hbb).trans c1
              have hpn : p < n := by omega
              have hpn' : (p : Int) < n := by omega
              have cp := (HB8.out.cell (p := ⟨bl, ol + p, none⟩) hblr).trans (HCLr.out p (by omega))
              have cx := (HB8.out.cell (p := ⟨bl, ol + x, none⟩) hblr).trans (HCLr.out x (by omega))
              have hxp : L[p]'(by omega) = L.getD p 0 := by rw [List.getD_eq_getElem?_getD, List.getElem?_eq_getElem (by omega)]; rfl
              have hxv : L[x]'(by omega) = vx := by rw [HVX.out, List.getD_eq_getElem?_getD, List.getElem?_eq_getElem (by omega)]; rfl
              rw [hxp] at cp
              rw [hxv] at cx
              have hwv : IntKind.i64.wrap (vx - 1) = vx - 1 := by rw [IntKind.wrap_i64]; omega
              obtain ⟨nx, hnx⟩ : ∃ nx, nx = nextL es L x n (endsF es Prod.snd x j) := ⟨_, rfl⟩
              rw [← hnx]
              have HNX := Lib.hid hnx
              obtain ⟨vp, hvp⟩ : ∃ vp, vp = L.getD p 0 := ⟨_, rfl⟩
              rw [← hvp] at cp
              have HVP := Lib.hid hvp
              subst hAv
              have HGE0 := Lib.hid (Blk.new wr 40 #[.int .i64 p, .int .i64 h])
              have HW4 := Lib.hid (HB78.out.alloc HB78.out.size (.cells #[.int .i64 p, .int .i64 h] 40))
              have cx9 := (World.cell?_alloc_lt wr (.cells #[.int .i64 p, .int .i64 h] 40) (⟨bl, ol + x, none⟩ : Addr) (show bl < wr.heap.size by omega)).trans cx
              have cp9 := (World.cell?_alloc_lt wr (.cells #[.int .i64 p, .int .i64 h] 40) (⟨bl, ol + p, none⟩ : Addr) (show bl < wr.heap.size by omega)).trans cp
              clear hcc c0 c1 q0 q1 q2 q3 hp' hh hxp hxv hnx hvp cx cp
              go_upto_region 15 with fail
              generalize wr.alloc (.cells #[.int .i64 p, .int .i64 h] 40) = w9 at *
              generalize hge : wr.heap.size = ge at *
              have e0 : w9.cell? ⟨ge, 0, none⟩ = some (.int .i64 p) := HGE0.out.cell 0
              have e1 : w9.cell? ⟨ge, 1, none⟩ = some (.int .i64 h) := HGE0.out.cell 1
              by_cases hhx : h = x
              · have hq1 : ((h : Int) == (x : Int)) = true := by rw [beq_iff_eq]; omega
                have HHX := Lib.hid hhx
                clear hhx
                by_cases hc : vp = vx - 1
                · have hq2 : (vp == vx - 1) = true := by rw [beq_iff_eq]; exact hc
                  have HC := Lib.hid hc
                  clear hc
                  by_cases hlt : (p : Int) < nx
                  · have HLT := Lib.hid hlt
                    go_quiet (fail)
                    have HR := Lib.hid (show nextL es L x n (endsF es Prod.snd x (j + 1)) = (p : Int) by
                      rw [HNE.out, HGD.out]
                      rw [if_pos (by simp only; rw [HHX.out]), if_pos (by simp only [Int.toNat_natCast]; rw [← HVP.out, ← HVX.out]; exact HC.out), ← HNX.out]
                      have := HLT.out
                      simp only
                      omega)
                    go_wp2_with fail
                    have hb9 : Below w6.heap.size w6 (w9.drewN nq) := ⟨HW4.out.os, HW4.out.tape, HW4.out.output, HW4.out.size, HW4.out.block⟩
                    go_roundg (es.length - (j + 1))
                    case measure => rw [Hk2.out]; omega
                    case rel => exact ⟨j + 1, by go_num, by rw [HR.out], by omega, rfl, hb9⟩
                  · have HLT := Lib.hid hlt
                    go_quiet (fail)
                    have HR := Lib.hid (show nextL es L x n (endsF es Prod.snd x (j + 1)) = nx by
                      rw [HNE.out, HGD.out]
                      rw [if_pos (by simp only; rw [HHX.out]), if_pos (by simp only [Int.toNat_natCast]; rw [← HVP.out, ← HVX.out]; exact HC.out), ← HNX.out]
                      have := HLT.out
                      simp only
                      omega)
                    go_wp2_with fail
                    have hb9 : Below w6.heap.size w6 (w9.drewN nq) := ⟨HW4.out.os, HW4.out.tape, HW4.out.output, HW4.out.size, HW4.out.block⟩
                    go_roundg (es.length - (j + 1))
                    case measure => rw [Hk2.out]; omega
                    case rel => exact ⟨j + 1, by go_num, by rw [HR.out], by omega, rfl, hb9⟩
                · have hq2 : (vp == vx - 1) = false := by rw [beq_eq_false_iff_ne]; exact hc
                  have HC := Lib.hid hc
                  clear hc
                  go_quiet (fail)
                  have HR := Lib.hid (show nextL es L x n (endsF es Prod.snd x (j + 1)) = nx by
                    rw [HNE.out, HGD.out]
                    rw [if_pos (by simp only; rw [HHX.out]), if_neg (by simp only [Int.toNat_natCast]; rw [← HVP.out, ← HVX.out]; exact HC.out), ← HNX.out])
                  go_wp2_with fail
                  have hb9 : Below w6.heap.size w6 (w9.drewN nq) := ⟨HW4.out.os, HW4.out.tape, HW4.out.output, HW4.out.size, HW4.out.block⟩
                  go_roundg (es.length - (j + 1))
                  case measure => rw [Hk2.out]; omega
                  case rel => exact ⟨j + 1, by go_num, by rw [HR.out], by omega, rfl, hb9⟩
              · have hq1 : ((h : Int) == (x : Int)) = false := by rw [beq_eq_false_iff_ne]; omega
                have HHX := Lib.hid hhx
                clear hhx
                go_quiet (fail)
                have HR := Lib.hid (show nextL es L x n (endsF es Prod.snd x (j + 1)) = nx by
                  rw [HNE.out, HGD.out]
                  rw [if_neg (fun e => HHX.out (by simp only at e; omega)), ← HNX.out])
                go_wp2_with fail
                have hb9 : Below w6.heap.size w6 (w9.drewN nq) := ⟨HW4.out.os, HW4.out.tape, HW4.out.output, HW4.out.size, HW4.out.block⟩
                go_roundg (es.length - (j + 1))
                case measure => rw [Hk2.out]; omega
                case rel => exact ⟨j + 1, by go_num, by rw [HR.out], by omega, rfl, hb9⟩
            · have hje : j = es.length := by omega
              have hjl' : ¬ (j : Int) < es.length := by omega
              have hv0 : 0 < L.getD x 0 := by rw [← HVX.out]; exact h0
              obtain ⟨y, hy1, hy2, hy3, _⟩ := nextT_spec HE.out HLv.out hxn hv0
              have HNY := Lib.hid (show nextL es L x n (endsF es Prod.snd x j) = (y : Int) by
                rw [hje, ← hy1]; rfl)
              have HY3 := Lib.hid hy3
              have HWay2 := Lib.hid (show wayF n es L (L.getD t 0).toNat t = (pre ++ [(x : Int)]) ++ wayF n es L (L.getD y 0).toNat y by
                rw [HWay.out, List.append_assoc]
                congr 1
                have := wayF_pos (n := n) (es := es) (L := L) (x := (x : Int)) (by simpa using hv0) (by rw [hy1]; simpa using hy3)
                rw [hy1] at this
                simpa using this)
              rw [HNY.out]
              have hpl : (pre ++ [(x : Int)]).length ≤ n := by simpa using hplen
              have HO9 := Lib.hid (own_of_blk (base := w3.heap.size) (xs := intCells [(y : Int)]) (Blk.new wr 3 #[.int .i64 y]) (by omega) (show _ = 1 from rfl) (by omega))
              have HC9 := Lib.hid (((Cells.of_own HO6.out).below HB78.out).alloc HB78.out.size (.cells #[.int .i64 y] 3))
              have hz9 := World.size_alloc wr (.cells #[.int .i64 y] 3)
              have HBA := Lib.hid (HB8.out.alloc (by omega) (.cells #[.int .i64 y] 3))
              clear hje hy1 hy3 hv0
              go_wp2_with (at_builtin; refine wp_app_any elemInt rfl _ _ rfl rfl HO9.out rfl HC9.out (show (intCells (pre ++ [(x : Int)]).reverse).length = (pre.length + 1) * 1 by simp [intCells]) (intCells_one _) ?x2 ?x3 ?x4 ?_)
              case x2 => omega
              case x3 => omega
              case x4 => omega
              intro v10 w10 ho10 hg10 _
              have HB10 := Lib.hid (below_app HBA.out HO9.out hg10 (by omega) (Nat.le_refl _))
              have HO10 := Lib.hid (show w10.ownsRow w3.heap.size 3 1 v10 ((pre ++ [(x : Int)]).length + 1) (intCells ((pre ++ [(x : Int)]) ++ [(y : Int)]).reverse) by simpa [intCells, Nat.add_comm] using ho10)
              clear ho10 hg10
              go_wp2_with fail
              go_roundg (L.getD y 0).toNat
              case measure => rw [Hk.out, HY3.out]; have := HVX.out; omega
              case rel => exact ⟨pre ++ [(x : Int)], y, rfl, by omega, rfl, HWay2.out, HB10.out, HO10.out⟩
        · have HF := Lib.hid (show pre ++ [(x : Int)] = wayF n es L (L.getD t 0).toNat t by
            rw [HWay.out]
            congr 1
            have := wayF_zero (n := n) (es := es) (L := L) (x := (x : Int)) (by rw [Int.toNat_natCast, ← HVX.out]; exact h0)
            simpa using this.symm)
          have HT := Lib.hid (show longF n es (levF n es) = (pre ++ [(x : Int)]).reverse by
            rw [HF.out, ← HL.out]
            unfold longF
            rw [HTop.out]
            simp)
          have HB11 := Lib.hid (HW3.out.trans (HB6.out.mono (by omega)))
          have HO11 := Lib.hid (show wr.ownsRow w.heap.size 3 1 (.slice A6 (pre.length + 1) c6) (longF n es (levF n es)).length (intCells (longF n es (levF n es))) by
            rw [HT.out, List.length_reverse, List.length_append]
            exact own_mono HO6.out (by omega))
          go_wp2_with fail
          go_ret
          exact ⟨_, rfl, HB11.out, HO11.out⟩
end Go.Proofs.YtnjikhhegebkiaaDoor
