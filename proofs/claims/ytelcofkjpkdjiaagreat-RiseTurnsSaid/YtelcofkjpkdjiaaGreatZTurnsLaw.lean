import Derived.Test.YtelcofkjpkdjiaaGreatZRSp
import Derived.Test.YtelcofkjpkdjiaaGreatZRRf10
/-
  The law RiseTurns, walked. Written by an AI agent.
-/
namespace Go.Proofs.YtelcofkjpkdjiaaGreat
open Go.RowKit

set_option maxRecDepth 20000 in
set_option maxHeartbeats 8000000 in
theorem turnsLaw_any (n : Int) (A O U : Option Addr) (cap co cu : Nat) (es : List (Int × Int)) (ord : List Int) (outs : List (List Int)) (w : World) (hes : Cells w w.heap.size A (edgeCells es)) (hcap : es.length ≤ cap) (hO : Cells w w.heap.size O (intCells ord)) (hU : RowsAt w w.heap.size U outs) :
    Calls Tryz.prog 5 #[.agg #[.int .i64 n, .slice A es.length cap], .agg #[.slice O ord.length co, .slice U outs.length cu]] w (fun e w' => e = .returned (.bool true) ∧ Below w.heap.size w w') := by
  obtain ⟨wb, hwb⟩ : ∃ wb, wb = w.alloc (.cells #[.int .i64 n, .slice A es.length cap] 24) := ⟨_, rfl⟩
  have hb0 : Below w.heap.size w wb := by rw [hwb]; exact (Below.refl _ _).alloc (Nat.le_refl _) _
  have hz0 : wb.heap.size = w.heap.size + 1 := by rw [hwb]; simp
  have hGB : Blk wb w.heap.size 24 #[.int .i64 n, .slice A es.length cap] := by rw [hwb]; exact Blk.new _ _ _
  have S1 := Lib.hid (PlanS.start (w := wb) co cu ((hO.below hb0).more hb0.size) ((hU.below hb0).more hb0.size))
  have HES0 := Lib.hid ((hes.below hb0).more hb0.size)
  have HGB0 := Lib.hid hGB
  have HB0 := Lib.hid hb0
  have HCAP := Lib.hid hcap
  clear hes hO hU hGB hb0 hcap
  go_enter Tryz.func5, Tryz.ntmps5
  go_upto_region 1 with fail
  rw [← hwb]
  obtain ⟨gG, hgG⟩ : ∃ g, g = w.heap.size := ⟨_, rfl⟩
  obtain ⟨gP, hgP⟩ : ∃ g, g = wb.heap.size := ⟨_, rfl⟩
  rw [← hgP] at S1
  rw [← hgG] at HGB0
  have hb1 := S1.out.bel
  have HGB1 := Lib.hid (HGB0.out.below hb1 HGB0.out.lt)
  have HES1 := Lib.hid ((HES0.out.below hb1).more hb1.size)
  try rw [show w.heap.size + 1 = gP by omega]
  try rw [← hgP]
  rw [← hgG]
  obtain ⟨w1, hw1⟩ : ∃ w1, w1 = wb.alloc (.cells #[.slice O ord.length co, .slice U outs.length cu] 36) := ⟨_, rfl⟩
  rw [← hw1] at S1 HGB1 HES1 hb1 ⊢
  have HB1 := Lib.hid (HB0.out.trans (hb1.mono HB0.out.size))
  have HK := Lib.hid (show ∀ wr, Below w1.heap.size w1 wr → wr.cell? ⟨gG, 0, none⟩ = some (.int .i64 n) ∧ wr.cell? ⟨gG, 1, none⟩ = some (.slice A es.length cap) ∧ wr.cell? ⟨gP, 0, none⟩ = some (.slice O ord.length co) ∧ wr.cell? ⟨gP, 1, none⟩ = some (.slice U outs.length cu) ∧ Cells wr wr.heap.size A (edgeCells es) ∧ Cells wr wr.heap.size O (intCells ord) ∧ RowsAt wr wr.heap.size U outs ∧ Below w.heap.size w wr from fun wr hb => by
    have k0 := (HGB1.out.below hb HGB1.out.lt).cell 0
    have k1 := (HGB1.out.below hb HGB1.out.lt).cell 1
    have k2 := (S1.out.b.below hb S1.out.b.lt).cell 0
    have k3 := (S1.out.b.below hb S1.out.b.lt).cell 1
    simp only [List.getElem?_toArray, List.getElem?_cons_zero, List.getElem?_cons_succ] at k0 k1 k2 k3
    exact ⟨k0, k1, k2, k3, (HES1.out.below hb).more hb.size, (S1.out.o.below hb).more hb.size, (S1.out.u.below hb).more hb.size, HB1.out.trans (hb.mono HB1.out.size)⟩)
  clear hw1 hwb hgG hgP hz0 hb1
  go_wp2_with fail
  refine (speaks11_any w1).mono ?_
  rintro e w2 ⟨rfl, hb2⟩
  have HB2 := Lib.hid hb2
  obtain ⟨g0, g1, p0, p1, hE2, hO2, hU2, hW2⟩ := HK.out w2 hb2
  have HW2 := Lib.hid hW2
  have HU2 := Lib.hid hU2
  clear hb2 hE2 hO2 hU2 hW2
  go_wp2_with fail
  refine (great10_any n A O U cap co cu es ord outs w2 HU2.out).mono ?_
  rintro e w3 ⟨b, rfl, hb3, hg⟩
  have HB3 := Lib.hid (HB2.out.trans (hb3.mono HB2.out.size))
  clear hb3 g0 g1 p0 p1
  obtain ⟨g0, g1, p0, p1, hE3, hO3, hU3, hW3⟩ := HK.out w3 HB3.out
  have HE3 := Lib.hid hE3
  have HO3 := Lib.hid hO3
  have HU3 := Lib.hid hU3
  have HW3 := Lib.hid hW3
  clear hE3 hO3 hU3 hW3
  cases b with
  | true =>
    clear hg
    go_wp2_with fail
    go_ret
    exact ⟨rfl, HW3.out⟩
  | false =>
  obtain ⟨hm, hord, houl, hol⟩ := hg rfl
  have HOL := Lib.hid (show ∀ l ∈ outs, l.length ≤ 1000 from fun l hl => by have := hol l hl; omega)
  clear hg hol
  go_wp2_with fail
  refine (turn_any n A O U cap co cu es ord outs w3 HE3.out HCAP.out HO3.out HU3.out (by omega) HOL.out).mono ?_
  rintro e w4 ⟨hb4, hc4⟩
  have HC4 := Lib.hid hc4
  have HB34 := Lib.hid hb4
  have HB4 := Lib.hid (HB3.out.trans (hb4.mono HB3.out.size))
  clear hb4 hc4 g0 g1 p0 p1
  obtain ⟨g0, g1, p0, p1, hE4, hO4, hU4, hW4⟩ := HK.out w4 HB4.out
  have HE4 := Lib.hid hE4
  have HO4 := Lib.hid hO4
  have HU4 := Lib.hid hU4
  have HW4 := Lib.hid hW4
  clear hE4 hO4 hU4 hW4
  by_cases hrunx : GoodP n es ∧ (runO n.toNat es ord outs).isSome = true
  case neg =>
    have HNX := Lib.hid hrunx
    rcases HC4.out with ⟨en, C, c, h1, h2, _⟩ | ⟨_, rfl⟩
    case inl => exact absurd ⟨h1, by rw [h2]; rfl⟩ hrunx
    clear hrunx
    go_wp2_with fail
    refine (great_any n A O U cap co cu es ord outs w4 HE4.out HCAP.out HO4.out HU4.out (by omega) HOL.out (fun en h1 h2 => run_flat h1 h2)).mono ?_
    rintro e w5 ⟨hb5, hc5⟩
    have HB5 := Lib.hid (HB4.out.trans (hb5.mono HB4.out.size))
    rcases hc5 with ⟨en, C, c, h1, h2, _⟩ | ⟨_, rfl⟩
    case inl => exact absurd ⟨h1, by rw [h2]; rfl⟩ HNX.out
    clear hb5 g0 g1 p0 p1
    obtain ⟨g0, g1, p0, p1, hE5, hO5, hU5, hW5⟩ := HK.out w5 HB5.out
    have HE5 := Lib.hid hE5
    have HO5 := Lib.hid hO5
    have HU5 := Lib.hid hU5
    clear hE5 hO5 hU5 hW5
    go_wp2_with fail
    refine (rturn_any n A O U cap co cu es ord outs w5 HE5.out HO5.out HU5.out (by omega) HOL.out (by omega)).mono ?_
    rintro e w6 ⟨hb6, hc6⟩
    have HB6 := Lib.hid (HB5.out.trans (hb6.mono HB5.out.size))
    rcases hc6 with ⟨en, C, c, h1, h2, _⟩ | ⟨_, rfl⟩
    case inl => exact absurd ⟨h1, by rw [h2]; rfl⟩ HNX.out
    have HW6 := Lib.hid (HK.out w6 HB6.out).2.2.2.2.2.2.2
    clear hb6 g0 g1 p0 p1
    go_wp2_with fail
    go_ret
    exact ⟨rfl, HW6.out⟩
  obtain ⟨hgd, hsome⟩ := hrunx
  obtain ⟨en, hrun⟩ := Option.isSome_iff_exists.1 hsome
  have HRX := Lib.hid (And.intro hgd hrun)
  rcases HC4.out with ⟨en4, C, c, _, h2, rfl, hrw⟩ | ⟨hno, _⟩
  case inr => exact absurd ⟨hgd, hsome⟩ hno
  have e4 : en4 = en := by rw [hrun] at h2; exact (Option.some.inj h2).symm
  subst e4
  have HRW4 := Lib.hid hrw
  clear h2 hsome hrw HC4
  go_wp2_with fail
  refine (great_any n A O U cap co cu es ord outs w4 HE4.out HCAP.out HO4.out HU4.out (by omega) HOL.out (fun en h1 h2 => run_flat h1 h2)).mono ?_
  rintro e w5 ⟨hb5, hc5⟩
  have HB45 := Lib.hid hb5
  have HB5 := Lib.hid (HB4.out.trans (hb5.mono HB4.out.size))
  rcases hc5 with ⟨en5, L, cl, _, h2, rfl, hgr⟩ | ⟨hno, _⟩
  case inr => exact absurd ⟨hgd, by rw [hrun]; rfl⟩ hno
  have e5 : en5 = en4 := by rw [hrun] at h2; exact (Option.some.inj h2).symm
  subst e5
  have HGR5 := Lib.hid hgr
  clear hb5 g0 g1 p0 p1 h2 hgr
  obtain ⟨g0, g1, p0, p1, hE5, hO5, hU5, hW5⟩ := HK.out w5 HB5.out
  have HE5 := Lib.hid hE5
  have HO5 := Lib.hid hO5
  have HU5 := Lib.hid hU5
  clear hE5 hO5 hU5 hW5
  go_wp2_with fail
  refine (rturn_any n A O U cap co cu es ord outs w5 HE5.out HO5.out HU5.out (by omega) HOL.out (by omega)).mono ?_
  rintro e w6 ⟨hb6, hc6⟩
  have HB56 := Lib.hid hb6
  have HB6 := Lib.hid (HB5.out.trans (hb6.mono HB5.out.size))
  rcases hc6 with ⟨en6, D, d, _, h2, rfl, hrw6⟩ | ⟨hno, _⟩
  case inr => exact absurd ⟨hgd, by rw [hrun]; rfl⟩ hno
  have e6 : en6 = en5 := by rw [hrun] at h2; exact (Option.some.inj h2).symm
  subst e6
  have HRW6 := Lib.hid hrw6
  clear hb6 g0 g1 p0 p1 h2 hrw6
  obtain ⟨N, rfl⟩ : ∃ N : Nat, n = (N : Int) := ⟨n.toNat, by have := (may_parts hgd.may).1; omega⟩
  rw [Int.toNat_natCast] at *
  obtain ⟨hRP, hAK⟩ := run_flat (n := (N : Int)) hgd (by rw [Int.toNat_natCast]; exact hrun)
  rw [Int.toNat_natCast] at hRP hAK
  have hN64 : N ≤ 64 := by have := (may_parts hgd.may).2.1; omega
  have hm128 := (may_parts hgd.may).2.2
  obtain ⟨rs, hrs⟩ : ∃ rs, rs = turnW N outs en6 := ⟨_, rfl⟩
  have HRL := Lib.hid (show rs.length = N by rw [hrs]; simp [turnW])
  rw [← hrs] at hRP HRW4 HGR5 HRW6 ⊢
  have HRP := Lib.hid hRP
  have HR2 := Lib.hid (show ∀ l ∈ rs, l.length ≤ 1000 from fun l hl => by
    obtain ⟨x, hx, rfl⟩ := List.mem_iff_getElem.1 hl
    have h1 : rs[x].length ≤ 2 * es.length := by
      have hs : (rs[x].map Int.toNat).Nodup := by
        rw [List.nodup_iff_pairwise_ne, List.pairwise_map]
        refine (List.nodup_iff_pairwise_ne.1 (hRP.nd x hx)).imp_of_mem fun {a b} ha hb h e => h ?_
        have h1 := hRP.at_ x hx a ha
        have h2 := hRP.at_ x hx b hb
        omega
      have := List.Nodup.length_le_of_subset hs (l₂ := List.range (2 * es.length)) (fun a ha => by
        obtain ⟨b, hb, rfl⟩ := List.mem_map.1 ha
        have h2 := hRP.at_ x hx b hb
        exact List.mem_range.2 (by omega))
      simpa using this
    omega)
  clear hRP hAK hrs hrun hgd
  have HR46 := Lib.hid ((HRW4.out.below (HB45.out.trans (HB56.out.mono HB45.out.size))).more (HB45.out.trans (HB56.out.mono HB45.out.size)).size)
  have HG6 := Lib.hid ((HGR5.out.below HB56.out).more HB56.out.size)
  have hNN : ((N : Int) != (N : Int)) = false := by simp
  have HKW := Lib.hid (show ∀ wr, Below w6.heap.size w6 wr → wr.cell? ⟨gG, 0, none⟩ = some (.int .i64 N) ∧ wr.cell? ⟨gG, 1, none⟩ = some (.slice A es.length cap) ∧ Cells wr wr.heap.size A (edgeCells es) ∧ Below w.heap.size w wr from fun wr hb => by
    obtain ⟨k0, k1, _, _, k2, _, _, k3⟩ := HK.out wr (HB6.out.trans (hb.mono HB6.out.size))
    exact ⟨k0, k1, k2, k3⟩)
  go_wp2_with fail
  clear hNN
  go_loopg [76] N (fun k s76 wr => ∃ i : Nat, s76 = .int .i64 i ∧ i ≤ N ∧ k = N - i ∧ Below w6.heap.size w6 wr)
  case atStart => exact ⟨0, rfl, Nat.zero_le _, rfl, Below.refl _ _⟩
  case round =>
    obtain ⟨i, rfl, hi, hk, hb⟩ := hrel
    have Hk := Lib.hid hk
    have HBW := Lib.hid hb
    clear hk hb
    by_cases hil : i < N
    · have hil' : (i : Int) < N := by omega
      have hir : i < rs.length := by rw [HRL.out]; exact hil
      obtain ⟨b1, o1, eA, hb1, hc1⟩ := (HR46.out.below HBW.out) (by omega)
      obtain ⟨A1, c1, d1, hC1⟩ := hc1 i hir
      obtain ⟨b2, o2, eB, hb2, hc2⟩ := (HRW6.out.below HBW.out) (by omega)
      obtain ⟨A2, c2, d2, hC2⟩ := hc2 i hir
      subst eA eB
      have hs := HBW.out.size
      have hlr := HR2.out _ (List.getElem_mem hir)
      obtain ⟨l, hl⟩ : ∃ l, l = rs[i] := ⟨_, rfl⟩
      rw [← hl] at d1 d2 hC1 hC2 hlr
      have HSM := Lib.hid (fun k => same_any A1 A2 c1 c2 l l (wr.drewN k) (wr.drewN k).heap.size ((show Cells (wr.drewN k) w6.heap.size A1 (intCells l) from hC1).more hs) ((show Cells (wr.drewN k) w6.heap.size A2 (intCells l) from hC2).more hs) (by omega) (by omega))
      rw [decide_eq_true (rfl : l = l)] at HSM
      clear hc1 hc2 hl hir hC1 hC2
      go_wp2_with fail
      go_quiet ((go_at_call 10; exact quiet_b (HSM.out _)))
      have HBN := Lib.hid (below_drewN HBW.out nq)
      go_wp2_with fail
      go_roundg (N - (i + 1))
      case measure => rw [Hk.out]; omega
      case rel => exact ⟨i + 1, by go_num, by omega, rfl, HBN.out⟩
    · have hil' : ¬ (i : Int) < N := by omega
      obtain ⟨g0, g1, hEr, hWr⟩ := HKW.out wr HBW.out
      have HRG := rgreat_any N A D cap d es rs wr hEr ((HRW6.out.below HBW.out).more HBW.out.size) (by rw [HRL.out]; omega) HR2.out HRP.out (by omega) hN64
      rw [HRL.out] at HRG
      have HRG := Lib.hid HRG
      have HG7 := Lib.hid ((HG6.out.below HBW.out).more HBW.out.size)
      have HGL := Lib.hid (greatT_length es rs N)
      clear hEr hWr
      go_wp2_with fail
      refine HRG.out.mono ?_
      rintro e w7 ⟨L7, c7, rfl, hb7, hc7⟩
      have HB7 := Lib.hid (HBW.out.trans (hb7.mono HBW.out.size))
      have HG8 := Lib.hid ((HG7.out.below hb7).more hb7.size)
      have HW7 := Lib.hid (HKW.out w7 HB7.out).2.2.2
      have HSM := same_any L L7 cl c7 (greatT es rs N) (greatT es rs N) w7 w7.heap.size HG8.out hc7 (by rw [HGL.out]; omega) (by rw [HGL.out]; omega)
      rw [decide_eq_true (rfl : greatT es rs N = greatT es rs N), HGL.out] at HSM
      have HSM := Lib.hid HSM
      have hff : (outT N es rs N == outT N es rs N) = true := by simp
      clear hb7 hc7 g0 g1
      generalize outT N es rs N = ov at *
      go_wp2_with fail
      refine HSM.out.mono ?_
      rintro e w8 ⟨rfl, m, rfl⟩
      have HW8 := Lib.hid (below_drewN HW7.out m)
      go_wp2_with fail
      go_ret
      exact ⟨rfl, HW8.out⟩
end Go.Proofs.YtelcofkjpkdjiaaGreat
