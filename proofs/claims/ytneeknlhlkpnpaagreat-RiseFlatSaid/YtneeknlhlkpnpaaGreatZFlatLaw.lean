import Derived.Test.YtneeknlhlkpnpaaGreatZRSp
import Derived.Test.YtneeknlhlkpnpaaGreatZRRf10
import Derived.Test.YtneeknlhlkpnpaaGreatZRuns10
import Derived.Test.YtneeknlhlkpnpaaGreatZRRf
import Derived.Test.YtneeknlhlkpnpaaGreatZMirP
import Derived.Test.YtneeknlhlkpnpaaGreatZFlat4
import Derived.Test.YtneeknlhlkpnpaaGreatZMirr
import Derived.Test.YtneeknlhlkpnpaaGreatZSameRot
import Derived.Test.YtneeknlhlkpnpaaGreatZPgo
/-
 The law RiseFlat, walked. Written by an AI agent.
-/
namespace Go.Proofs.YtneeknlhlkpnpaaGreat
open Go.RowKit
theorem right_rows {N : Nat} {es : List (Int × Int)} {rs : List (List Int)} (hR : RightP N es rs) : ∀ l ∈ rs, l.length ≤ 2 * es.length := fun l hl => by
 obtain ⟨x, hx, rfl⟩ := List.mem_iff_getElem.1 hl
 have hs : (rs[x].map Int.toNat).Nodup := by
  rw [List.nodup_iff_pairwise_ne, List.pairwise_map]
  refine (List.nodup_iff_pairwise_ne.1 (hR.nd x hx)).imp_of_mem fun {a b} ha hb h e => h ?_
  have h1 := hR.at_ x hx a ha
  have h2 := hR.at_ x hx b hb
  omega
 have := List.Nodup.length_le_of_subset hs (l₂ := List.range (2 * es.length)) (fun a ha => by
  obtain ⟨b, hb, rfl⟩ := List.mem_map.1 ha
  have h2 := hR.at_ x hx b hb
  exact List.mem_range.2 (by omega))
 simpa using this
set_option maxRecDepth 20000 in
set_option maxHeartbeats 8000000 in
theorem flatLaw_any (n : Int) (A O U : Option Addr) (cap co cu : Nat) (es : List (Int × Int)) (ord : List Int) (outs : List (List Int)) (w : World) (hes : Cells w w.heap.size A (edgeCells es)) (hcap : es.length ≤ cap) (hO : Cells w w.heap.size O (intCells ord)) (hU : RowsAt w w.heap.size U outs) :
  Calls Tryz.prog 4 #[.agg #[.int .i64 n, .slice A es.length cap], .agg #[.slice O ord.length co, .slice U outs.length cu]] w (fun e w' => e = .returned (.bool true) ∧ Below w.heap.size w w') := by
 obtain ⟨wb, hwb⟩ : ∃ wb, wb = w.alloc (.cells #[.int .i64 n, .slice A es.length cap] 24) := ⟨_, rfl⟩
 have hb0 : Below w.heap.size w wb := by rw [hwb]; exact (Below.refl _ _).alloc (Nat.le_refl _) _
 have hz0 : wb.heap.size = w.heap.size + 1 := by rw [hwb]; simp
 have hGB : Blk wb w.heap.size 24 #[.int .i64 n, .slice A es.length cap] := by rw [hwb]; exact Blk.new _ _ _
 have S1 := Lib.hid (PlanS.start (w := wb) co cu ((hO.below hb0).more hb0.size) ((hU.below hb0).more hb0.size))
 have HES0 := Lib.hid ((hes.below hb0).more hb0.size)
 have HGB0 := Lib.hid hGB
 have HB0 := Lib.hid hb0
 have HCAP := Lib.hid hcap
 clear hes hO hU hGB hb0 hcap
 go_enter Tryz.func4, Tryz.ntmps4
 go_upto_region 1 with fail
 rw [← hwb]
 obtain ⟨gG, hgG⟩ : ∃ g, g = w.heap.size := ⟨_, rfl⟩
 obtain ⟨gP, hgP⟩ : ∃ g, g = wb.heap.size := ⟨_, rfl⟩
 rw [← hgP] at S1
 rw [← hgG] at HGB0
 have hb1 := S1.out.bel
 have HGB1 := Lib.hid (HGB0.out.below hb1 HGB0.out.lt)
 have HES1 := Lib.hid ((HES0.out.below hb1).more hb1.size)
 try rw [show w.heap.size + 1 = gP by omega]
 try rw [← hgP]
 rw [← hgG]
 obtain ⟨w1, hw1⟩ : ∃ w1, w1 = wb.alloc (.cells #[.slice O ord.length co, .slice U outs.length cu] 28) := ⟨_, rfl⟩
 rw [← hw1] at S1 HGB1 HES1 hb1 ⊢
 have HB1 := Lib.hid (HB0.out.trans (hb1.mono HB0.out.size))
 have HK := Lib.hid (show ∀ wr, Below w1.heap.size w1 wr → wr.cell? ⟨gG, 0, none⟩ = some (.int .i64 n) ∧ wr.cell? ⟨gG, 1, none⟩ = some (.slice A es.length cap) ∧ wr.cell? ⟨gP, 0, none⟩ = some (.slice O ord.length co) ∧ wr.cell? ⟨gP, 1, none⟩ = some (.slice U outs.length cu) ∧ Cells wr wr.heap.size A (edgeCells es) ∧ Cells wr wr.heap.size O (intCells ord) ∧ RowsAt wr wr.heap.size U outs ∧ Below w.heap.size w wr from fun wr hb => by
  have k0 := (HGB1.out.below hb HGB1.out.lt).cell 0
  have k1 := (HGB1.out.below hb HGB1.out.lt).cell 1
  have k2 := (S1.out.b.below hb S1.out.b.lt).cell 0
  have k3 := (S1.out.b.below hb S1.out.b.lt).cell 1
  simp only [List.getElem?_toArray, List.getElem?_cons_zero, List.getElem?_cons_succ] at k0 k1 k2 k3
  exact ⟨k0, k1, k2, k3, (HES1.out.below hb).more hb.size, (S1.out.o.below hb).more hb.size, (S1.out.u.below hb).more hb.size, HB1.out.trans (hb.mono HB1.out.size)⟩)
 clear hw1 hwb hgG hgP hz0 hb1
 go_wp2_with fail
 refine (speaks11_any w1).mono ?_
 rintro e w2 ⟨rfl, hb2⟩
 have HB2 := Lib.hid hb2
 obtain ⟨g0, g1, p0, p1, hE2, hO2, hU2, hW2⟩ := HK.out w2 hb2
 have HW2 := Lib.hid hW2
 have HU2 := Lib.hid hU2
 clear hb2 hE2 hO2 hU2 hW2
 go_wp2_with fail
 refine (great10_any n A O U cap co cu es ord outs w2 HU2.out).mono ?_
 rintro e w3 ⟨b, rfl, hb3, hg⟩
 have HB3 := Lib.hid (HB2.out.trans (hb3.mono HB2.out.size))
 clear hb3 g0 g1 p0 p1
 obtain ⟨g0, g1, p0, p1, hE3, hO3, hU3, hW3⟩ := HK.out w3 HB3.out
 have HE3 := Lib.hid hE3
 have HO3 := Lib.hid hO3
 have HU3 := Lib.hid hU3
 have HW3 := Lib.hid hW3
 clear hE3 hO3 hU3 hW3
 cases b with
 | true =>
  clear hg
  go_wp2_with fail
  go_ret
  exact ⟨rfl, HW3.out⟩
 | false =>
 obtain ⟨hm, hord, houl, hol⟩ := hg rfl
 have HOL := Lib.hid (show ∀ l ∈ outs, l.length ≤ 1000 from fun l hl => by have := hol l hl; omega)
 clear hg hol
 go_wp2_with fail
 refine (runs10_any n A O U cap co cu es ord outs w3 HE3.out HO3.out HU3.out (by omega) HOL.out (by omega)).mono ?_
 rintro e w4 ⟨rb, rfl, hb4, hrb⟩
 have HB4 := Lib.hid (HB3.out.trans (hb4.mono HB3.out.size))
 have HRB := Lib.hid hrb
 clear hb4 hrb g0 g1 p0 p1
 obtain ⟨g0, g1, p0, p1, hE4, hO4, hU4, hW4⟩ := HK.out w4 HB4.out
 have HE4 := Lib.hid hE4
 have HO4 := Lib.hid hO4
 have HU4 := Lib.hid hU4
 have HW4 := Lib.hid hW4
 clear hE4 hO4 hU4 hW4
 cases rb with
 | false =>
  clear HRB
  go_wp2_with fail
  go_ret
  exact ⟨rfl, HW4.out⟩
 | true =>
 obtain ⟨hgd, hsome⟩ := HRB.out.1 rfl
 obtain ⟨en, hrun⟩ := Option.isSome_iff_exists.1 hsome
 obtain ⟨N, rfl⟩ : ∃ N : Nat, n = (N : Int) := ⟨n.toNat, by have := (may_parts hgd.may).1; omega⟩
 rw [Int.toNat_natCast] at hrun
 obtain ⟨pl, rF, s, hPl⟩ := run_plan hgd hrun
 have hN64 : N ≤ 64 := by have := (may_parts hgd.may).2.1; omega
 have hwr := hPl.wrapped
 obtain ⟨rs, hrs⟩ : ∃ rs, rs = turnR N outs en := ⟨_, rfl⟩
 have HPL := Lib.hid hPl
 have HRX := Lib.hid (And.intro hgd hrun)
 have HRS := Lib.hid hrs
 have HRL := Lib.hid (show rs.length = N by rw [hrs, turnR_length])
 have HRR := Lib.hid (show RightP N es rs by rw [hrs]; exact hPl.right)
 have HR2 := Lib.hid (show ∀ l ∈ rs, l.length ≤ 1000 from fun l hl => by have := right_rows HRR.out l hl; omega)
 have HWR := Lib.hid (hwr.trans hrs.symm)
 have HFT := Lib.hid (show fitsF N es rs (outT N es rs N) (greatT es rs N) = true by rw [hrs]; exact hPl.fits)
 clear hPl hsome hwr hrs hgd hrun HRB
 go_wp2_with fail
 refine (turn_any N A O U cap co cu es ord outs w4 HE4.out HCAP.out HO4.out HU4.out (by omega) HOL.out).mono ?_
 rintro e w5 ⟨hb5, hc5⟩
 rw [Int.toNat_natCast] at hc5
 have HB45 := Lib.hid hb5
 have HB5 := Lib.hid (HB4.out.trans (hb5.mono HB4.out.size))
 rcases hc5 with ⟨en5, C, c, _, h2, rfl, hrw⟩ | ⟨hno, _⟩
 case inr => exact absurd ⟨HRX.out.1, by rw [HRX.out.2]; rfl⟩ hno
 have e5 : en5 = en := by rw [HRX.out.2] at h2; exact (Option.some.inj h2).symm
 subst e5
 rw [HWR.out] at hrw
 have HRW5 := Lib.hid hrw
 clear hb5 h2 hrw g0 g1 p0 p1
 obtain ⟨g0, g1, p0, p1, hE5, hO5, hU5, hW5⟩ := HK.out w5 HB5.out
 have HE5 := Lib.hid hE5
 have HO5 := Lib.hid hO5
 have HU5 := Lib.hid hU5
 clear hE5 hO5 hU5 hW5
 go_wp2_with fail
 refine (great_any N A O U cap co cu es ord outs w5 HE5.out HCAP.out HO5.out HU5.out (by omega) HOL.out (fun en h1 h2 => run_flat h1 h2)).mono ?_
 rintro e w6 ⟨hb6, hc6⟩
 rw [Int.toNat_natCast] at hc6
 have HB56 := Lib.hid hb6
 have HB6 := Lib.hid (HB5.out.trans (hb6.mono HB5.out.size))
 rcases hc6 with ⟨en6, L, cl, _, h2, rfl, hgr⟩ | ⟨hno, _⟩
 case inr => exact absurd ⟨HRX.out.1, by rw [HRX.out.2]; rfl⟩ hno
 have e6 : en6 = en5 := by rw [HRX.out.2] at h2; exact (Option.some.inj h2).symm
 subst e6
 rw [HWR.out] at hgr ⊢
 have HGR6 := Lib.hid hgr
 have HRW6 := Lib.hid ((HRW5.out.below HB56.out).more HB56.out.size)
 clear hb6 h2 hgr g0 g1 p0 p1
 obtain ⟨g0, g1, p0, p1, hE6, hO6, hU6, hW6⟩ := HK.out w6 HB6.out
 have HE6 := Lib.hid hE6
 have HO6 := Lib.hid hO6
 have HU6 := Lib.hid hU6
 clear hE6 hO6 hU6 hW6
 have HGL := Lib.hid (greatT_length es rs N)
 have hfits := rfits_any N A C L cap c cl es rs (outT N es rs N) (greatT es rs N) w6 HE6.out HRW6.out.at_ (by rw [HRL.out]; omega) HR2.out HGR6.out (by rw [HGL.out]; omega) (by omega)
 rw [HFT.out, HGL.out, HRL.out] at hfits
 have HFITS := Lib.hid hfits
 clear hfits
 generalize outT N es rs N = ov at *
 go_wp2_with fail
 refine HFITS.out.mono ?_
 rintro e w7 ⟨rfl, hb7⟩
 have HB7 := Lib.hid (HB6.out.trans (hb7.mono HB6.out.size))
 have HRW7 := Lib.hid ((HRW6.out.below hb7).more hb7.size)
 clear hb7 g0 g1 p0 p1
 have HK7 := Lib.hid (HK.out w7 HB7.out)
 go_upto_region 9 with fail
 have HMO := Lib.hid (show runO N es ord (mir outs) = some (en6.map List.reverse) from runO_mirror HRX.out.1 HRX.out.2)
 have HMW := Lib.hid (show turnW N (mir outs) (en6.map List.reverse) = turnR N (mir outs) (en6.map List.reverse) from HPL.out.mirror.wrapped)
 have HML := Lib.hid (show ∀ l ∈ mir outs, l.length ≤ 1000 from fun l hl => by
  unfold mir at hl
  obtain ⟨k, hk, rfl⟩ := List.mem_map.1 hl
  rw [List.length_reverse]
  exact HOL.out k hk)
 have hmirl : (mir outs).length = outs.length := mir_length
 have HMIRL := Lib.hid hmirl
 obtain ⟨mt, hmt⟩ : ∃ mt, mt = turnR N (mir outs) (en6.map List.reverse) := ⟨_, rfl⟩
 have HMT := Lib.hid hmt
 rw [← hmt] at HMW
 clear hmirl hmt
 refine R5.wp_region_b [[]] [0, 0, 0, 0, 0, 0, 0, 0, 0]
  [([], .val (.agg #[.int .i64 (N : Nat), .slice A es.length cap])), ([], .val (.agg #[.slice O ord.length co, .slice U outs.length cu])), ([1], .planF ord (mir outs)), ([0, 2], .turnF N mt), ([3], .turnF N mt), ([4], .rowsF N mt), ([4], .val (.int .i64 0)), ([5], .rowsF N mt), ([6], .val (.int .i64 0))] [7, 8] (by kernel_rfl) (by kernel_rfl) (fun us => ?_) ?_
 ·refine R5.pgo_pure _ rfl rfl (fun wv hw hu => ⟨.agg #[.int .i64 (N : Nat), .slice A es.length cap], ?_, rfl⟩) ?_
  ·have tok := True.intro
   have hbv := (R5.BW.in_ hw [] rfl (by kernel_rfl) : But [] w7.drew wv).undrew.below (Nat.le_refl _) (by simp)
   obtain ⟨zy0, zy1, _⟩ := HK.out wv (HB7.out.trans (hbv.mono HB7.out.size))
   clear hw hu hbv
   go_simp
  refine R5.pgo_pure _ rfl rfl (fun wv hw hu => ⟨.agg #[.slice O ord.length co, .slice U outs.length cu], ?_, rfl⟩) ?_
  ·have tok := True.intro
   have hbv := (R5.BW.in_ hw [] rfl (by kernel_rfl) : But [] w7.drew wv).undrew.below (Nat.le_refl _) (by simp)
   obtain ⟨_, _, zy0, zy1, _⟩ := HK.out wv (HB7.out.trans (hbv.mono HB7.out.size))
   clear hw hu hbv
   go_simp
  refine pgo_call5 _ rfl rfl 23 #[.agg #[.slice O ord.length co, .slice U outs.length cu]] (fun wv hw hu => ⟨?_, ?_⟩) ?_
  ·have tok := True.intro
   have h1 : us 1 = .agg #[.slice O ord.length co, .slice U outs.length cu] := hu.1
   clear hw hu
   go_simp
  ·have hbv := (R5.BW.in_ hw [] rfl (by kernel_rfl) : But [] w7.drew wv).undrew.below (Nat.le_refl _) (by simp)
   obtain ⟨_, _, _, _, _, hOv, hUv, _⟩ := HK.out wv (HB7.out.trans (hbv.mono HB7.out.size))
   refine (mirP_any O U co cu ord outs wv hOv hUv (by omega) (by omega) HOL.out).mono ?_
   rintro e z ⟨O', U', co', cu', rfl, hzb, h1, h2⟩
   exact ⟨_, rfl, But.of_below _ hzb (Nat.le_refl _), O', U', co', cu', rfl, h1, h2⟩
  refine pgo_call5 _ rfl rfl 9 #[us 0, us 2] (fun wv hw hu => ⟨?_, ?_⟩) ?_
  ·have tok := True.intro
   have h0 : us 0 = .agg #[.int .i64 (N : Nat), .slice A es.length cap] := hu.1
   obtain ⟨O', U', co', cu', h2, _⟩ := hu.2.1
   clear hw hu
   go_simp
  ·have hbv := (R5.BW.in_ hw [] rfl (by kernel_rfl) : But [] w7.drew wv).undrew.below (Nat.le_refl _) (by simp)
   obtain ⟨_, _, _, _, hEv, _⟩ := HK.out wv (HB7.out.trans (hbv.mono HB7.out.size))
   have h0 : us 0 = .agg #[.int .i64 (N : Nat), .slice A es.length cap] := hu.1
   obtain ⟨O', U', co', cu', h2, h3, h4⟩ := hu.2.1
   rw [h0, h2]
   refine (turn_any N A O' U' cap co' cu' es ord (mir outs) wv hEv HCAP.out h3 h4.at_ (by omega) HML.out).mono ?_
   rintro e z ⟨hzb, hc⟩
   rw [Int.toNat_natCast] at hc
   rcases hc with ⟨en', C', c', _, k2, rfl, k3⟩ | ⟨hno, _⟩
   ·rw [HMO.out] at k2
    have k2 := Option.some.inj k2
    rw [← k2, HMW.out] at k3
    exact ⟨_, rfl, But.of_below _ hzb (Nat.le_refl _), C', c', rfl, k3⟩
   ·exact absurd ⟨HRX.out.1, by rw [HMO.out]; rfl⟩ hno
  refine R5.pgo_pure _ rfl rfl (fun wv hw hu => ?_) ?_
  ·have tok := True.intro
   obtain ⟨C', c', h3, h4⟩ := hu.1
   refine ⟨us 3, ?_, C', c', h3, h4⟩
   clear hw hu h4
   go_simp
  refine R5.pgo_pure _ rfl rfl (fun wv hw hu => ?_) ?_
  ·have tok := True.intro
   obtain ⟨C', c', h4, h5⟩ := hu.1
   refine ⟨.slice C' N c', ?_, C', c', rfl, h5⟩
   clear hw hu h5
   go_simp
  refine R5.pgo_pure _ rfl rfl (fun wv hw hu => ?_) ?_
  ·have tok := True.intro
   obtain ⟨C', c', h4, h5⟩ := hu.1
   refine ⟨.int .i64 0, ?_, rfl⟩
   clear hw hu h5
   go_simp
  refine R5.pgo_pure _ rfl rfl (fun wv hw hu => ?_) ?_
  ·have tok := True.intro
   obtain ⟨C', c', h5, h6⟩ := hu.1
   refine ⟨us 5, ?_, C', c', h5, h6⟩
   clear hw hu h6
   go_simp
  refine R5.pgo_pure _ rfl rfl (fun wv hw hu => ?_) ?_
  ·have tok := True.intro
   have h6 : us 6 = .int .i64 0 := hu.1
   refine ⟨.int .i64 0, ?_, rfl⟩
   clear hw hu
   go_simp
  trivial
 ·intro us w8 hw hu
  obtain ⟨C8, c8, h7, h8⟩ := hu.1
  have h9 : us 8 = .int .i64 0 := hu.2.1
  have hb8 := (R5.BW.in_ hw [] rfl (by kernel_rfl) : But [] w7.drew w8).undrew.below (Nat.le_refl _) (by simp)
  have HB8 := Lib.hid (HB7.out.trans (hb8.mono HB7.out.size))
  have HRW8 := Lib.hid ((HRW7.out.below hb8).more hb8.size)
  have HM8 := Lib.hid h8
  clear hw hu hb8 h8
  simp only [lexL]
  go_simp
  have HMI := mirror_any C c rs w8 HRW8.out.at_ (by rw [HRL.out]; omega) HR2.out
  rw [HRL.out] at HMI
  have HMI := Lib.hid HMI
  have HMTL := Lib.hid (show mt.length = N by rw [HMT.out, turnR_length])
  have HMRL := Lib.hid (show (mir rs).length = N by rw [mir_length, HRL.out])
  have HMTR := Lib.hid (show ∀ l ∈ mt, l.length ≤ 1000 from fun l hl => by
   rw [HMT.out] at hl
   have := right_rows HPL.out.mirror.right l hl
   omega)
  have HMRR := Lib.hid (show ∀ l ∈ mir rs, l.length ≤ 1000 from fun l hl => by
   unfold mir at hl
   obtain ⟨k, hk, rfl⟩ := List.mem_map.1 hl
   rw [List.length_reverse]
   exact HR2.out k hk)
  have HSM := Lib.hid (show sameB mt (mir rs) = true by rw [HMT.out, HRS.out]; exact turn_mirror N outs en6)
  go_wp2_with fail
  refine HMI.out.mono ?_
  rintro e w9 ⟨A9, c9, rfl, hb9, hr9⟩
  have HSA := sameR_any C8 A9 c8 c9 mt (mir rs) w9 ((HM8.out.below hb9).more hb9.size) hr9 (by rw [HMTL.out]; omega) (by rw [HMRL.out]; omega) HMTR.out (fun _ => HMRR.out)
  rw [HMTL.out, HMRL.out, HSM.out] at HSA
  have HSA := Lib.hid HSA
  have HB9 := Lib.hid (HB8.out.trans (hb9.mono HB8.out.size))
  clear hb9 hr9
  go_wp2_with fail
  refine HSA.out.mono ?_
  rintro e w10 ⟨rfl, hb10⟩
  have HW10 := Lib.hid (HK.out w10 (HB9.out.trans (hb10.mono HB9.out.size))).2.2.2.2.2.2.2
  clear hb10
  go_wp2_with fail
  go_ret
  exact ⟨rfl, HW10.out⟩
end Go.Proofs.YtneeknlhlkpnpaaGreat
