import Derived.Test.YtelcofkjpkdjiaaGreatZRSp
import Derived.Test.YtelcofkjpkdjiaaGreatZRRf
import Derived.Test.YtelcofkjpkdjiaaGreatZAsg
/-
  The law RiseFits, walked. (Printed by fitslawgen.py.) Written by an AI agent.
-/
namespace Go.Proofs.YtelcofkjpkdjiaaGreat
open Go.RowKit

set_option maxRecDepth 20000 in
set_option maxHeartbeats 8000000 in
theorem fitsLaw_any (n : Int) (A C G : Option Addr) (cap ccap cg : Nat) (es : List (Int × Int)) (rs : List (List Int)) (outer : Int) (great : List Int) (w : World) (hcap : es.length ≤ cap) (hes : Cells w w.heap.size A (edgeCells es)) (hrs : RowsAt w w.heap.size C rs) (hgr : Cells w w.heap.size G (intCells great)) :
    Calls Tryz.prog 6 #[.agg #[.int .i64 n, .slice A es.length cap], .slice C rs.length ccap, .int .i64 outer, .slice G great.length cg] w (fun e w' => e = .returned (.bool true) ∧ Below w.heap.size w w') := by
  have S1 := Lib.hid (SG.start n cap hes hrs)
  have HCAP := Lib.hid hcap
  have HGR := Lib.hid hgr
  clear hes hrs hcap hgr
  go_enter Tryz.func6, Tryz.ntmps6
  go_upto_region 1 with fail
  generalize w.alloc (.cells #[.int .i64 n, .slice A es.length cap] 24) = w1 at *
  go_wp2_with fail
  refine (speaks11_any w1).mono ?_
  rintro e w2 ⟨rfl, hb2⟩
  have S2 := Lib.hid (S1.out.next hb2)
  have g0 := S2.out.g0
  have g1 := S2.out.g1
  clear hb2 S1
  go_wp2_with fail
  refine (great2_any n A C cap ccap es rs 60 w2 S2.out.rs).mono ?_
  rintro e w3 ⟨b, rfl, hb3, hg⟩
  have S3 := Lib.hid (S2.out.next hb3)
  have HGR := Lib.hid ((HGR.out.below S3.out.below).more S3.out.below.size)
  clear hb3 S2 g0 g1
  cases b with
  | true =>
    clear hg
    go_wp2_with fail
    go_ret
    exact ⟨rfl, S3.out.below⟩
  | false =>
    obtain ⟨h1, h2, h3⟩ := hg rfl
    have hr1 : rs.length ≤ 1000 := by omega
    have HR2 := Lib.hid (show ∀ l ∈ rs, l.length ≤ 1000 from fun l hl => by have := h3 l hl; omega)
    clear hg h3
    by_cases hgl : 100 < great.length
    · have hgl' : (100 : Int) < (great.length : Int) := by omega
      clear hgl
      go_wp2_with fail
      go_ret
      exact ⟨rfl, S3.out.below⟩
    have hgl' : ¬ (100 : Int) < (great.length : Int) := by omega
    obtain ⟨fb, hfb⟩ : ∃ fb, fb = fitsF n es rs outer great := ⟨_, rfl⟩
    have HFB := Lib.hid hfb.symm
    clear hfb
    have HGB3 := Lib.hid S3.out.b
    obtain ⟨gG, hgG⟩ : ∃ g, g = w.heap.size := ⟨_, rfl⟩
    rw [← hgG] at HGB3
    go_upto_region 5 with fail
    rw [← hgG]
    have HGG := Lib.hid hgG
    clear hgG
    refine R5.wp_region_b [[]] [0, 0, 0, 0, 0, 0, 0, 0, 0, 0, 0, 0]
      [([], .val (.agg #[.int .i64 n, .slice A es.length cap])), ([], .val (.slice C rs.length ccap)), ([], .val (.int .i64 outer)), ([], .val (.slice G great.length cg)), ([0, 1, 2, 3], .val (.bool fb)), ([], .val (.agg #[.int .i64 n, .slice A es.length cap])), ([], .val (.slice C rs.length ccap)), ([], .val (.int .i64 outer)), ([], .val (.slice G great.length cg)), ([5, 6, 7, 8], .val (.bool fb)), ([4, 9], .val (.bool true)), ([10], .val (.bool true))] [11] (by kernel_rfl) (by kernel_rfl) (fun us => ?_) ?_
    · refine R5.pgo_pure _ rfl rfl (fun wv hw hu => ⟨.agg #[.int .i64 n, .slice A es.length cap], ?_, rfl⟩) ?_
      · have tok := True.intro
        have zy0 : wv.cell? ⟨gG, 0, none⟩ = some (.int .i64 n) := ((R5.BW.in_ hw [] rfl (by kernel_rfl) : But [] w3.drew wv).blk HGB3.out.drew (by simp)).cell 0
        have zy1 : wv.cell? ⟨gG, 1, none⟩ = some (.slice A es.length cap) := ((R5.BW.in_ hw [] rfl (by kernel_rfl) : But [] w3.drew wv).blk HGB3.out.drew (by simp)).cell 1
        clear hw hu
        go_simp
      refine R5.pgo_pure _ rfl rfl (fun wv hw hu => ⟨.slice C rs.length ccap, ?_, rfl⟩) ?_
      · have tok := True.intro
        clear hw hu
        go_simp
      refine R5.pgo_pure _ rfl rfl (fun wv hw hu => ⟨.int .i64 outer, ?_, rfl⟩) ?_
      · have tok := True.intro
        clear hw hu
        go_simp
      refine R5.pgo_pure _ rfl rfl (fun wv hw hu => ⟨.slice G great.length cg, ?_, rfl⟩) ?_
      · have tok := True.intro
        clear hw hu
        go_simp
      refine R3.pgo_op _ rfl rfl (fun K wv hw hu hK => ?_) ?_
      · have tok := True.intro
        have h0 : us 0 = .agg #[.int .i64 n, .slice A es.length cap] := hu.1
        have h1 : us 1 = .slice C rs.length ccap := hu.2.1
        have h2 : us 2 = .int .i64 outer := hu.2.2.1
        have h3 : us 3 = .slice G great.length cg := hu.2.2.2.1
        have h0 : us 0 = .agg #[.int .i64 n, .slice A es.length cap] := hu.1
        have h1 : us 1 = .slice C rs.length ccap := hu.2.1
        have h2 : us 2 = .int .i64 outer := hu.2.2.1
        have h3 : us 3 = .slice G great.length cg := hu.2.2.2.1
        have hbv := (R5.BW.in_ hw [] rfl (by kernel_rfl) : But [] w3.drew wv).undrew.below (Nat.le_refl _) (by simp)
        have SV := S3.out.next hbv
        have hGv := ((HGR.out.below hbv).more hbv.size)
        have hAN := fits_any n A C G cap ccap cg es rs outer great wv SV.es HCAP.out SV.rs hr1 HR2.out hGv (by omega) (by omega)
        rw [HFB.out] at hAN
        refine wpo_call (f := 20) (args := #[.agg #[.int .i64 n, .slice A es.length cap], .slice C rs.length ccap, .int .i64 outer, .slice G great.length cg]) ?_ (hAN.mono ?_)
        · clear hK hw hu hbv SV hAN hGv
          go_simp
        rintro e z ⟨rfl, hzb⟩
        exact ⟨_, rfl, hK _ _ (But.of_below _ hzb (Nat.le_refl _)) rfl⟩
      refine R5.pgo_pure _ rfl rfl (fun wv hw hu => ⟨.agg #[.int .i64 n, .slice A es.length cap], ?_, rfl⟩) ?_
      · have tok := True.intro
        have zy0 : wv.cell? ⟨gG, 0, none⟩ = some (.int .i64 n) := ((R5.BW.in_ hw [] rfl (by kernel_rfl) : But [] w3.drew wv).blk HGB3.out.drew (by simp)).cell 0
        have zy1 : wv.cell? ⟨gG, 1, none⟩ = some (.slice A es.length cap) := ((R5.BW.in_ hw [] rfl (by kernel_rfl) : But [] w3.drew wv).blk HGB3.out.drew (by simp)).cell 1
        clear hw hu
        go_simp
      refine R5.pgo_pure _ rfl rfl (fun wv hw hu => ⟨.slice C rs.length ccap, ?_, rfl⟩) ?_
      · have tok := True.intro
        clear hw hu
        go_simp
      refine R5.pgo_pure _ rfl rfl (fun wv hw hu => ⟨.int .i64 outer, ?_, rfl⟩) ?_
      · have tok := True.intro
        clear hw hu
        go_simp
      refine R5.pgo_pure _ rfl rfl (fun wv hw hu => ⟨.slice G great.length cg, ?_, rfl⟩) ?_
      · have tok := True.intro
        clear hw hu
        go_simp
      refine R3.pgo_op _ rfl rfl (fun K wv hw hu hK => ?_) ?_
      · have tok := True.intro
        have h5 : us 5 = .agg #[.int .i64 n, .slice A es.length cap] := hu.1
        have h6 : us 6 = .slice C rs.length ccap := hu.2.1
        have h7 : us 7 = .int .i64 outer := hu.2.2.1
        have h8 : us 8 = .slice G great.length cg := hu.2.2.2.1
        have h0 : us 5 = .agg #[.int .i64 n, .slice A es.length cap] := hu.1
        have h1 : us 6 = .slice C rs.length ccap := hu.2.1
        have h2 : us 7 = .int .i64 outer := hu.2.2.1
        have h3 : us 8 = .slice G great.length cg := hu.2.2.2.1
        have hbv := (R5.BW.in_ hw [] rfl (by kernel_rfl) : But [] w3.drew wv).undrew.below (Nat.le_refl _) (by simp)
        have SV := S3.out.next hbv
        have hGv := ((HGR.out.below hbv).more hbv.size)
        have hAN := rfits_any n A C G cap ccap cg es rs outer great wv SV.es SV.rs hr1 HR2.out hGv (by omega) (by omega)
        rw [HFB.out] at hAN
        refine wpo_call (f := 21) (args := #[.agg #[.int .i64 n, .slice A es.length cap], .slice C rs.length ccap, .int .i64 outer, .slice G great.length cg]) ?_ (hAN.mono ?_)
        · clear hK hw hu hbv SV hAN hGv
          go_simp
        rintro e z ⟨rfl, hzb⟩
        exact ⟨_, rfl, hK _ _ (But.of_below _ hzb (Nat.le_refl _)) rfl⟩
      refine R3.pgo_val _ rfl rfl (fun wv hw hu => ?_) ?_
      · have tok := True.intro
        have h4 : us 4 = .bool fb := hu.1
        have h9 : us 9 = .bool fb := hu.2.1
        refine ⟨.bool true, wv, ?_, But.refl _ _, rfl⟩
        have hfb : (fb == fb) = true := by simp
        clear hw hu
        go_simp
        try rw [hfb]
      refine R3.pgo_val _ rfl rfl (fun wv hw hu => ?_) ?_
      · have tok := True.intro
        have h10 : us 10 = .bool true := hu.1
        refine ⟨.bool true, wv, ?_, But.refl _ _, rfl⟩
        clear hw hu
        go_simp
      trivial
    · intro us w4 hw hu
      have h11 : us 11 = .bool true := hu.1
      have hb4 := (R5.BW.in_ hw [] rfl (by kernel_rfl) : But [] w3.drew w4).undrew.below (Nat.le_refl _) (by simp)
      have S4 := Lib.hid (S3.out.next hb4)
      clear hw hu hb4
      simp only [lexL]
      go_simp
      go_wp2_with fail
      go_ret
      exact ⟨rfl, S4.out.below⟩
end Go.Proofs.YtelcofkjpkdjiaaGreat
