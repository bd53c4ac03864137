import Derived.Test.YtelcofkjpkdjiaaGreatZSp12
import Derived.Test.YtelcofkjpkdjiaaGreatZRefOuts
/-
  The law ForestOuters, walked. (Printed by lawgen.py.) Written by an AI agent.
-/
namespace Go.Proofs.YtelcofkjpkdjiaaGreat
open Go.RowKit

theorem same_self2 (A B : Option Addr) (c d : Nat) (l : List Int) (w : World) (N : Nat) (ha : Cells w N A (intCells l)) (hb : Cells w N B (intCells l)) (hl : l.length ≤ 100000) :
    Calls Tryz.prog 10 #[.slice A l.length c, .slice B l.length d] w (QuietB true w) := by
  have := same_any A B c d l l w N ha hb hl hl
  rwa [decide_eq_true (rfl : l = l)] at this
/-- a list that was handed back, while nothing that was there is written -/
def R5.BFact.cells0 (L : List Int) : R5.BFact [[]] := ⟨[], fun v w => ∃ A c, v = .slice A L.length c ∧ Cells w w.heap.size A (intCells L), fun c _ v w w' hb ⟨A, c', e, hc⟩ => ⟨A, c', e, by
  have hS : ([[]] : List (List Nat)).getD c [] = [] := by cases c <;> rfl
  rw [hS] at hb
  exact (cells_butA hb hc (fun _ _ => by simp) (Nat.le_refl _)).more hb.size⟩⟩
theorem outers_all {n : Int} {es : List (Int × Int)} {rs : List (List Int)} (hf : faskB n es rs = true) : outersR n es rs = outR n es rs := by
  rcases Nat.eq_zero_or_pos es.length with h0 | h0
  · have hF : (facesOf n es rs).length = 0 := by have := faces_le (ask_right (fask_ask hf)); omega
    have e1 : outersR n es rs = [] := by
      unfold outersR
      rw [hF]
      split <;> rfl
    have e2 : outR n es rs = [] := by
      unfold outR
      rw [if_pos hf, hF]
      exact outL_neg (fr := -1) rfl (by omega)
    rw [e1, e2]
  · exact (outers_one hf h0).symm
theorem outersR_length (n : Int) (es : List (Int × Int)) (rs : List (List Int)) : (outersR n es rs).length ≤ (facesOf n es rs).length := by
  unfold outersR
  split
  · exact triesL_length _ _ _ _
  · exact Nat.zero_le _
set_option maxRecDepth 20000 in
set_option maxHeartbeats 8000000 in
theorem foutersLaw_any (n : Int) (A C : Option Addr) (cap ccap : Nat) (es : List (Int × Int)) (rs : List (List Int)) (w : World) (hcap : es.length ≤ cap) (hes : Cells w w.heap.size A (edgeCells es)) (hrs : RowsAt w w.heap.size C rs) :
    Calls Tryz.prog 3 #[.agg #[.int .i64 n, .slice A es.length cap], .slice C rs.length ccap] w (fun e w' => e = .returned (.bool true) ∧ Below w.heap.size w w') := by
  have S1 := Lib.hid (SG.start n cap hes hrs)
  have HCAP := Lib.hid hcap
  clear hes hrs hcap
  go_enter Tryz.func3, Tryz.ntmps3
  go_upto_region 1 with fail
  generalize w.alloc (.cells #[.int .i64 n, .slice A es.length cap] 24) = w1 at *
  go_wp2_with fail
  refine (speaks12_any w1).mono ?_
  rintro e w2 ⟨rfl, hb2⟩
  have S2 := Lib.hid (S1.out.next hb2)
  have g0 := S2.out.g0
  have g1 := S2.out.g1
  clear hb2 S1
  go_wp2_with fail
  refine (great2_any n A C cap ccap es rs 14 w2 S2.out.rs).mono ?_
  rintro e w3 ⟨b, rfl, hb3, hgr⟩
  have S3 := Lib.hid (S2.out.next hb3)
  clear hb3 S2 g0 g1
  have g0 := S3.out.g0
  have g1 := S3.out.g1
  cases b with
  | true =>
    clear hgr
    go_wp2_with fail
    go_ret
    exact ⟨rfl, S3.out.below⟩
  | false =>
    obtain ⟨h1, h2, h3⟩ := hgr rfl
    have hr1 : rs.length ≤ 1000 := by omega
    have HR2 := Lib.hid (show ∀ l ∈ rs, l.length ≤ 1000 from fun l hl => by have := h3 l hl; omega)
    clear hgr h3
    go_wp2_with fail
    refine (rfask_any n A C cap ccap es rs w3 S3.out.es S3.out.rs hr1 HR2.out).mono ?_
    rintro e w4 ⟨rfl, hb4⟩
    have S4 := Lib.hid (S3.out.next hb4)
    clear hb4 S3 g0 g1
    have g0 := S4.out.g0
    have g1 := S4.out.g1
    cases ha : faskB n es rs with
    | false =>
      clear ha
      go_wp2_with fail
      go_ret
      exact ⟨rfl, S4.out.below⟩
    | true =>
      have HA := Lib.hid ha
      have HFL := Lib.hid (faces_le (ask_right (fask_ask ha)))
      clear ha
      have HP := Lib.hid (ask_right (fask_ask HA.out))
      have hn : n = (rs.length : Int) := HP.out.len.symm
      have HO1 := Lib.hid (fun W he hr => fOuters_any n A C cap ccap es rs W he hr hr1 HR2.out HCAP.out)
      have HO2 := Lib.hid (fun W he hr => refOuters_any2 n A C cap ccap es rs W he hr hr1 HR2.out HP.out)
      have HLE := Lib.hid (outers_all HA.out)
      rw [HLE.out] at HO2
      have hLl : (outR n es rs).length ≤ 100000 := by
        rw [← HLE.out]
        have := outersR_length n es rs
        have := HFL.out
        omega
      generalize outR n es rs = L at *
      have HG := Lib.hid S4.out.b
      clear hn HLE
      go_upto_region 5 with fail
      clear g0 g1
      refine R5.wp_region_b [[]] [0, 0, 0, 0, 0, 0, 0, 0]
        [([], .val (.agg #[.int .i64 n, .slice A es.length cap])), ([], .val (.slice C rs.length ccap)), ([0, 1], .cells0 L), ([], .val (.agg #[.int .i64 n, .slice A es.length cap])), ([], .val (.slice C rs.length ccap)), ([3, 4], .cells0 L), ([2, 5], .val (.bool true)), ([6], .val (.bool true))] [7] (by kernel_rfl) (by kernel_rfl) (fun us => ?_) ?_
      · refine R5.pgo_pure _ rfl rfl (fun wv hw hu => ⟨.agg #[.int .i64 n, .slice A es.length cap], ?_, rfl⟩) ?_
        · have tok := True.intro
          have zy0 : wv.cell? ⟨w.heap.size, 0, none⟩ = some (.int .i64 n) := ((R5.BW.in_ hw [] rfl (by kernel_rfl)).blk HG.out.drew (by simp)).cell 0
          have zy1 : wv.cell? ⟨w.heap.size, 1, none⟩ = some (.slice A es.length cap) := ((R5.BW.in_ hw [] rfl (by kernel_rfl)).blk HG.out.drew (by simp)).cell 1
          clear hw hu
          go_simp
        refine R5.pgo_pure _ rfl rfl (fun wv hw hu => ⟨.slice C rs.length ccap, ?_, rfl⟩) ?_
        · have tok := True.intro
          clear hw hu
          go_simp
        refine R3.pgo_op _ rfl rfl (fun K wv hw hu hK => ?_) ?_
        · have tok := True.intro
          have h0 : us 0 = .agg #[.int .i64 n, .slice A es.length cap] := hu.1
          have h1 : us 1 = .slice C rs.length ccap := hu.2.1
          have hbv := ((R5.BW.in_ hw [] rfl (by kernel_rfl)) : But [] w4.drew wv).undrew.below (Nat.le_refl _) (by simp)
          have SV := S4.out.next hbv
          refine wpo_call (f := 11) (args := #[.agg #[.int .i64 n, .slice A es.length cap], .slice C rs.length ccap]) ?_ ((HO1.out wv SV.es SV.rs).mono ?_)
          · clear hK hw hu hbv SV
            go_simp
          intro e z hz
          obtain ⟨Z, z1, rfl, hzb, hzc⟩ : OutersQ L wv e z := hz
          exact ⟨_, rfl, hK _ _ (But.of_below _ hzb (Nat.le_refl _)) ⟨_, _, rfl, hzc⟩⟩
        refine R5.pgo_pure _ rfl rfl (fun wv hw hu => ⟨.agg #[.int .i64 n, .slice A es.length cap], ?_, rfl⟩) ?_
        · have tok := True.intro
          have zy0 : wv.cell? ⟨w.heap.size, 0, none⟩ = some (.int .i64 n) := ((R5.BW.in_ hw [] rfl (by kernel_rfl)).blk HG.out.drew (by simp)).cell 0
          have zy1 : wv.cell? ⟨w.heap.size, 1, none⟩ = some (.slice A es.length cap) := ((R5.BW.in_ hw [] rfl (by kernel_rfl)).blk HG.out.drew (by simp)).cell 1
          clear hw hu
          go_simp
        refine R5.pgo_pure _ rfl rfl (fun wv hw hu => ⟨.slice C rs.length ccap, ?_, rfl⟩) ?_
        · have tok := True.intro
          clear hw hu
          go_simp
        refine R3.pgo_op _ rfl rfl (fun K wv hw hu hK => ?_) ?_
        · have tok := True.intro
          have h3 : us 3 = .agg #[.int .i64 n, .slice A es.length cap] := hu.1
          have h4 : us 4 = .slice C rs.length ccap := hu.2.1
          have hbv := ((R5.BW.in_ hw [] rfl (by kernel_rfl)) : But [] w4.drew wv).undrew.below (Nat.le_refl _) (by simp)
          have SV := S4.out.next hbv
          refine wpo_call (f := 12) (args := #[.agg #[.int .i64 n, .slice A es.length cap], .slice C rs.length ccap]) ?_ ((HO2.out wv SV.es SV.rs).mono ?_)
          · clear hK hw hu hbv SV
            go_simp
          intro e z hz
          obtain ⟨Z, z1, rfl, hzb, hzc⟩ : OutersQ L wv e z := hz
          exact ⟨_, rfl, hK _ _ (But.of_below _ hzb (Nat.le_refl _)) ⟨_, _, rfl, hzc⟩⟩
        refine R3.pgo_op _ rfl rfl (fun K wv hw hu hK => ?_) ?_
        · have tok := True.intro
          obtain ⟨X1, x1, h2, hc1⟩ := hu.1
          obtain ⟨X2, x2, h5, hc2⟩ := hu.2.1
          refine wpo_call (f := 10) (args := #[.slice X1 L.length x1, .slice X2 L.length x2]) ?_ ((same_self2 X1 X2 x1 x2 L wv wv.heap.size hc1 hc2 hLl).mono ?_)
          · clear hK hw hu hc1 hc2
            go_simp
          rintro e z ⟨rfl, m, rfl⟩
          exact ⟨_, rfl, hK _ _ (But.drewN (But.refl _ _) m) rfl⟩
        refine R5.pgo_pure _ rfl rfl (fun wv hw hu => ⟨.bool true, ?_, rfl⟩) ?_
        · have tok := True.intro
          have h6 : us 6 = .bool true := hu.1
          clear hw hu
          go_simp
        trivial
      · intro us w6 hw hu
        have h7 : us 7 = .bool true := hu.1
        have hb6 := (R5.BW.in_ hw [] rfl (by kernel_rfl) : But [] w4.drew w6).undrew.below (Nat.le_refl _) (by simp)
        have S6 := Lib.hid (S4.out.next hb6)
        clear hw hu hb6
        simp only [lexL]
        go_simp
        go_wp2_with fail
        go_ret
        exact ⟨by first | rfl | (rw [h7]; rfl), S6.out.below⟩
end Go.Proofs.YtelcofkjpkdjiaaGreat
