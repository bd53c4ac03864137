import Derived.Test.YtelcofkjpkdjiaaZAsg
/-
  Law AngleTells: walked. Written by an AI agent.
-/
namespace Go.Proofs.Ytelcofkjpkdjiaa
open Go.RowKit

set_option maxRecDepth 20000 in
set_option maxHeartbeats 8000000 in
theorem angTells_any (n : Int) (A C : Option Addr) (cap ccap : Nat) (es : List (Int × Int)) (rs : List (List Int)) (w : World) (hes : Cells w w.heap.size A (edgeCells es)) (hrs : RowsAt w w.heap.size C rs) :
    Calls Try.prog 3 #[.agg #[.int .i64 n, .slice A es.length cap], .slice C rs.length ccap] w (fun e w' => e = .returned (.bool true) ∧ Below w.heap.size w w') := by
  have S1 := Lib.hid (SG.start n cap hes hrs)
  clear hes hrs
  go_enter Try.func3, Try.ntmps3
  go_upto_region 1 with fail
  generalize w.alloc (.cells #[.int .i64 n, .slice A es.length cap] 24) = w1 at *
  go_wp2_with fail
  refine (speaks6_any w1).mono ?_
  rintro e w2 ⟨rfl, hb2⟩
  have S2 := Lib.hid (S1.out.next hb2)
  have g0 := S2.out.g0
  have g1 := S2.out.g1
  clear hb2 S1
  go_wp2_with fail
  refine (great2_any n A C cap ccap es rs 60 w2 S2.out.rs).mono ?_
  rintro e w3 ⟨b, rfl, hb3, hgr⟩
  have S3 := Lib.hid (S2.out.next hb3)
  clear hb3 S2 g0 g1
  have g0 := S3.out.g0
  have g1 := S3.out.g1
  cases b with
  | true =>
    clear hgr
    go_wp2_with fail
    go_ret
    exact ⟨rfl, S3.out.below⟩
  | false =>
    obtain ⟨h1, h2, h3⟩ := hgr rfl
    have hr1 : rs.length ≤ 1000 := by omega
    have HR2 := Lib.hid (show ∀ l ∈ rs, l.length ≤ 1000 from fun l hl => by have := h3 l hl; omega)
    clear hgr h3
    go_wp2_with fail
    refine (odd_any n A C cap ccap es rs w3 S3.out.es S3.out.rs hr1 HR2.out).mono ?_
    rintro e w4 ⟨rfl, hb4⟩
    have S4 := Lib.hid (S3.out.next hb4)
    clear hb4 S3 g0 g1
    have g0 := S4.out.g0
    have g1 := S4.out.g1
    cases ha : askA n es rs with
    | false =>
      have HA := Lib.hid ha
      clear ha
      go_wp2_with fail
      refine (bimo_any n A C cap ccap es rs w4 S4.out.es S4.out.rs hr1 HR2.out).mono ?_
      rw [HA.out]
      rintro e w5 ⟨rfl, hb5⟩
      have S5 := Lib.hid (S4.out.next hb5)
      clear hb5 S4 g0 g1
      have g0 := S5.out.g0
      have g1 := S5.out.g1
      go_wp2_with fail
      refine (angs_any n A C cap ccap es rs w5 S5.out.es S5.out.rs hr1 HR2.out).mono ?_
      have har : angR n es rs = [] := by unfold angR; rw [HA.out]; rfl
      rw [har]
      rintro e w6 ⟨A6, c6, rfl, hb6, _⟩
      have S6 := Lib.hid (S5.out.next hb6)
      clear hb6 S5 g0 g1
      go_wp2_with fail
      go_ret
      exact ⟨rfl, S6.out.below⟩
    | true =>
      have HA := Lib.hid ha
      have HP := Lib.hid (ask_right ha)
      have har : angR n es rs = angL n es rs := by unfold angR; rw [if_pos ha]
      have HAR := Lib.hid har
      have hal := angL_length n es rs
      have HAL := Lib.hid hal
      clear ha har hal
      have hl4 := S4.out.lt
      have KS := Lib.hid (show ∀ w', Below w4.heap.size w4 w' → w'.cell? ⟨w.heap.size, 0, none⟩ = some (.int .i64 n) ∧ w'.cell? ⟨w.heap.size, 1, none⟩ = some (.slice A es.length cap) from fun w' h => ⟨(h.cell (p := ⟨w.heap.size, 0, none⟩) hl4).trans g0, (h.cell (p := ⟨w.heap.size, 1, none⟩) hl4).trans g1⟩)
      go_wp2_with fail
      go_region_held3 (fun w' => w'.cell? ⟨w.heap.size, 0, none⟩ = some (.int .i64 n) ∧ w'.cell? ⟨w.heap.size, 1, none⟩ = some (.slice A es.length cap))
        (first | exact ⟨g0, g1⟩ | exact KS.out _ hb56 | exact KS.out _ hb5)
        (first
          | (go_at_call 13; refine (angs_any n A C cap ccap es rs _ (by exact S4.out.es) (by exact S4.out.rs) hr1 HR2.out).mono ?_; rintro e w5 ⟨A5, c5, rfl, hb5', hc5, _⟩; have hb5 := below_undrew hb5'; clear hb5')
          | (go_at_call 14; refine (refAngs_any n A C cap ccap es rs _ (by exact (S4.out.next hb5).es) (by exact (S4.out.next hb5).rs) hr1 HR2.out HP.out).mono ?_; rintro e w6 ⟨A6, c6, rfl, hb6, hc6, _⟩; have hb56 := hb5.trans (hb6.mono hb5.size)))
      rw [HAR.out, HAL.out]
      rw [HAR.out, angL_qu] at hc5
      rw [angL_qu] at hc6
      have S6 := Lib.hid (S4.out.next hb56)
      have HC5 := Lib.hid ((hc5.below hb6).more hb6.size)
      have HC6 := Lib.hid hc6
      have hl6 := S6.out.lt
      clear g0 g1 hb5 hb6 hb56 hc5 hc6 KS hl4
      have g0 := S6.out.g0
      have g1 := S6.out.g1
      have KS := Lib.hid (show ∀ w', Below w6.heap.size w6 w' → w'.cell? ⟨w.heap.size, 0, none⟩ = some (.int .i64 n) ∧ w'.cell? ⟨w.heap.size, 1, none⟩ = some (.slice A es.length cap) from fun w' h => ⟨(h.cell (p := ⟨w.heap.size, 0, none⟩) hl6).trans g0, (h.cell (p := ⟨w.heap.size, 1, none⟩) hl6).trans g1⟩)
      obtain ⟨M, hM⟩ : ∃ M, M = 2 * es.length := ⟨_, rfl⟩
      rw [← hM] at HC5 HC6
      rw [← hM]
      have hM1 : M ≤ 120 := by omega
      have hne : ((M : Int) != (M : Int)) = false := by simp
      clear hM
      go_wp2_with fail
      go_region_held3 (fun w' => w'.cell? ⟨w.heap.size, 0, none⟩ = some (.int .i64 n) ∧ w'.cell? ⟨w.heap.size, 1, none⟩ = some (.slice A es.length cap))
        (first | exact ⟨g0, g1⟩ | exact KS.out _ hb78 | exact KS.out _ hb7)
        (first
          | (go_at_call 12; refine (bimo_any n A C cap ccap es rs _ (by exact S6.out.es) (by exact S6.out.rs) hr1 HR2.out).mono ?_; rintro e w7 ⟨rfl, hb7'⟩; have hb7 := below_undrew hb7'; clear hb7')
          | (go_at_call 15; refine (refBim_any n A C cap ccap es rs _ (by exact (S6.out.next hb7).es) (by exact (S6.out.next hb7).rs) hr1 HR2.out HP.out).mono ?_; rintro e w8 ⟨rfl, hb8⟩; have hb78 := hb7.trans (hb8.mono hb7.size)))
      have S8 := Lib.hid (S6.out.next hb78)
      have HC58 := Lib.hid ((HC5.out.below hb78).more hb78.size)
      have HC68 := Lib.hid ((HC6.out.below hb78).more hb78.size)
      rw [HA.out, Bool.true_and]
      clear g0 g1 hb7 hb8 hb78 KS
      generalize bimB rs = bb at *
      simp only [beq_self_eq_true, Bool.not_true, bne_self_eq_false]
      go_wp2_with fail

      go_loopg [50] M (fun k s50 wr => ∃ i : Nat, s50 = .int .i64 i ∧ i ≤ M ∧ k = M - i ∧ Below w8.heap.size w8 wr)
      case atStart => exact ⟨0, rfl, Nat.zero_le _, rfl, Below.refl _ _⟩
      case round =>
        obtain ⟨i, rfl, hi, hk, hb⟩ := hrel
        have Hk := Lib.hid hk
        have SW := Lib.hid (S8.out.next hb)
        have HB := Lib.hid hb
        clear hk hb
        by_cases hil : i < M
        · have hil' : (i : Int) < M := by omega
          obtain ⟨b5, o5, rfl, hb5, hc5⟩ := (HC58.out.below HB.out).qu (by omega)
          obtain ⟨b6, o6, rfl, hb6, hc6⟩ := (HC68.out.below HB.out).qu (by omega)
          obtain ⟨d0, d1, d2, d3⟩ := hc5 i hil
          obtain ⟨e0, e1, e2, e3⟩ := hc6 i hil
          have hszw := HB.out.size
          have hb6w : b6 < wr.heap.size := by omega
          generalize vtx es i = v at *
          generalize angF n es rs i = fc at *
          generalize angK es rs i = kd at *
          have HA4 := Lib.hid (Blk.new wr 35 #[.int .i64 (i : Int), .int .i64 (v : Nat), .int .i64 (fc : Nat), .int .i64 (kd : Nat)])
          have hb4 := (Below.refl wr.heap.size wr).alloc (Nat.le_refl _) (.cells #[.int .i64 (i : Int), .int .i64 (v : Nat), .int .i64 (fc : Nat), .int .i64 (kd : Nat)] 35)
          have HB4 := Lib.hid (HB.out.trans (hb4.mono hszw))
          have e0' := (hb4.cell (p := ⟨b6, o6 + i * 4, none⟩) hb6w).trans e0
          have e1' := (hb4.cell (p := ⟨b6, o6 + i * 4 + 1, none⟩) hb6w).trans e1
          have e2' := (hb4.cell (p := ⟨b6, o6 + i * 4 + 2, none⟩) hb6w).trans e2
          have e3' := (hb4.cell (p := ⟨b6, o6 + i * 4 + 3, none⟩) hb6w).trans e3
          clear hc5 hc6 hb4
          go_upto_region 13 with fail
          obtain ⟨gA, hgA⟩ : ∃ gA, gA = wr.heap.size := ⟨_, rfl⟩
          rw [← hgA] at HA4
          rw [← hgA]
          generalize wr.alloc (.cells #[.int .i64 (i : Int), .int .i64 (v : Nat), .int .i64 (fc : Nat), .int .i64 (kd : Nat)] 35) = w9 at *
          have a0 := HA4.out.cell 0
          have a1 := HA4.out.cell 1
          have a2 := HA4.out.cell 2
          have a3 := HA4.out.cell 3
          simp only [List.getElem?_toArray, List.getElem?_cons_zero, List.getElem?_cons_succ] at a0 a1 a2 a3
          have n0 : ((i : Int) != (i : Int)) = false := by simp
          have n1 : ((v : Int) != (v : Int)) = false := by simp
          have n2 : ((fc : Int) != (fc : Int)) = false := by simp
          have n3 : ((kd : Int) != (kd : Int)) = false := by simp
          clear hgA d0 d1 d2 d3 e0 e1 e2 e3
          go_quiet (fail)
          have HBN := Lib.hid (below_drewN HB4.out nq)
          go_wp2_with fail
          go_roundg (M - (i + 1))
          case measure => rw [Hk.out]; omega
          case rel => exact ⟨i + 1, by go_num, by omega, rfl, HBN.out⟩
        · have hie : i = M := by omega
          have hil' : ¬ (i : Int) < M := by omega
          clear hie
          go_wp2_with fail
          go_ret
          exact ⟨rfl, SW.out.below⟩
end Go.Proofs.Ytelcofkjpkdjiaa
