import Derived.Test.YtelcofkjpkdjiaaZSp12
import Derived.Test.YtelcofkjpkdjiaaZRpt
/-
  The law ForestParts, walked. Written by an AI agent.
-/
namespace Go.Proofs.Ytelcofkjpkdjiaa
open Go.RowKit

theorem PartR.part {w : World} {B m g cap : Nat} {rl : Nat → List Int} {an : Nat → Nat} {rv : Nat → Value} (h : PartR w B (.slice (some ⟨g, 0, none⟩) m cap) m m rl an rv) {k j : Nat} (hk : k < m) (hj : j < 2) :
    ∃ A c, w.cell? ⟨g, 3 * k + j, none⟩ = some (.slice A (rl (2 * k + j)).length c) ∧ Cells w w.heap.size A (intCells (rl (2 * k + j))) := by
  have ho := h.rows.own (2 * k + j) (by simp; omega) (by simp; omega)
  simp only [List.getElem_map, List.getElem_range] at ho
  have hc : w.cell? ⟨g, 3 * k + j, none⟩ = some (rv (2 * k + j)) := (h.own.cellAt _ (by omega)).trans (tri_row hk hj)
  obtain ⟨A, c, e⟩ := own_slice ho
  rw [e] at hc ho
  exact ⟨A, c, hc, Cells.of_own ho⟩
theorem PartR.cellN {w : World} {B m g cap : Nat} {rl : Nat → List Int} {an : Nat → Nat} {rv : Nat → Value} (h : PartR w B (.slice (some ⟨g, 0, none⟩) m cap) m m rl an rv) {k : Nat} (hk : k < m) : w.cell? ⟨g, 3 * k + 2, none⟩ = some (.int .i64 (an k : Nat)) := (h.own.cellAt _ (by omega)).trans (tri_num hk)
theorem PartR.form {w : World} {B m : Nat} {v : Value} {rl : Nat → List Int} {an : Nat → Nat} {rv : Nat → Value} (h : PartR w B v m m rl an rv) (hm : 0 < m) : ∃ g cap, v = .slice (some ⟨g, 0, none⟩) m cap ∧ B ≤ g := by
  obtain ⟨g, cap, R, hv, hg, _⟩ := own_blk h.own hm
  exact ⟨g, cap, hv, hg⟩
theorem same_self (A B : Option Addr) (c d : Nat) (l : List Int) (w : World) (N : Nat) (ha : Cells w N A (intCells l)) (hb : Cells w N B (intCells l)) (hl : l.length ≤ 100000) :
    Calls Try.prog 27 #[.slice A l.length c, .slice B l.length d] w (QuietB true w) := by
  have := same_any A B c d l l w N ha hb hl hl
  rwa [decide_eq_true (rfl : l = l)] at this
set_option maxRecDepth 20000 in
set_option maxHeartbeats 8000000 in
theorem fpartsLaw_any (n : Int) (A C : Option Addr) (cap ccap : Nat) (es : List (Int × Int)) (rs : List (List Int)) (w : World) (hcap : es.length ≤ cap) (hes : Cells w w.heap.size A (edgeCells es)) (hrs : RowsAt w w.heap.size C rs) :
    Calls Try.prog 7 #[.agg #[.int .i64 n, .slice A es.length cap], .slice C rs.length ccap] w (fun e w' => e = .returned (.bool true) ∧ Below w.heap.size w w') := by
  have S1 := Lib.hid (SG.start n cap hes hrs)
  have HCAP := Lib.hid hcap
  clear hes hrs hcap
  go_enter Try.func7, Try.ntmps7
  go_upto_region 1 with fail
  generalize w.alloc (.cells #[.int .i64 n, .slice A es.length cap] 24) = w1 at *
  go_wp2_with fail
  refine (speaks12_any w1).mono ?_
  rintro e w2 ⟨rfl, hb2⟩
  have S2 := Lib.hid (S1.out.next hb2)
  have g0 := S2.out.g0
  have g1 := S2.out.g1
  clear hb2 S1
  go_wp2_with fail
  refine (great2_any n A C cap ccap es rs 40 w2 S2.out.rs).mono ?_
  rintro e w3 ⟨b, rfl, hb3, hgr⟩
  have S3 := Lib.hid (S2.out.next hb3)
  clear hb3 S2 g0 g1
  have g0 := S3.out.g0
  have g1 := S3.out.g1
  cases b with
  | true =>
    clear hgr
    go_wp2_with fail
    go_ret
    exact ⟨rfl, S3.out.below⟩
  | false =>
    obtain ⟨h1, h2, h3⟩ := hgr rfl
    have hr1 : rs.length ≤ 1000 := by omega
    have HR2 := Lib.hid (show ∀ l ∈ rs, l.length ≤ 1000 from fun l hl => by have := h3 l hl; omega)
    clear hgr h3
    go_wp2_with fail
    refine (fParts_any n A C cap ccap es rs w3 S3.out.es S3.out.rs hr1 HR2.out HCAP.out).mono ?_
    rintro e w4 ⟨v, rfl, hb4, hvf, hvt⟩
    have S4 := Lib.hid (S3.out.next hb4)
    clear hb4 S3 g0 g1
    have g0 := S4.out.g0
    have g1 := S4.out.g1
    cases ha : faskB n es rs with
    | false =>
      have HA := Lib.hid ha
      obtain rfl := hvf ha
      have HZ := Lib.hid (show outR n es rs = [] by unfold outR; rw [ha]; rfl)
      clear ha hvf hvt
      go_wp2_with fail
      refine (rfask_any n A C cap ccap es rs w4 S4.out.es S4.out.rs hr1 HR2.out).mono ?_
      rw [HA.out]
      rintro e w5 ⟨rfl, hb5⟩
      have S5 := Lib.hid (S4.out.next hb5)
      clear hb5 S4 g0 g1
      have g0 := S5.out.g0
      have g1 := S5.out.g1
      go_wp2_with fail
      refine (fOuters_any n A C cap ccap es rs w5 S5.out.es S5.out.rs hr1 HR2.out HCAP.out).mono ?_
      rw [HZ.out]
      rintro e w6 ⟨A6, c6, rfl, hb6, _⟩
      have S6 := Lib.hid (S5.out.next hb6)
      clear hb6 S5 g0 g1
      go_wp2_with fail
      go_ret
      exact ⟨rfl, S6.out.below⟩
    | true =>
      have HA := Lib.hid ha
      obtain ⟨rv, hpm⟩ := hvt ha
      have HPM := Lib.hid hpm
      have HFB := Lib.hid (show (facesOf n es rs).length ≤ 1000 by
        have h5 := ask_right (fask_ask ha)
        have h6 := faces_le h5
        omega)
      clear ha hvf hvt hpm
      go_wp2_with fail
      refine (rfask_any n A C cap ccap es rs w4 S4.out.es S4.out.rs hr1 HR2.out).mono ?_
      rw [HA.out]
      rintro e w5 ⟨rfl, hb5⟩
      have HPM5 := Lib.hid (HPM.out.below hb5 (Nat.le_refl _))
      have S5 := Lib.hid (S4.out.next hb5)
      clear hb5 S4 g0 g1 HPM
      have g0 := S5.out.g0
      have g1 := S5.out.g1
      go_wp2_with fail
      refine (refParts_any n A C cap ccap es rs w5 S5.out.es S5.out.rs hr1 HR2.out HA.out).mono ?_
      rintro e w6 ⟨v6, rfl, hb6, rv6, hpr⟩
      have HPM6 := Lib.hid (HPM5.out.below hb6 (Nat.le_refl _))
      have HPR6 := Lib.hid hpr
      have S6 := Lib.hid (S5.out.next hb6)
      clear hb6 hpr S5 g0 g1 HPM5
      have HPF := Lib.hid (show pos (roH (facesOf n es rs).length ((angR n es rs).filter hiQ)) (facesOf n es rs).length ≤ (facesOf n es rs).length from pos_le _)
      generalize roH (facesOf n es rs).length ((angR n es rs).filter hiQ) = ro at *
      generalize (angR n es rs).filter hiQ = H at *
      generalize (facesOf n es rs).length = F at *
      obtain ⟨m, hm⟩ : ∃ m, m = pos ro F := ⟨_, rfl⟩
      rw [← hm] at HPM6 HPR6 HPF
      clear hm
      have hmF : m ≤ 1000 := by have := HPF.out; have := HFB.out; omega
      obtain ⟨A1, c1, rfl⟩ := own_slice HPM6.out.own
      obtain ⟨A2, c2, rfl⟩ := own_slice HPR6.out.own
      have hmm : ((m : Int) != (m : Int)) = false := by simp
      go_wp2_with fail
      go_loopg [40] m (fun k s40 wr => ∃ j : Nat, s40 = .int .i64 j ∧ j ≤ m ∧ k = m - j ∧ Below w6.heap.size w6 wr)
      case atStart => exact ⟨0, rfl, Nat.zero_le _, rfl, Below.refl _ _⟩
      case round =>
        obtain ⟨j, rfl, hj, hk, hb⟩ := hrel
        have Hk := Lib.hid hk
        have HB := Lib.hid hb
        clear hk hb
        by_cases hlt : j < m
        · have hlt' : (j : Int) < m := by omega
          obtain ⟨p1, q1, hv1, _⟩ := HPM6.out.form (by omega)
          obtain ⟨p2, q2, hv2, _⟩ := HPR6.out.form (by omega)
          injection hv1 with e1 _ e2
          injection hv2 with e3 _ e4
          subst e1 e2 e3 e4
          have HPM7 := Lib.hid (HPM6.out.below HB.out (Nat.le_refl _))
          have HPR7 := Lib.hid (HPR6.out.below HB.out (Nat.le_refl _))
          obtain ⟨X1, x1, z1, hz1⟩ := HPM7.out.part (k := j) (j := 0) hlt (by omega)
          obtain ⟨X2, x2, z2, hz2⟩ := HPM7.out.part (k := j) (j := 1) hlt (by omega)
          obtain ⟨Y1, y1, z3, hz3⟩ := HPR7.out.part (k := j) (j := 0) hlt (by omega)
          obtain ⟨Y2, y2, z4, hz4⟩ := HPR7.out.part (k := j) (j := 1) hlt (by omega)
          have z5 := HPM7.out.cellN hlt
          have z6 := HPR7.out.cellN hlt
          rw [Nat.add_zero, Nat.add_zero] at z1 z3
          rw [Nat.add_zero] at hz1 hz3
          rw [Nat.mul_comm 3 j] at z1 z2 z3 z4 z5 z6
          have hl1 : (rlB ro F rs.length (2 * j)).length ≤ 100000 := by rw [rlB_even]; exact Nat.le_trans (rlF_length _ _) (by have := HFB.out; omega)
          have hl2 : (rlB ro F rs.length (2 * j + 1)).length ≤ 100000 := by rw [rlB_odd]; exact Nat.le_trans (rlV_length _ _ _) (by omega)
          generalize rlB ro F rs.length (2 * j) = f1 at *
          generalize rlB ro F rs.length (2 * j + 1) = f2 at *
          generalize cA ro H j = an at *
          have HQ1 := Lib.hid (fun k => same_self X1 Y1 x1 y1 f1 (wr.drewN k) (wr.drewN k).heap.size ((hz1.below (below_drewN (Below.refl wr.heap.size wr) k)).more (below_drewN (Below.refl wr.heap.size wr) k).size) ((hz3.below (below_drewN (Below.refl wr.heap.size wr) k)).more (below_drewN (Below.refl wr.heap.size wr) k).size) hl1)
          have HQ2 := Lib.hid (fun k => same_self X2 Y2 x2 y2 f2 (wr.drewN k) (wr.drewN k).heap.size ((hz2.below (below_drewN (Below.refl wr.heap.size wr) k)).more (below_drewN (Below.refl wr.heap.size wr) k).size) ((hz4.below (below_drewN (Below.refl wr.heap.size wr) k)).more (below_drewN (Below.refl wr.heap.size wr) k).size) hl2)
          have hne : ((an : Int) != (an : Int)) = false := by simp
          clear hz1 hz2 hz3 hz4 HPM7 HPR7 hl1 hl2
          go_upto_region 14 with fail
          go_quiet (first
            | (go_at_call_of 27 (Value.slice X1 f1.length x1); exact Calls.quiet_of (HQ1.out _))
            | (go_at_call_of 27 (Value.slice X2 f2.length x2); exact Calls.quiet_of (HQ2.out _)))
          have HBN := Lib.hid (below_drewN HB.out nq)
          go_wp2_with fail
          go_roundg (m - (j + 1))
          case measure => rw [Hk.out]; omega
          case rel => exact ⟨j + 1, by go_num, by omega, rfl, HBN.out⟩
        · have hlt' : ¬ (j : Int) < m := by omega
          have S7 := Lib.hid (S6.out.next HB.out)
          clear hlt
          go_wp2_with fail
          go_ret
          exact ⟨rfl, S7.out.below⟩
end Go.Proofs.Ytelcofkjpkdjiaa
