/-
  Law PosetLevels: walked. Written by an AI agent.
-/
import Derived.Test.YtnjikhhegebkiaaDoorLawSt
import Derived.Test.YtnjikhhegebkiaaDoorRefLong
namespace Go.Proofs.YtnjikhhegebkiaaDoor
open Go.RowKit

theorem sameR_is (A B : Option Addr) (c d : Nat) (R : List Int) (w : World) (N : Nat) (ha : Cells w N A (intCells R)) (hb : Cells w N B (intCells R)) (hl : R.length ≤ 100000) {m : Nat} (hm : R.length = m) :
    Calls Tryd.prog 18 #[.slice A m c, .slice B m d] w (QuietB true w) := by
  subst hm
  have := same_any A B c d R R w N ha hb hl hl
  rwa [decide_eq_true rfl] at this
set_option maxRecDepth 20000 in
set_option maxHeartbeats 4000000 in
theorem levelsL_any (n : Int) (A : Option Addr) (cap : Nat) (es : List (Int × Int)) (w : World) (hes : Cells w w.heap.size A (edgeCells es)) (hT : Tab w) (hp : 0 < w.heap.size) :
    Calls Tryd.prog 6 #[.agg #[.int .i64 n, .slice A es.length cap]] w (fun e w' => e = .returned (.bool true) ∧ Below w.heap.size w w') := by
  have S1 := Lib.hid (St0.start n cap hes hT hp)
  clear hes hT hp
  go_enter Tryd.func6, Tryd.ntmps6
  go_upto_region 1 with fail
  generalize w.alloc (.cells #[.int .i64 n, .slice A es.length cap] 24) = w1 at *
  go_wp2_with fail
  refine (speaks_any w1 S1.out.tab S1.out.pos).mono ?_
  rintro e w2 ⟨rfl, hb⟩
  have S2 := Lib.hid (S1.out.next hb)
  have g0 := S2.out.g0
  have g1 := S2.out.g1
  clear hb S1
  by_cases hl : (es.length : Int) > 200
  · go_wp2_with fail
    go_ret
    exact ⟨rfl, S2.out.below⟩
  · have hl2 : es.length ≤ 1000 := by omega
    have hl' : ¬ (200 : Int) < es.length := by omega
    go_wp2_with fail
    refine (levels_any n A cap es w2 S2.out.es).mono ?_
    rintro e w3 ⟨v3, rfl, hb, hy3, hn3⟩
    have S3 := Lib.hid (S2.out.next hb)
    have g0 := S3.out.g0
    have g1 := S3.out.g1
    have HY3 := Lib.hid hy3
    have HN3 := Lib.hid hn3
    clear hb S2 hy3 hn3
    go_wp2_with fail
    refine (longest_any n A cap es w3 S3.out.es).mono ?_
    rintro e w4 ⟨v4, rfl, hb, hy4, hn4⟩
    have S4 := Lib.hid (S3.out.next hb)
    have g0 := S4.out.g0
    have g1 := S4.out.g1
    have HY4 := Lib.hid hy4
    have HN4 := Lib.hid hn4
    have HBX := Lib.hid hb
    clear hb hy4 hn4
    go_wp2_with fail
    refine (asked_ref n A cap es w4 S4.out.es hl2).mono ?_
    rintro e w5 ⟨rfl, hb⟩
    have S5 := Lib.hid (S4.out.next hb)
    have g0 := S5.out.g0
    have g1 := S5.out.g1
    have HBY := Lib.hid hb
    clear hb
    cases ha : askB n es with
    | false =>
      have hv3 := HN3.out ha
      have hv4 := HN4.out ha
      subst hv3 hv4
      have HA := Lib.hid ha
      rw [show errOf false = 1 from rfl]
      clear ha HY3 HY4
      go_wp2_with fail
      refine (chains_any n A cap es w5 S5.out.es S5.out.tab S5.out.pos).mono ?_
      rintro e w6 ⟨v6, rfl, hb6, hn6, _⟩
      have hv6 := hn6 HA.out
      subst hv6
      rw [show errOf (askB n es) = 1 by rw [HA.out]; rfl]
      have S6 := Lib.hid (S5.out.next hb6)
      have g0 := S6.out.g0
      have g1 := S6.out.g1
      clear hn6 hb6
      go_wp2_with fail
      refine (apart_any n A cap es w6 S6.out.es S6.out.tab S6.out.pos).mono ?_
      rintro e w7 ⟨v7, rfl, hb7, hn7, _⟩
      have hv7 := hn7 HA.out
      subst hv7
      rw [show errOf (askB n es) = 1 by rw [HA.out]; rfl]
      have S7 := Lib.hid (S6.out.next hb7)
      clear hn7 hb7
      go_wp2_with fail
      go_ret
      exact ⟨rfl, S7.out.below⟩
    | true =>
      obtain ⟨k, rfl, hk0, hk1, hk2, hin, hord⟩ := ask_parts ha
      have ho3 := HY3.out ha
      have ho4 := HY4.out ha
      simp only [Int.toNat_natCast] at ho3 ho4
      have HIN := Lib.hid (show EdgesIn k es from hin)
      have HOR := Lib.hid hord
      rw [show errOf true = 0 from rfl]
      have hll := levF_length k es
      have HLR := Lib.hid (levR_eq (show EdgesIn k es from hin) hord)
      obtain ⟨Lv, hLv⟩ : ∃ y, y = levF k es := ⟨_, rfl⟩
      obtain ⟨Lo, hLo⟩ : ∃ y, y = longF k es (levF k es) := ⟨_, rfl⟩
      rw [← hLv] at ho3 hll HLR
      rw [← hLo] at ho4
      have hol : Lo.length ≤ 100000 := by
        have := wayF_length k es (levF k es) ((levF k es).getD (topF (levF k es)).toNat 0).toNat (topF (levF k es))
        rw [hLo, longF, List.length_reverse, this]
        by_cases h : (topF (levF k es)).toNat < k
        · have := levF_lt (show EdgesIn k es from hin) hord h
          omega
        · rw [List.getD_eq_getElem?_getD, List.getElem?_eq_none (by rw [levF_length]; omega)]
          show (0 : Int).toNat + 1 ≤ _
          omega
      obtain ⟨A3, c3, rfl⟩ := own_slice ho3
      obtain ⟨A4, c4, rfl⟩ := own_slice ho4
      have hC3 : Cells w5 w5.heap.size A3 (intCells Lv) := by
        rw [← hll] at ho3
        exact ((Cells.of_own ho3).below HBX.out |>.more HBX.out.size).below HBY.out |>.more HBY.out.size
      have hC4 : Cells w5 w5.heap.size A4 (intCells Lo) := ((Cells.of_own ho4).below HBY.out).more HBY.out.size
      have HC3 := Lib.hid hC3
      have HC4 := Lib.hid hC4
      have HLO := Lib.hid hLo
      have HLV := Lib.hid hLv
      clear ha hin hord ho3 ho4 hC3 hC4 hLo hLv
      go_wp2_with fail
      refine (levels_ref k A cap es w5 S5.out.es HIN.out hk1 hl2).mono ?_
      rintro e w6 ⟨v6, rfl, hb6, ho6⟩
      rw [HLR.out] at ho6
      obtain ⟨A6, c6, rfl⟩ := own_slice ho6
      have S6 := Lib.hid (S5.out.next hb6)
      have g0 := S6.out.g0
      have g1 := S6.out.g1
      have HC36 := Lib.hid ((HC3.out.below hb6).more hb6.size)
      have HC46 := Lib.hid ((HC4.out.below hb6).more hb6.size)
      have HC6 := Lib.hid (Cells.of_own (show w6.ownsRow w5.heap.size 3 1 (.slice A6 Lv.length c6) Lv.length (intCells Lv) by rw [hll]; exact ho6))
      clear ho6 hb6
      go_wp2_with fail
      refine (sameR_is A3 A6 c3 c6 Lv w6 w6.heap.size HC36.out HC6.out (by omega) hll).mono ?_
      rintro e w7 ⟨rfl, m, rfl⟩
      have S7 := Lib.hid (S6.out.drewN m)
      have g0 := S7.out.g0
      have g1 := S7.out.g1
      have HC47 := Lib.hid (HC46.out.drewN m)
      obtain ⟨w7, hw7⟩ : ∃ y, y = w6.drewN m := ⟨_, rfl⟩
      have hz7 : w7.heap.size = w6.heap.size := by rw [hw7]; rfl
      rw [← hw7] at S7 g0 g1 HC47
      rw [← hw7]
      have HZ7 := Lib.hid hz7
      clear hw7 hz7
      go_wp2_with fail
      refine (longest_ref k A cap es w7 S7.out.es HIN.out HOR.out hk0 hk1 hl2).mono ?_
      rintro e w8 ⟨v8, rfl, hb8, ho8⟩
      rw [← HLO.out] at ho8
      obtain ⟨A8, c8, rfl⟩ := own_slice ho8
      have S8 := Lib.hid (S7.out.next hb8)
      have HC48 := Lib.hid (((HC47.out.more (by rw [HZ7.out]; exact Nat.le_refl _)).below hb8).more hb8.size)
      have HC8 := Lib.hid (Cells.of_own ho8)
      clear ho8 hb8
      go_wp2_with fail
      refine (sameR_is A4 A8 c4 c8 Lo w8 w8.heap.size HC48.out HC8.out hol rfl).mono ?_
      rintro e w9 ⟨rfl, m9, rfl⟩
      have S9 := Lib.hid (S8.out.drewN m9)
      go_wp2_with fail
      go_ret
      exact ⟨rfl, S9.out.below⟩
end Go.Proofs.YtnjikhhegebkiaaDoor
