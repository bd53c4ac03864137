/-
  Law PosetWidth: walked. Written by an AI agent.
-/
import Derived.Test.YtnjikhhegebkiaaDoorDilw
import Derived.Test.YtnjikhhegebkiaaDoorWid
namespace Go.Proofs.YtnjikhhegebkiaaDoor
open Go.RowKit

set_option maxRecDepth 20000 in
set_option maxHeartbeats 4000000 in
theorem width_any (n : Int) (A : Option Addr) (cap : Nat) (es : List (Int × Int)) (L : Option Addr) (lc : Nat) (ls : List (List Int)) (w : World) (hes : Cells w w.heap.size A (edgeCells es)) (hls : RowsAt w w.heap.size L ls) (hT : Tab w) (hp : 0 < w.heap.size) :
    Calls Tryd.prog 4 #[.agg #[.int .i64 n, .slice A es.length cap], .slice L ls.length lc] w (fun e w' => e = .returned (.bool true) ∧ Below w.heap.size w w') := by
  have S1 := Lib.hid (St0.start n cap hes hT hp)
  have HL1 := Lib.hid (hls.below ((Below.refl w.heap.size w).alloc (Nat.le_refl _) (.cells #[.int .i64 n, .slice A es.length cap] 24)))
  clear hes hT hp hls
  go_enter Tryd.func4, Tryd.ntmps4
  go_upto_region 1 with fail
  generalize w.alloc (.cells #[.int .i64 n, .slice A es.length cap] 24) = w1 at *
  go_wp2_with fail
  refine (speaks_any w1 S1.out.tab S1.out.pos).mono ?_
  rintro e w2 ⟨rfl, hb⟩
  have S2 := Lib.hid (S1.out.next hb)
  have HL2 := Lib.hid (HL1.out.below (hb.mono (Nat.le_of_lt S1.out.lt)))
  have g0 := S2.out.g0
  have g1 := S2.out.g1
  clear hb S1
  by_cases hl : (es.length : Int) > 100
  · go_wp2_with fail
    go_ret
    exact ⟨rfl, S2.out.below⟩
  · have hl2 : es.length ≤ 1000 := by omega
    have hl' : ¬ (100 : Int) < es.length := by omega
    by_cases hll : (ls.length : Int) > 70
    · go_wp2_with fail
      go_ret
      exact ⟨rfl, S2.out.below⟩
    · have hll' : ¬ (70 : Int) < ls.length := by omega
      have hll2 : ls.length ≤ 70 := by omega
      go_wp2_with fail
      refine (asked_ref n A cap es w2 S2.out.es hl2).mono ?_
      rintro e w3 ⟨rfl, hb⟩
      have S3 := Lib.hid (S2.out.next hb)
      have HL3 := Lib.hid (HL2.out.below (hb.mono (Nat.le_of_lt S2.out.lt)))
      have g0 := S3.out.g0
      have g1 := S3.out.g1
      clear hb S2
      cases ha : askB n es with
      | false =>
        clear ha
        go_wp2_with fail
        go_ret
        exact ⟨rfl, S3.out.below⟩
      | true =>
        obtain ⟨k, rfl, hk0, hk1, hk2, hin, hord⟩ := ask_parts ha
        have HIN := Lib.hid hin
        have HOR := Lib.hid hord
        have HA := Lib.hid ha
        clear hin hord ha g0 g1
        go_wp2_with fail
        go_loopg [27] ls.length (fun gk s27 wr => ∃ i : Nat, s27 = .int .i64 i ∧ i ≤ ls.length ∧ gk = ls.length - i ∧ w3 = wr ∧ ∀ j (h : j < ls.length), j < i → ls[j].length ≤ 70)
        case atStart => exact ⟨0, rfl, Nat.zero_le _, rfl, rfl, fun j _ h => absurd h (Nat.not_lt_zero _)⟩
        case round =>
          obtain ⟨i, rfl, hi, hk, rfl, hsm⟩ := hrel
          have Hk := Lib.hid hk
          have HSM := Lib.hid hsm
          clear hk hsm
          by_cases hil : i < ls.length
          · have hil' : (i : Int) < ls.length := by omega
            obtain ⟨bL, oL, rfl, hbL, hcL⟩ := HL3.out (by omega)
            obtain ⟨Ai, ci, hci, _⟩ := hcL i hil
            have HN := Lib.hid (fun (h : ls[i].length ≤ 70) (j : Nat) (hj : j < ls.length) (hji : j < i + 1) => (by
              by_cases e : j = i
              · subst e; exact h
              · exact HSM.out j hj (by omega) : ls[j].length ≤ 70))
            generalize ls[i].length = q at *
            clear hcL
            by_cases hq : (q : Int) > 70
            · go_wp2_with fail
              go_ret
              exact ⟨rfl, S3.out.below⟩
            · have hq' : ¬ (70 : Int) < q := by omega
              have HN2 := Lib.hid (HN.out (by omega))
              go_wp2_with fail
              clear hci
              go_roundg (ls.length - (i + 1))
              case measure => rw [Hk.out]; omega
              case rel => exact ⟨i + 1, by go_num, by omega, rfl, rfl, HN2.out⟩
          · have hil' : ¬ (i : Int) < ls.length := by omega
            have HRL := Lib.hid (show ∀ l ∈ ls, l.length ≤ 100000 from fun l hl => by
              obtain ⟨j, hj, rfl⟩ := List.getElem_of_mem hl
              have := HSM.out j hj (by omega)
              omega)
            have g0 := S3.out.g0
            have g1 := S3.out.g1
            clear hil hi Hk HSM
            go_wp2_with fail
            refine (apart_any k A cap es w3 S3.out.es S3.out.tab S3.out.pos).mono ?_
            rintro e w5 ⟨v5, rfl, hb5, _, hy⟩
            obtain ⟨T, B, M, hgr, halt, hov⟩ := hy HA.out
            simp only [Int.toNat_natCast] at hgr halt hov
            have HD := Lib.hid (dilworth HIN.out HOR.out hk1 hgr halt)
            have HGR := Lib.hid hgr
            obtain ⟨a, hae⟩ : ∃ a, a = apartF B M k := ⟨_, rfl⟩
            rw [← hae] at hov HD
            obtain ⟨A5, c5, rfl⟩ := own_slice hov
            have HWE := Lib.hid (wid_eq HIN.out HOR.out hk1 hgr HD.out)
            have hak : a.length ≤ k := nodup_le (HD.out.rise.imp fun h => Int.ne_of_lt h) HD.out.arng
            have HLE := Lib.hid (show ChainedP k (reachB k es) ls → a.length ≤ ls.length from fun h => anti_le HIN.out HOR.out hk1 hgr h (dil_apart HIN.out hk1 hgr HD.out).anti HD.out.rise HD.out.arng)
            have S5 := Lib.hid (S3.out.next hb5)
            have HL5 := Lib.hid (HL3.out.below (hb5.mono (Nat.le_of_lt S3.out.lt)))
            have g0 := S5.out.g0
            have g1 := S5.out.g1
            rw [show errOf (askB (k : Int) es) = 0 by rw [HA.out]; rfl]
            clear hy hov hae halt hb5 S3 hgr HGR HD
            have hcut : True := True.intro
            by_cases hk12 : (k : Int) ≤ 12
            · go_wp2_with fail
              refine (reach_ref k A cap es w5 S5.out.es HIN.out hk0 hk1 hk2).mono ?_
              rintro e w6 ⟨A6, c6, rfl, hb6, hM⟩
              obtain ⟨gm, hA6, _⟩ := id hM
              subst hA6
              have S6 := Lib.hid (S5.out.next hb6)
              have HL6 := Lib.hid (HL5.out.below (hb6.mono (Nat.le_of_lt S5.out.lt)))
              have HM6 := Lib.hid hM
              have g0 := S6.out.g0
              have g1 := S6.out.g1
              clear hb6 hM S5 HL5
              go_wp2_with fail
              refine (wid_any k gm c6 (reachB k es) hk1 k 0 (by omega) w6.heap.size [] none 0 w6 HM6.out (Nat.le_refl _) Cells.nil (by simp) (by simp)).mono ?_
              rintro e w7 ⟨rfl, hb7⟩
              rw [HWE.out]
              have S7 := Lib.hid (S6.out.next hb7)
              have HL7 := Lib.hid (HL6.out.below (hb7.mono (Nat.le_of_lt S6.out.lt)))
              have g0 := S7.out.g0
              have g1 := S7.out.g1
              have haa : ((a.length : Int) != (a.length : Int)) = false := by simp
              clear hb7 S6 HL6
              go_wp2_with fail
              refine (chained_any k A cap es L lc ls w7 S7.out.es HIN.out hk0 hk1 hk2 (HL7.out.more (Nat.le_of_lt S7.out.lt)) (by omega) HRL.out).mono ?_
              rintro e w9 ⟨b, rfl, hb9, hiff⟩
              have S9 := Lib.hid (S7.out.next hb9)
              clear hb9
              cases b with
              | false =>
                clear hiff
                go_wp2_with fail
                go_ret
                exact ⟨rfl, S9.out.below⟩
              | true =>
                have hle := HLE.out (hiff.1 rfl)
                clear hiff
                have hle' : (a.length : Int) ≤ (ls.length : Int) := by omega
                go_wp2_with fail
                go_ret
                exact ⟨rfl, S9.out.below⟩
            · go_wp2_with fail
              refine (chained_any k A cap es L lc ls w5 S5.out.es HIN.out hk0 hk1 hk2 (HL5.out.more (Nat.le_of_lt S5.out.lt)) (by omega) HRL.out).mono ?_
              rintro e w9 ⟨b, rfl, hb9, hiff⟩
              have S9 := Lib.hid (S5.out.next hb9)
              clear hb9
              cases b with
              | false =>
                clear hiff
                go_wp2_with fail
                go_ret
                exact ⟨rfl, S9.out.below⟩
              | true =>
                have hle := HLE.out (hiff.1 rfl)
                clear hiff
                have hle' : (a.length : Int) ≤ (ls.length : Int) := by omega
                go_wp2_with fail
                go_ret
                exact ⟨rfl, S9.out.below⟩
end Go.Proofs.YtnjikhhegebkiaaDoor
