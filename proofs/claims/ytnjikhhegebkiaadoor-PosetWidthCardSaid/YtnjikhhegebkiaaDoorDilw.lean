/-
  Law PosetDilworth: walked. Written by an AI agent.
-/
import Derived.Test.YtnjikhhegebkiaaDoorLawSt
import Derived.Test.YtnjikhhegebkiaaDoorLooks
import Derived.Test.YtnjikhhegebkiaaDoorApartL
namespace Go.Proofs.YtnjikhhegebkiaaDoor
open Go.RowKit

theorem nodup_le {n : Nat} {l : List Int} (hn : l.Nodup) (hr : ∀ z ∈ l, ∃ k : Nat, z = k ∧ k < n) : l.length ≤ n := by
  have := cover_le ((List.range n).map fun k : Nat => [(k : Int)]) l hn (fun z hz => by
    obtain ⟨k, rfl, hk⟩ := hr z hz
    exact ⟨[(k : Int)], List.mem_map.2 ⟨k, List.mem_range.2 hk, rfl⟩, by simp⟩) (fun l' hl' z _ z' _ h h' => by
    obtain ⟨k, _, rfl⟩ := List.mem_map.1 hl'
    have h1 : z = k := by simpa using h
    have h2 : z' = k := by simpa using h'
    rw [h1, h2])
  simpa using this
set_option maxRecDepth 20000 in
set_option maxHeartbeats 4000000 in
theorem dilw_any (n : Int) (A : Option Addr) (cap : Nat) (es : List (Int × Int)) (w : World) (hes : Cells w w.heap.size A (edgeCells es)) (hT : Tab w) (hp : 0 < w.heap.size) :
    Calls Tryd.prog 3 #[.agg #[.int .i64 n, .slice A es.length cap]] w (fun e w' => e = .returned (.bool true) ∧ Below w.heap.size w w') := by
  have S1 := Lib.hid (St0.start n cap hes hT hp)
  clear hes hT hp
  go_enter Tryd.func3, Tryd.ntmps3
  go_upto_region 1 with fail
  generalize w.alloc (.cells #[.int .i64 n, .slice A es.length cap] 24) = w1 at *
  go_wp2_with fail
  refine (speaks_any w1 S1.out.tab S1.out.pos).mono ?_
  rintro e w2 ⟨rfl, hb⟩
  have S2 := Lib.hid (S1.out.next hb)
  have g0 := S2.out.g0
  have g1 := S2.out.g1
  clear hb S1
  by_cases hl : (es.length : Int) > 128
  · go_wp2_with fail
    go_ret
    exact ⟨rfl, S2.out.below⟩
  · have hl2 : es.length ≤ 1000 := by omega
    have hl' : ¬ (128 : Int) < es.length := by omega
    go_wp2_with fail
    refine (asked_ref n A cap es w2 S2.out.es hl2).mono ?_
    rintro e w3 ⟨rfl, hb⟩
    have S3 := Lib.hid (S2.out.next hb)
    have g0 := S3.out.g0
    have g1 := S3.out.g1
    clear hb S2
    cases ha : askB n es with
    | false =>
      clear ha
      go_wp2_with fail
      go_ret
      exact ⟨rfl, S3.out.below⟩
    | true =>
      obtain ⟨k, rfl, hk0, hk1, hk2, hin, hord⟩ := ask_parts ha
      have HIN := Lib.hid hin
      have HOR := Lib.hid hord
      have HA := Lib.hid ha
      clear hin hord ha
      go_wp2_with fail
      refine (chains_any k A cap es w3 S3.out.es S3.out.tab S3.out.pos).mono ?_
      rintro e w4 ⟨v4, rfl, hb4, _, hy⟩
      obtain ⟨T, vs, hgr, hov, hrows⟩ := hy HA.out
      simp only [Int.toNat_natCast] at hgr hrows
      have S4 := Lib.hid (S3.out.next hb4)
      obtain ⟨ls, hls⟩ : ∃ ls, ls = chainsF k (joinF (abF T k) k k).nx (joinF (abF T k) k k).pv k := ⟨_, rfl⟩
      rw [← hls] at hrows
      have HLS := Lib.hid hls
      have HGR := Lib.hid hgr
      obtain ⟨A4, c4, rfl⟩ := own_slice hov
      have hvl := hrows.len
      have HRA := Lib.hid (rowsAt_of hov rfl hrows)
      rw [hvl]
      have g0 := S4.out.g0
      have g1 := S4.out.g1
      rw [show errOf (askB (k : Int) es) = 0 by rw [HA.out]; rfl]
      clear hy hgr hov hls hrows hvl hb4 S3
      go_wp2_with fail
      refine (apart_any k A cap es w4 S4.out.es S4.out.tab S4.out.pos).mono ?_
      rintro e w5 ⟨v5, rfl, hb5, _, hy⟩
      obtain ⟨T', B, M, hgr', halt, hov⟩ := hy HA.out
      simp only [Int.toNat_natCast] at hgr' halt hov
      have hTT : T' = T := (grown_unique HIN.out hgr' HGR.out)
      subst hTT
      have HD := Lib.hid (dilworth HIN.out HOR.out hk1 HGR.out halt)
      rw [← HLS.out] at HD
      obtain ⟨a, hae⟩ : ∃ a, a = apartF B M k := ⟨_, rfl⟩
      rw [← hae] at hov HD
      obtain ⟨A5, c5, rfl⟩ := own_slice hov
      have HC5 := Lib.hid (Cells.of_own hov)
      have S5 := Lib.hid (S4.out.next hb5)
      have HR5 := Lib.hid ((HRA.out.below hb5).more hb5.size)
      have g0 := S5.out.g0
      have g1 := S5.out.g1
      rw [show errOf (askB (k : Int) es) = 0 by rw [HA.out]; rfl]
      clear hy hov hae halt hb5 S4 HRA HGR HLS
      have hll : ls.length ≤ k := by
        have h1 := HD.out.len
        have h2 : a.length ≤ k := by
          have h3 := HD.out.rise.imp (R := (· < ·)) (S := (· ≠ ·)) (fun h => Int.ne_of_lt h)
          exact nodup_le h3 HD.out.arng
        omega
      have hal : a.length ≤ k := by have h1 := HD.out.len; omega
      have HLEN := Lib.hid HD.out.len
      have hrl : ∀ l ∈ ls, l.length ≤ k := fun l hl => by
        refine nodup_le ((List.pairwise_flatten.1 HD.out.flat).1 l hl) fun z hz => HD.out.rng z (List.mem_flatten.2 ⟨l, hl, hz⟩)
      have HRL := Lib.hid (show ∀ l ∈ ls, l.length ≤ 100000 from fun l hl => by have := hrl l hl; omega)
      clear hrl
      go_wp2_with fail
      refine (chained_any k A cap es A4 c4 ls w5 S5.out.es HIN.out hk0 hk1 hk2 HR5.out (by omega) HRL.out).mono ?_
      rintro e w6 ⟨b, rfl, hb, hiff⟩
      have hbt : b = true := hiff.2 (dil_chained HIN.out hk1 hgr' HD.out)
      subst hbt
      have S6 := Lib.hid (S5.out.next hb)
      have HC6 := Lib.hid ((HC5.out.below hb).more hb.size)
      have g0 := S6.out.g0
      have g1 := S6.out.g1
      clear hiff hb S5
      go_wp2_with fail
      refine (apartL_any k A cap es A5 c5 a w6 S6.out.es HIN.out hk0 hk1 hk2 HC6.out (by omega) (dil_apart HIN.out hk1 hgr' HD.out)).mono ?_
      rintro e w7 ⟨rfl, hb⟩
      have S7 := Lib.hid (S6.out.next hb)
      have hlen : ((ls.length : Int) == (a.length : Int)) = true := by rw [beq_iff_eq]; have := HLEN.out; omega
      clear hb S6
      go_wp2_with fail
      go_ret
      exact ⟨rfl, S7.out.below⟩
end Go.Proofs.YtnjikhhegebkiaaDoor
