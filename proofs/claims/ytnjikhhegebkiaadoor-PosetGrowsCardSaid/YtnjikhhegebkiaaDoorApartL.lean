/-
  arborlaw17.apart: it says yes of vertices that are apart. Written by an AI agent.
-/
import Derived.Test.YtnjikhhegebkiaaDoorReachR
namespace Go.Proofs.YtnjikhhegebkiaaDoor
open Go.RowKit

theorem MatR.at_ {w : World} {B n g : Nat} {R : Nat → Nat → Bool} (h : MatR w B (some ⟨g, 0, none⟩) n R) {x y : Nat} (hx : x < n) (hy : y < n) :
    ∃ b c, w.cell? ⟨g, x, none⟩ = some (.slice (some ⟨b, 0, none⟩) n c) ∧ w.cell? ⟨b, y, none⟩ = some (.bool (R x y)) := by
  obtain ⟨g', e, _, h⟩ := h
  injection e with e
  injection e with e
  subst e
  obtain ⟨b, c, h1, _, h3⟩ := h x hx
  exact ⟨b, c, h1, h3 y hy⟩
set_option maxRecDepth 20000 in
set_option maxHeartbeats 4000000 in
theorem apartL_any (n : Nat) (A : Option Addr) (cap : Nat) (es : List (Int × Int)) (L : Option Addr) (lc : Nat) (l : List Int) (w : World) (hes : Cells w w.heap.size A (edgeCells es)) (hin : InN n es) (hp : 0 < n) (hn : n ≤ 64) (hlen : es.length ≤ 128)
    (hL : Cells w w.heap.size L (intCells l)) (hll : l.length ≤ 100000) (hA : ApartP n (reachB n es) l) :
    Calls Tryd.prog 13 #[.agg #[.int .i64 n, .slice A es.length cap], .slice L l.length lc] w (fun e w' => e = .returned (.bool true) ∧ Below w.heap.size w w') := by
  have b0 := Blk.new w 24 #[.int .i64 n, .slice A es.length cap]
  have hbw := (Below.refl w.heap.size w).alloc (Nat.le_refl _) (.cells #[.int .i64 n, .slice A es.length cap] 24)
  have s1 := World.size_alloc w (.cells #[.int .i64 n, .slice A es.length cap] 24)
  have hesa := (hes.below hbw).more hbw.size
  have hLa := (hL.below hbw)
  have HIN := Lib.hid hin
  have HA := Lib.hid hA
  go_enter Tryd.func13, Tryd.ntmps13
  go_upto_region 1 with fail
  generalize w.alloc (.cells #[.int .i64 n, .slice A es.length cap] 24) = w1 at *
  have HW1 := Lib.hid hbw
  have HES := Lib.hid hesa
  have HB0 := Lib.hid b0
  have HL1 := Lib.hid hLa
  have l1 : w.heap.size < w1.heap.size := by omega
  have g0 : w1.cell? ⟨w.heap.size, 0, none⟩ = some (.int .i64 n) := b0.cell 0
  have g1 : w1.cell? ⟨w.heap.size, 1, none⟩ = some (.slice A es.length cap) := b0.cell 1
  clear hbw b0 hesa hes hin hL hLa hA s1
  go_wp2_with fail
  refine (reach_ref n A cap es w1 HES.out HIN.out hp hn hlen).mono ?_
  rintro e w2 ⟨A5, c5, rfl, hb2, hm⟩
  have hz2 := hb2.size
  have HW2 := Lib.hid (HW1.out.trans (hb2.mono (Nat.le_of_lt l1)))
  have HB2 := Lib.hid (HB0.out.below hb2 l1)
  have HL2 := Lib.hid (HL1.out.below (hb2.mono (Nat.le_of_lt l1)))
  have HM2 := Lib.hid hm
  have g0 : w2.cell? ⟨w.heap.size, 0, none⟩ = some (.int .i64 n) := HB2.out.cell 0
  have l2 : w.heap.size < w2.heap.size := by omega
  obtain ⟨gm, hA5, _⟩ := id HM2.out
  subst hA5
  clear hb2 hm g1 HES HIN
  go_wp2_with fail
  go_loopg [14] l.length (fun k s14 wr => ∃ i : Nat, s14 = .int .i64 i ∧ i ≤ l.length ∧ k = l.length - i ∧ w2 = wr)
  case atStart => exact ⟨0, rfl, Nat.zero_le _, rfl, rfl⟩
  case round =>
    obtain ⟨i, rfl, hi, hk, rfl⟩ := hrel
    have Hk := Lib.hid hk
    clear hk
    by_cases hil : i < l.length
    · have hil' : (i : Int) < l.length := by omega
      obtain ⟨bl, ol, rfl, hbl, hcc⟩ := HL2.out.ints (by omega)
      have HCC := Lib.hid hcc
      have cx := hcc i hil
      obtain ⟨p, hp1, hpn⟩ := HA.out.rng _ (List.getElem_mem hil)
      rw [hp1] at cx
      have hpn' : (p : Int) < n := by omega
      have HP1 := Lib.hid hp1
      clear hcc hp1
      have hcase : (¬ (0 : Int) < i) ∨ ((0 : Int) < i ∧ ∃ q pq : Nat, (i : Int) - 1 = q ∧ w2.cell? ⟨bl, ol + q, none⟩ = some (.int .i64 pq) ∧ (pq : Int) < p) := by
        rcases Nat.eq_zero_or_pos i with h | h
        · exact .inl (by omega)
        · obtain ⟨pq, h1, h2⟩ := HA.out.rng _ (List.getElem_mem (show i - 1 < l.length by omega))
          have h3 := HA.out.rise (i - 1) (by omega)
          have h4 := HCC.out (i - 1) (by omega)
          have e : i - 1 + 1 = i := by omega
          simp only [e] at h3
          rw [HP1.out, h1] at h3
          rw [h1] at h4
          exact .inr ⟨by omega, i - 1, pq, by omega, h4, h3⟩
      have tok := True.intro
      rcases hcase with hi0 | ⟨hi0, q, pq, hq, cq, hlt⟩
      all_goals go_wp2_with fail
      all_goals
        try clear hq cq hlt
        clear cx
        go_loopg [42] l.length (fun k s42 wr => ∃ j : Nat, s42 = .int .i64 j ∧ j ≤ l.length ∧ k = l.length - j ∧ w2 = wr)
        case atStart => exact ⟨0, rfl, Nat.zero_le _, rfl, rfl⟩
        case round =>
          obtain ⟨j, rfl, hj, hk, rfl⟩ := hrel
          have Hk2 := Lib.hid hk
          clear hk
          by_cases hjl : j < l.length
          · have hjl' : (j : Int) < l.length := by omega
            have cy := HCC.out j hjl
            obtain ⟨r, hr1, hrn⟩ := HA.out.rng _ (List.getElem_mem hjl)
            have HR := Lib.hid (HA.out.anti i j hil hjl)
            rw [hr1] at cy
            rw [hr1, HP1.out] at HR
            simp only [Int.toNat_natCast] at HR
            have hrn' : (r : Int) < n := by omega
            obtain ⟨b, c, m1, m2⟩ := HM2.out.at_ hpn hrn
            clear hr1
            by_cases hij : j = i
            · subst hij
              go_wp2_with fail
              go_roundg (l.length - (j + 1))
              case measure => rw [Hk2.out]; omega
              case rel => exact ⟨j + 1, by go_num, by omega, rfl, rfl⟩
            · have hij' : ((j : Int) != (i : Int)) = true := by rw [bne_iff_ne]; omega
              rw [HR.out (fun e => hij e.symm)] at m2
              go_wp2_with fail
              go_roundg (l.length - (j + 1))
              case measure => rw [Hk2.out]; omega
              case rel => exact ⟨j + 1, by go_num, by omega, rfl, rfl⟩
          · have hjl' : ¬ (j : Int) < l.length := by omega
            go_wp2_with fail
            go_roundg (l.length - (i + 1))
            case measure => rw [Hk.out]; omega
            case rel => exact ⟨i + 1, by go_num, by omega, rfl, rfl⟩
    · have hil' : ¬ (i : Int) < l.length := by omega
      go_wp2_with fail
      go_ret
      exact ⟨rfl, HW2.out⟩
end Go.Proofs.YtnjikhhegebkiaaDoor
