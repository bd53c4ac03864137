/-
  arborlaw17.chained: what it tells. Written by an AI agent.
-/
import Derived.Test.YtnjikhhegebkiaaDoorReachR
namespace Go.Proofs.YtnjikhhegebkiaaDoor
open Go.RowKit

/-- true just if P -/
def BoolIff (P : Prop) (w : World) (e : Ending) (w' : World) : Prop := ∃ b : Bool, e = .returned (.bool b) ∧ Below w.heap.size w w' ∧ (b = true ↔ P)
/-- a slice of slices of ints, below block B -/
def RowsAt (w : World) (B : Nat) (A : Option Addr) (rs : List (List Int)) : Prop :=
  0 < rs.length → ∃ b off, A = some ⟨b, off, none⟩ ∧ b < B ∧ ∀ i (h : i < rs.length), ∃ Ai ci, w.cell? ⟨b, off + i, none⟩ = some (.slice Ai rs[i].length ci) ∧ Cells w B Ai (intCells rs[i])
section
variable {w w' : World} {B B' : Nat} {A : Option Addr} {rs : List (List Int)}
theorem RowsAt.keep (h : RowsAt w B A rs) (hk : ∀ p : Addr, p.block < B → w'.cell? p = w.cell? p) : RowsAt w' B A rs := fun hn => by
  obtain ⟨b, off, e, hb, hc⟩ := h hn
  refine ⟨b, off, e, hb, fun i hi => ?_⟩
  obtain ⟨Ai, ci, h1, h2⟩ := hc i hi
  exact ⟨Ai, ci, (hk _ (by exact hb)).trans h1, h2.keep hk⟩
theorem RowsAt.more (h : RowsAt w B A rs) (hB : B ≤ B') : RowsAt w B' A rs := fun hn => by
  obtain ⟨b, off, e, hb, hc⟩ := h hn
  refine ⟨b, off, e, by omega, fun i hi => ?_⟩
  obtain ⟨Ai, ci, h1, h2⟩ := hc i hi
  exact ⟨Ai, ci, h1, h2.more hB⟩
theorem RowsAt.below (h : RowsAt w B A rs) (hb : Below B w w') : RowsAt w' B A rs := h.keep fun _ hp => hb.cell hp
end
theorem rowsAt_of {w : World} {base n : Nat} {A : Option Addr} {c : Nat} {vs : List Value} {ls : List (List Int)} (hv : w.ownsRow base 31 1 (.slice A n c) n vs) (hl : vs.length = n) (hr : RowsR w base vs ls) : RowsAt w w.heap.size A ls := fun hp => by
  have h1 := hr.len
  obtain ⟨g, cap, R, he, hg, hk, _⟩ := own_blk hv (by omega)
  injection he with he
  subst he
  refine ⟨g, 0, rfl, hk.lt, fun i hi => ?_⟩
  have hi' : i < vs.length := by omega
  have ho := hr.own i hi' hi
  obtain ⟨A', c', he⟩ := own_slice ho
  refine ⟨A', c', ?_, ?_⟩
  · rw [Nat.zero_add, hk.cell i, Array.getElem?_append_left (by simpa using hi')]
    simp [hi', he]
  · rw [he] at ho
    exact Cells.of_own ho
theorem MatR.one {w : World} {B n g : Nat} {R : Nat → Nat → Bool} (h : MatR w B (some ⟨g, 0, none⟩) n R) {x y : Nat} (hx : x < n) (hy : y < n) :
    ∃ b c, w.cell? ⟨g, x, none⟩ = some (.slice (some ⟨b, 0, none⟩) n c) ∧ w.cell? ⟨b, y, none⟩ = some (.bool (R x y)) := by
  obtain ⟨g', e, _, h⟩ := h
  injection e with e
  injection e with e
  subst e
  obtain ⟨b, c, h1, _, h3⟩ := h x hx
  exact ⟨b, c, h1, h3 y hy⟩

set_option maxRecDepth 20000 in
set_option maxHeartbeats 4000000 in
theorem chained_any (n : Nat) (A : Option Addr) (cap : Nat) (es : List (Int × Int)) (L : Option Addr) (lc : Nat) (ls : List (List Int)) (w : World) (hes : Cells w w.heap.size A (edgeCells es)) (hin : InN n es) (hp : 0 < n) (hn : n ≤ 64) (hlen : es.length ≤ 128)
    (hL : RowsAt w w.heap.size L ls) (hll : ls.length ≤ 100000) (hrl : ∀ l ∈ ls, l.length ≤ 100000) :
    Calls Tryd.prog 12 #[.agg #[.int .i64 n, .slice A es.length cap], .slice L ls.length lc] w (BoolIff (ChainedP n (reachB n es) ls) w) := by
  have b0 := Blk.new w 24 #[.int .i64 n, .slice A es.length cap]
  have hbw := (Below.refl w.heap.size w).alloc (Nat.le_refl _) (.cells #[.int .i64 n, .slice A es.length cap] 24)
  have s1 := World.size_alloc w (.cells #[.int .i64 n, .slice A es.length cap] 24)
  have hesa := (hes.below hbw).more hbw.size
  have hLa := (hL.below hbw)
  have HIN := Lib.hid hin
  have HRL := Lib.hid hrl
  go_enter Tryd.func12, Tryd.ntmps12
  go_upto_region 1 with fail
  generalize w.alloc (.cells #[.int .i64 n, .slice A es.length cap] 24) = w1 at *
  have HW1 := Lib.hid hbw
  have HES := Lib.hid hesa
  have HB0 := Lib.hid b0
  have HL1 := Lib.hid hLa
  have l1 : w.heap.size < w1.heap.size := by omega
  have g0 : w1.cell? ⟨w.heap.size, 0, none⟩ = some (.int .i64 n) := b0.cell 0
  have g1 : w1.cell? ⟨w.heap.size, 1, none⟩ = some (.slice A es.length cap) := b0.cell 1
  clear hbw b0 hesa hes hin hL hLa hrl s1
  go_wp2_with fail
  refine (reach_ref n A cap es w1 HES.out HIN.out hp hn hlen).mono ?_
  rintro e w2 ⟨A5, c5, rfl, hb2, hm⟩
  have hz2 := hb2.size
  have HW2 := Lib.hid (HW1.out.trans (hb2.mono (Nat.le_of_lt l1)))
  have HB2 := Lib.hid (HB0.out.below hb2 l1)
  have HL2 := Lib.hid (HL1.out.below (hb2.mono (Nat.le_of_lt l1)))
  have HM2 := Lib.hid hm
  have g0 : w2.cell? ⟨w.heap.size, 0, none⟩ = some (.int .i64 n) := HB2.out.cell 0
  have l2 : w.heap.size < w2.heap.size := by omega
  have hmk := fun W => run_make1 elemInt rfl n (by omega) (by omega) W
  clear hb2 hm g1 HES HIN
  go_upto_region 3 with fail
  have b3 := Blk.new w2 3 (Array.replicate n (.int .i64 0))
  have s3 := World.size_alloc w2 (.cells (Array.replicate n (.int .i64 0)) 3)
  have hb3 := (Below.refl w2.heap.size w2).alloc (Nat.le_refl _) (.cells (Array.replicate n (.int .i64 0)) 3)
  generalize w2.alloc (.cells (Array.replicate n (.int .i64 0)) 3) = w3 at *
  have HM3 := Lib.hid (HM2.out.keep hb3)
  have HB3 := Lib.hid (HB2.out.below hb3 l2)
  have HL3 := Lib.hid (HL2.out.below (hb3.mono (by omega)))
  have HW3 := Lib.hid (HW2.out.trans (hb3.mono (by omega)))
  have HN3 := Lib.hid (show Blk w3 w2.heap.size 3 (intCells (List.replicate n 0)).toArray by simpa [intCells] using b3)
  generalize hgc : w2.heap.size = gc at *
  have HX := Lib.hid (show Below gc w3 w3 from Below.refl _ _)
  clear b3 hb3 g0 hmk
  obtain ⟨gm, hA5, hgm, _⟩ := id HM2.out
  subst hA5
  clear hgm
  go_wp2_with fail
  go_loopg [20] ls.length (fun k s20 wr => ∃ (i : Nat) (cs : List Int), s20 = .int .i64 i ∧ i ≤ ls.length ∧ k = ls.length - i ∧ Below gc w3 wr ∧ Blk wr gc 3 (intCells cs).toArray ∧ Cnt n (ls.take i).flatten cs ∧ DoneTo (reachB n es) ls i)
  case atStart => exact ⟨0, _, rfl, Nat.zero_le _, rfl, HX.out, HN3.out, by simpa using Cnt.nil n, fun k h hk => absurd hk (Nat.not_lt_zero _)⟩
  case round =>
    obtain ⟨i, cs, rfl, hi, hk, hb, hbl, hc, hd⟩ := hrel
    have Hk := Lib.hid hk
    have HB := Lib.hid hb
    have HBL := Lib.hid hbl
    have HC := Lib.hid hc
    have HD := Lib.hid hd
    have hzr := hb.size
    clear hk hb hbl hc hd
    by_cases hil : i < ls.length
    · have hil' : (i : Int) < ls.length := by omega
      obtain ⟨bL, oL, rfl, hbL, hcL⟩ := HL3.out (by omega)
      obtain ⟨Ai, ci, hci, hCi⟩ := hcL i hil
      have zi : wr.cell? ⟨bL, oL + i, none⟩ = some (.slice Ai ls[i].length ci) := (HB.out.cell (p := ⟨bL, oL + i, none⟩) (by simp; omega)).trans hci
      have HCI := Lib.hid hCi
      have hli : ls[i].length ≤ 100000 := HRL.out _ (List.getElem_mem hil)
      obtain ⟨l, hl⟩ : ∃ l, l = ls[i] := ⟨_, rfl⟩
      have HLE := Lib.hid hl
      rw [← hl] at zi HCI hli
      clear hcL hci hCi hl
      by_cases hl0 : l.length = 0
      · have HNE := Lib.hid (show ¬ ChainedP n (reachB n es) ls from fun h => h.ne _ (List.getElem_mem hil) (by rw [← HLE.out]; exact List.eq_nil_of_length_eq_zero hl0))
        have hl0' : (l.length : Int) = 0 := by omega
        go_wp2_with fail
        go_ret
        exact ⟨false, rfl, HW3.out.trans (HB.out.mono (by omega)), by simpa using HNE.out⟩
      · have hl0' : ((l.length : Int) == 0) = false := by rw [beq_eq_false_iff_ne]; omega
        obtain ⟨wo, rfl⟩ : ∃ y, y = wr := ⟨_, rfl⟩
        go_wp2_with fail
        clear zi
        go_loopg [29] l.length (fun k s29 wr => ∃ (j : Nat) (cs : List Int), s29 = .int .i64 j ∧ j ≤ l.length ∧ k = l.length - j ∧ Below gc w3 wr ∧ Blk wr gc 3 (intCells cs).toArray ∧ Cnt n ((ls.take i).flatten ++ l.take j) cs ∧ StepsTo (reachB n es) l j)
        case atStart => exact ⟨0, cs, rfl, Nat.zero_le _, rfl, HB.out, HBL.out, by simpa using HC.out, fun k h hk => absurd hk (Nat.not_lt_zero _)⟩
        case round =>
          obtain ⟨j, cs, rfl, hj, hk2, hb, hbl, hc, hs⟩ := hrel
          have Hk2 := Lib.hid hk2
          have HB := Lib.hid hb
          have HBL := Lib.hid hbl
          have HC := Lib.hid hc
          have HS := Lib.hid hs
          clear hk2 hb hbl hc hs
          by_cases hjl : j < l.length
          · have hjl' : (j : Int) < l.length := by omega
            obtain ⟨bi, oi, rfl, hbi, hcc⟩ := HCI.out.ints (by omega)
            have HCC := Lib.hid (show ∀ (w' : World), Below gc w3 w' → ∀ t (ht : t < l.length), w'.cell? ⟨bi, oi + t, none⟩ = some (.int .i64 l[t]) from fun w' h t ht => (h.cell (p := ⟨bi, oi + t, none⟩) (by simp; omega)).trans (hcc t ht))
            have cx := HCC.out wr HB.out j hjl
            have g0r : wr.cell? ⟨w.heap.size, 0, none⟩ = some (.int .i64 n) := (HB3.out.below HB.out l2).cell 0
            have HNR := Lib.hid (show ¬ (∃ k : Nat, l[j] = k ∧ k < n) → ¬ ChainedP n (reachB n es) ls from fun hx h => hx (h.rng _ (List.getElem_mem hil) _ (by rw [← HLE.out]; exact List.getElem_mem hjl)))
            have HND := Lib.hid (show l[j] ∈ (ls.take i).flatten ++ l.take j → ¬ ChainedP n (reachB n es) ls from fun hm => chained_no_dup hil (j := j) (by rw [← HLE.out]; exact hjl) (by
              have := HLE.out
              subst this
              exact hm))
            obtain ⟨x, hx⟩ : ∃ x, x = l[j] := ⟨_, rfl⟩
            have HXE := Lib.hid hx
            rw [← hx] at cx HNR HND
            clear hcc hx
            by_cases hx0 : x < 0
            · have HNO := Lib.hid (HNR.out (by rintro ⟨k, hk, _⟩; omega))
              go_wp2_with fail
              go_ret
              exact ⟨false, rfl, HW3.out.trans (HB.out.mono (by omega)), by simpa using HNO.out⟩
            · by_cases hxn : (n : Int) ≤ x
              · have HNO := Lib.hid (HNR.out (by rintro ⟨k, hk, hk2⟩; omega))
                go_wp2_with fail
                go_ret
                exact ⟨false, rfl, HW3.out.trans (HB.out.mono (by omega)), by simpa using HNO.out⟩
              · obtain ⟨k, rfl⟩ : ∃ k : Nat, x = k := ⟨x.toNat, by omega⟩
                have hkn : k < n := by omega
                have hkn' : (k : Int) < n := by omega
                have zc : wr.cell? ⟨gc, k, none⟩ = some (.int .i64 (cs.getD k 0)) := by
                  have h1 := HC.out.len
                  rw [HBL.out.cell k]
                  simp [intCells, show k < cs.length by omega]
                have fz := HBL.out.frozen k
                by_cases hc0 : 0 < cs.getD k 0
                · have HNO := Lib.hid (HND.out (HC.out.twice hkn hc0))
                  generalize cs.getD k 0 = v at *
                  go_wp2_with fail
                  go_ret
                  exact ⟨false, rfl, HW3.out.trans (HB.out.mono (by omega)), by simpa using HNO.out⟩
                · obtain ⟨hv, hnm, hc2⟩ := HC.out.push hkn hc0
                  rw [hv] at zc
                  have HC2 := Lib.hid (show Cnt n ((ls.take i).flatten ++ l.take (j + 1)) (cs.set k 1) by
                    rw [List.take_succ_eq_append_getElem hjl, ← HXE.out, ← List.append_assoc]; exact hc2)
                  have HBL2 := Lib.hid (show Blk (wr.setCell ⟨gc, k, none⟩ (.int .i64 1)) gc 3 (intCells (cs.set k 1)).toArray by
                    have := HBL.out.set_ k (.int .i64 1)
                    simpa [intCells, List.map_set] using this)
                  have HB2 := Lib.hid (HB.out.setCell (p := ⟨gc, k, none⟩) (Nat.le_refl _) (.int .i64 1))
                  clear hc0 hv hnm hc2
                  go_upto_region 14 with fail
                  generalize wr.setCell ⟨gc, k, none⟩ (.int .i64 1) = w5 at *
                  by_cases hj0 : j = 0
                  · have HS2 := Lib.hid (show StepsTo (reachB n es) l (j + 1) from fun t h ht => by omega)
                    have hj0' : ¬ (0 : Int) < j := by omega
                    go_wp2_with fail
                    clear cx
                    go_roundg (l.length - (j + 1))
                    case measure => rw [Hk2.out]; omega
                    case rel => exact ⟨j + 1, cs.set k 1, by first | rfl | go_num, by omega, rfl, HB2.out, HBL2.out, HC2.out, HS2.out⟩
                  · obtain ⟨q, hq⟩ : ∃ q, q = j - 1 := ⟨_, rfl⟩
                    have hqj : q + 1 = j := by omega
                    have hql : q < l.length := by omega
                    have hqi : (j : Int) - 1 = q := by omega
                    have hj0' : (0 : Int) < j := by omega
                    have cp := HCC.out w5 HB2.out q hql
                    obtain ⟨p, hp1, hpn⟩ := HC.out.rng l[q] (List.mem_append_right _ (List.mem_take_iff_getElem.2 ⟨q, by omega, rfl⟩))
                    rw [hp1] at cp
                    have HSN := Lib.hid (show ¬ (l[q] ≠ l[q + 1]'(by omega) ∧ reachB n es l[q].toNat (l[q + 1]'(by omega)).toNat = true) → ¬ ChainedP n (reachB n es) ls from fun hno h => hno (by
                      have := HLE.out
                      subst this
                      exact h.step _ (List.getElem_mem hil) q (by omega)))
                    have HSY := Lib.hid (show (l[q] ≠ l[q + 1]'(by omega) ∧ reachB n es l[q].toNat (l[q + 1]'(by omega)).toNat = true) → StepsTo (reachB n es) l (j + 1) from fun hy => by
                      have := (show StepsTo (reachB n es) l (q + 1) by rw [hqj]; exact HS.out).push (by omega) hy
                      rwa [hqj] at this)
                    have hxe : l[q + 1]'(by omega) = (k : Int) := by
                      have := HXE.out
                      subst hqj
                      exact this.symm
                    rw [hp1, hxe] at HSN HSY
                    simp only [Int.toNat_natCast] at HSN HSY
                    have HZ := Lib.hid (And.intro hq hp1)
                    clear hq hxe hp1
                    by_cases hpk : p = k
                    · subst hpk
                      have HNO := Lib.hid (HSN.out (fun h => h.1 rfl))
                      go_wp2_with fail
                      go_ret
                      exact ⟨false, rfl, HW3.out.trans (HB2.out.mono (by omega)), by simpa using HNO.out⟩
                    · have hpk' : ((p : Int) == (k : Int)) = false := by rw [beq_eq_false_iff_ne]; omega
                      have hkn' : (k : Int) < n := by omega
                      have hpn' : (p : Int) < n := by omega
                      obtain ⟨b, c, m1, m2⟩ := (HM3.out.keep HB2.out).one hpn hkn
                      cases hR : reachB n es p k with
                      | false =>
                        have HNO := Lib.hid (HSN.out (fun h => by rw [hR] at h; cases h.2))
                        rw [hR] at m2
                        clear hR
                        go_wp2_with fail
                        go_ret
                        exact ⟨false, rfl, HW3.out.trans (HB2.out.mono (by omega)), by simpa using HNO.out⟩
                      | true =>
                        have HS2 := Lib.hid (HSY.out ⟨by omega, hR⟩)
                        rw [hR] at m2
                        clear hR
                        go_wp2_with fail
                        clear hqi m1 m2 cp cx
                        go_roundg (l.length - (j + 1))
                        case measure => rw [Hk2.out]; omega
                        case rel => exact ⟨j + 1, cs.set k 1, by go_num, by omega, rfl, HB2.out, HBL2.out, HC2.out, HS2.out⟩
          · have hje : j = l.length := by omega
            have hjl' : ¬ (j : Int) < l.length := by omega
            have HD2 := Lib.hid (show DoneTo (reachB n es) ls (i + 1) from fun t ht hti => by
              by_cases e : t = i
              · subst e
                rw [← HLE.out]
                exact ⟨fun e => hl0 (by rw [e]; rfl), by rw [← hje]; exact HS.out⟩
              · exact HD.out t ht (by omega))
            have HC2 := Lib.hid (show Cnt n (ls.take (i + 1)).flatten cs by
              rw [take_flat hil, ← HLE.out]
              have := HC.out
              rwa [hje, List.take_length] at this)
            clear hje
            go_wp2_with fail
            go_roundg (ls.length - (i + 1))
            case measure => rw [Hk.out]; omega
            case rel => exact ⟨i + 1, cs, by go_num, by omega, rfl, HB.out, HBL.out, HC2.out, HD2.out⟩
    · have hie : i = ls.length := by omega
      have hil' : ¬ (i : Int) < ls.length := by omega
      have HC2 := Lib.hid (show Cnt n ls.flatten cs by have := HC.out; rwa [hie, List.take_length] at this)
      have HD2 := Lib.hid (show DoneTo (reachB n es) ls ls.length by rw [← hie]; exact HD.out)
      clear hie
      obtain ⟨wo, rfl⟩ : ∃ y, y = wr := ⟨_, rfl⟩
      go_wp2_with fail
      go_loopg [84] n (fun k s84 wr => ∃ t : Nat, s84 = .int .i64 t ∧ t ≤ n ∧ k = n - t ∧ wo = wr ∧ ∀ x, x < t → cs.getD x 0 = 1)
      case atStart => exact ⟨0, rfl, Nat.zero_le _, rfl, rfl, fun x h => absurd h (Nat.not_lt_zero _)⟩
      case round =>
        obtain ⟨t, rfl, ht, hk2, rfl, ho⟩ := hrel
        have Hk2 := Lib.hid hk2
        have HO := Lib.hid ho
        clear hk2 ho
        by_cases htn : t < n
        · have htn' : (t : Int) < n := by omega
          have zc : wo.cell? ⟨gc, t, none⟩ = some (.int .i64 (cs.getD t 0)) := by
            have h1 := HC2.out.len
            rw [HBL.out.cell t]
            simp [intCells, show t < cs.length by omega]
          have HA := Lib.hid (HC2.out.at_ t htn)
          by_cases h1 : cs.getD t 0 = 1
          · have HO2 := Lib.hid (show ∀ x, x < t + 1 → cs.getD x 0 = 1 from fun x hx => by
              by_cases e : x = t
              · subst e; exact h1
              · exact HO.out x (by omega))
            rw [h1] at zc
            clear h1
            go_wp2_with fail
            go_roundg (n - (t + 1))
            case measure => rw [Hk2.out]; omega
            case rel => exact ⟨t + 1, by go_num, by omega, rfl, rfl, HO2.out⟩
          · have HNO := Lib.hid (show ¬ ChainedP n (reachB n es) ls from fun h => h1 (by rw [HA.out, if_pos (h.all t htn)]))
            have h1' : (cs.getD t 0 != 1) = true := by rw [bne_iff_ne]; exact h1
            generalize cs.getD t 0 = v at *
            go_wp2_with fail
            go_ret
            exact ⟨false, rfl, HW3.out.trans (HB.out.mono (by omega)), by simpa using HNO.out⟩
        · have htn' : ¬ (t : Int) < n := by omega
          have HYES := Lib.hid (chained_end HC2.out HD2.out (fun x hx => HO.out x (by omega)))
          go_wp2_with fail
          go_ret
          exact ⟨true, rfl, HW3.out.trans (HB.out.mono (by omega)), by simpa using HYES.out⟩
end Go.Proofs.YtnjikhhegebkiaaDoor
