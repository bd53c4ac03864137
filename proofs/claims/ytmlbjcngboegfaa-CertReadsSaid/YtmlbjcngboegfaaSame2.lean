/-
  The reference's Same: walked. Printed by wip/C/samegen.py. Written by an AI agent.
-/
import Derived.Test.YtmlbjcngboegfaaSame
namespace Go.Proofs.Ytmlbjcngboegfaa
open Go.RowKit

theorem below_drewN {B : Nat} {a w : World} (h : Below B a w) (n : Nat) : Below B a (w.drewN n) := ⟨h.os, h.tape, h.output, h.size, h.block⟩
def SamePost (x y : Crt) (w : World) (e : Ending) (w' : World) : Prop := e = .returned (.bool (decide (x = y))) ∧ Below w.heap.size w w'

set_option maxRecDepth 20000 in
set_option maxHeartbeats 4000000 in
theorem same_any (V U : CV) (x y : Crt) (w : World) (hx : CrtIs w w.heap.size V x) (hy : CrtIs w w.heap.size U y) (sx : CrtSm x) :
    Calls Try.prog 13 #[crtVal V x, crtVal U y] w (SamePost x y w) := by
  have hb1 : Below w.heap.size w ((w.alloc (.cells #[.int .i64 x.k, .slice V.a1 x.ord.length V.c1, .slice V.a2 x.outs.length V.c2, .slice V.a3 x.turn.length V.c3, .int .i64 x.outer, .slice V.a5 x.pts.length V.c5, .slice V.a6 x.lines.length V.c6, .slice V.a7 x.b0.length V.c7, .slice V.a8 x.b1.length V.c8, .slice V.a9 x.b2.length V.c9, .slice V.a10 x.b3.length V.c10, .slice V.a11 x.edges.length V.c11] 32)).alloc (.cells #[.int .i64 y.k, .slice U.a1 y.ord.length U.c1, .slice U.a2 y.outs.length U.c2, .slice U.a3 y.turn.length U.c3, .int .i64 y.outer, .slice U.a5 y.pts.length U.c5, .slice U.a6 y.lines.length U.c6, .slice U.a7 y.b0.length U.c7, .slice U.a8 y.b1.length U.c8, .slice U.a9 y.b2.length U.c9, .slice U.a10 y.b3.length U.c10, .slice U.a11 y.edges.length U.c11] 32)) := ((Below.refl _ _).alloc (Nat.le_refl _) _).alloc (by simp) _
  have HX1 := Lib.hid (show Blk ((w.alloc (.cells #[.int .i64 x.k, .slice V.a1 x.ord.length V.c1, .slice V.a2 x.outs.length V.c2, .slice V.a3 x.turn.length V.c3, .int .i64 x.outer, .slice V.a5 x.pts.length V.c5, .slice V.a6 x.lines.length V.c6, .slice V.a7 x.b0.length V.c7, .slice V.a8 x.b1.length V.c8, .slice V.a9 x.b2.length V.c9, .slice V.a10 x.b3.length V.c10, .slice V.a11 x.edges.length V.c11] 32)).alloc (.cells #[.int .i64 y.k, .slice U.a1 y.ord.length U.c1, .slice U.a2 y.outs.length U.c2, .slice U.a3 y.turn.length U.c3, .int .i64 y.outer, .slice U.a5 y.pts.length U.c5, .slice U.a6 y.lines.length U.c6, .slice U.a7 y.b0.length U.c7, .slice U.a8 y.b1.length U.c8, .slice U.a9 y.b2.length U.c9, .slice U.a10 y.b3.length U.c10, .slice U.a11 y.edges.length U.c11] 32)) w.heap.size 32 #[.int .i64 x.k, .slice V.a1 x.ord.length V.c1, .slice V.a2 x.outs.length V.c2, .slice V.a3 x.turn.length V.c3, .int .i64 x.outer, .slice V.a5 x.pts.length V.c5, .slice V.a6 x.lines.length V.c6, .slice V.a7 x.b0.length V.c7, .slice V.a8 x.b1.length V.c8, .slice V.a9 x.b2.length V.c9, .slice V.a10 x.b3.length V.c10, .slice V.a11 x.edges.length V.c11] from (Blk.new w _ _).alloc _)
  have HY1 := Lib.hid (show Blk ((w.alloc (.cells #[.int .i64 x.k, .slice V.a1 x.ord.length V.c1, .slice V.a2 x.outs.length V.c2, .slice V.a3 x.turn.length V.c3, .int .i64 x.outer, .slice V.a5 x.pts.length V.c5, .slice V.a6 x.lines.length V.c6, .slice V.a7 x.b0.length V.c7, .slice V.a8 x.b1.length V.c8, .slice V.a9 x.b2.length V.c9, .slice V.a10 x.b3.length V.c10, .slice V.a11 x.edges.length V.c11] 32)).alloc (.cells #[.int .i64 y.k, .slice U.a1 y.ord.length U.c1, .slice U.a2 y.outs.length U.c2, .slice U.a3 y.turn.length U.c3, .int .i64 y.outer, .slice U.a5 y.pts.length U.c5, .slice U.a6 y.lines.length U.c6, .slice U.a7 y.b0.length U.c7, .slice U.a8 y.b1.length U.c8, .slice U.a9 y.b2.length U.c9, .slice U.a10 y.b3.length U.c10, .slice U.a11 y.edges.length U.c11] 32)) (w.heap.size + 1) 32 #[.int .i64 y.k, .slice U.a1 y.ord.length U.c1, .slice U.a2 y.outs.length U.c2, .slice U.a3 y.turn.length U.c3, .int .i64 y.outer, .slice U.a5 y.pts.length U.c5, .slice U.a6 y.lines.length U.c6, .slice U.a7 y.b0.length U.c7, .slice U.a8 y.b1.length U.c8, .slice U.a9 y.b2.length U.c9, .slice U.a10 y.b3.length U.c10, .slice U.a11 y.edges.length U.c11] from blk_new' _ _ _ _ (by simp))
  have HX := Lib.hid (hx.below hb1)
  have HY := Lib.hid (hy.below hb1)
  have HS := Lib.hid sx
  have HB := Lib.hid hb1
  have HF := Lib.hid (fun (h : x ≠ y) (w' : World) (hb : Below w.heap.size w w') => (⟨by rw [decide_eq_false h], hb⟩ : SamePost x y w (.returned (.bool false)) w'))
  have HT := Lib.hid (fun (h : x = y) (w' : World) (hb : Below w.heap.size w w') => (⟨by rw [decide_eq_true h], hb⟩ : SamePost x y w (.returned (.bool true)) w'))
  clear hx hy sx hb1
  unfold crtVal crtCells
  go_enter Try.func13, Try.ntmps13
  simp only [List.append, List.append_eq, List.cons_append, List.nil_append]
  go_upto_region 1 with fail
  generalize hw1 : (w.alloc (.cells #[.int .i64 x.k, .slice V.a1 x.ord.length V.c1, .slice V.a2 x.outs.length V.c2, .slice V.a3 x.turn.length V.c3, .int .i64 x.outer, .slice V.a5 x.pts.length V.c5, .slice V.a6 x.lines.length V.c6, .slice V.a7 x.b0.length V.c7, .slice V.a8 x.b1.length V.c8, .slice V.a9 x.b2.length V.c9, .slice V.a10 x.b3.length V.c10, .slice V.a11 x.edges.length V.c11] 32)).alloc (.cells #[.int .i64 y.k, .slice U.a1 y.ord.length U.c1, .slice U.a2 y.outs.length U.c2, .slice U.a3 y.turn.length U.c3, .int .i64 y.outer, .slice U.a5 y.pts.length U.c5, .slice U.a6 y.lines.length U.c6, .slice U.a7 y.b0.length U.c7, .slice U.a8 y.b1.length U.c8, .slice U.a9 y.b2.length U.c9, .slice U.a10 y.b3.length U.c10, .slice U.a11 y.edges.length U.c11] 32) = w1 at *
  clear hw1
  have q0 := HX1.out.cell 0
  have q1 := HX1.out.cell 1
  have q2 := HX1.out.cell 2
  have q3 := HX1.out.cell 3
  have q4 := HX1.out.cell 4
  have q5 := HX1.out.cell 5
  have q6 := HX1.out.cell 6
  have q7 := HX1.out.cell 7
  have q8 := HX1.out.cell 8
  have q9 := HX1.out.cell 9
  have q10 := HX1.out.cell 10
  have q11 := HX1.out.cell 11
  simp only [List.getElem?_toArray, List.getElem?_cons_zero, List.getElem?_cons_succ] at q0 q1 q2 q3 q4 q5 q6 q7 q8 q9 q10 q11
  have p0 := HY1.out.cell 0
  have p1 := HY1.out.cell 1
  have p2 := HY1.out.cell 2
  have p3 := HY1.out.cell 3
  have p4 := HY1.out.cell 4
  have p5 := HY1.out.cell 5
  have p6 := HY1.out.cell 6
  have p7 := HY1.out.cell 7
  have p8 := HY1.out.cell 8
  have p9 := HY1.out.cell 9
  have p10 := HY1.out.cell 10
  have p11 := HY1.out.cell 11
  simp only [List.getElem?_toArray, List.getElem?_cons_zero, List.getElem?_cons_succ] at p0 p1 p2 p3 p4 p5 p6 p7 p8 p9 p10 p11
  by_cases h0 : x.k = y.k
  case neg =>
    have hd : (x.k != y.k) = true := by simpa using h0
    have HN := Lib.hid (fun e : x = y => h0 (by rw [e]))
    clear h0
    go_wp2_with fail
    go_ret
    exact HF.out HN.out _ HB.out
  have hd0 : (x.k != y.k) = false := by simpa using h0
  have H0 := Lib.hid h0
  clear h0
  by_cases h4 : x.outer = y.outer
  case neg =>
    have hd : (x.outer != y.outer) = true := by simpa using h4
    have HN := Lib.hid (fun e : x = y => h4 (by rw [e]))
    clear h4
    go_wp2_with fail
    go_ret
    exact HF.out HN.out _ HB.out
  have hd4 : (x.outer != y.outer) = false := by simpa using h4
  have H4 := Lib.hid h4
  clear h4
  go_wp2_with fail
  refine (ints_any V.a1 U.a1 V.c1 U.c1 x.ord y.ord (w1) HX.out.h1 HY.out.h1 (by have := HS.out.le.l1; omega)).mono ?_
  rintro e _ ⟨rfl, m1, rfl⟩
  cases hd : decide (x.ord = y.ord) with
  | false =>
    have HN := Lib.hid (fun e : x = y => (of_decide_eq_false hd) (by rw [e]))
    clear hd
    go_wp2_with fail
    go_ret
    exact HF.out HN.out _ (below_drewN HB.out _)
  | true =>
  have H1 := Lib.hid (of_decide_eq_true hd)
  clear hd
  go_wp2_with fail
  refine (rows_any V.a2 U.a2 V.c2 U.c2 x.outs y.outs (w1.drewN (m1)) HX.out.h2 HY.out.h2 (by have := HS.out.le.l2; omega) (fun l hl => by have := HS.out.outs l hl; omega)).mono ?_
  rintro e _ ⟨rfl, m2, rfl⟩
  cases hd : decide (x.outs = y.outs) with
  | false =>
    have HN := Lib.hid (fun e : x = y => (of_decide_eq_false hd) (by rw [e]))
    clear hd
    go_wp2_with fail
    go_ret
    exact HF.out HN.out _ (below_drewN HB.out _)
  | true =>
  have H2 := Lib.hid (of_decide_eq_true hd)
  clear hd
  go_wp2_with fail
  refine (rows_any V.a3 U.a3 V.c3 U.c3 x.turn y.turn (w1.drewN (m1 + m2)) HX.out.h3 HY.out.h3 (by have := HS.out.le.l3; omega) (fun l hl => by have := HS.out.turn l hl; omega)).mono ?_
  rintro e _ ⟨rfl, m3, rfl⟩
  cases hd : decide (x.turn = y.turn) with
  | false =>
    have HN := Lib.hid (fun e : x = y => (of_decide_eq_false hd) (by rw [e]))
    clear hd
    go_wp2_with fail
    go_ret
    exact HF.out HN.out _ (below_drewN HB.out _)
  | true =>
  have H3 := Lib.hid (of_decide_eq_true hd)
  clear hd
  go_wp2_with fail
  refine (spots_any V.a5 U.a5 V.c5 U.c5 x.pts y.pts (w1.drewN (m1 + m2 + m3)) HX.out.h5 HY.out.h5 (by have := HS.out.le.l5; omega)).mono ?_
  rintro e _ ⟨rfl, m5, rfl⟩
  cases hd : decide (x.pts = y.pts) with
  | false =>
    have HN := Lib.hid (fun e : x = y => (of_decide_eq_false hd) (by rw [e]))
    clear hd
    go_wp2_with fail
    go_ret
    exact HF.out HN.out _ (below_drewN HB.out _)
  | true =>
  have H5 := Lib.hid (of_decide_eq_true hd)
  clear hd
  by_cases h6 : x.lines.length = y.lines.length
  case neg =>
    have hd : ((x.lines.length : Int) != (y.lines.length : Int)) = true := by rw [bne_iff_ne]; omega
    have HN := Lib.hid (fun e : x = y => h6 (by rw [e]))
    clear h6
    go_wp2_with fail
    go_ret
    exact HF.out HN.out _ (below_drewN HB.out _)
  have hd6 : ((x.lines.length : Int) != (y.lines.length : Int)) = false := by rw [h6]; simp
  have H6 := Lib.hid h6
  clear h6
  go_wp2_with fail
  refine (ints_any V.a11 U.a11 V.c11 U.c11 x.edges y.edges (w1.drewN (m1 + m2 + m3 + m5)) HX.out.h11 HY.out.h11 (by have := HS.out.le.l11; omega)).mono ?_
  rintro e _ ⟨rfl, m11, rfl⟩
  cases hd : decide (x.edges = y.edges) with
  | false =>
    have HN := Lib.hid (fun e : x = y => (of_decide_eq_false hd) (by rw [e]))
    clear hd
    go_wp2_with fail
    go_ret
    exact HF.out HN.out _ (below_drewN HB.out _)
  | true =>
  have H11 := Lib.hid (of_decide_eq_true hd)
  clear hd
  go_wp2_with fail
  have hll : x.lines.length ≤ 3000 := HS.out.le.l6
  have HXL := Lib.hid HX.out.h6
  have HYL := Lib.hid HY.out.h6
  have Hd6 := Lib.hid hd6
  clear hd0 hd4 hd6
  generalize V.a6 = A6 at *
  generalize U.a6 = D6 at *
  go_loopg [5] x.lines.length (fun k s5 wr => ∃ i m : Nat, s5 = .int .i64 i ∧ i ≤ x.lines.length ∧ k = x.lines.length - i ∧ wr = w1.drewN m ∧ ∀ j (h1 : j < x.lines.length) (h2 : j < y.lines.length), j < i → x.lines[j] = y.lines[j])
  case atStart => exact ⟨0, _, rfl, by omega, rfl, rfl, fun j _ _ hj => absurd hj (by omega)⟩
  case round =>
    obtain ⟨i, m, rfl, hi, hk, hwr, hp⟩ := hrel
    have Hk := Lib.hid hk
    have Hp := Lib.hid hp
    have Hwr := Lib.hid hwr
    clear hk hp
    by_cases hlt : i < x.lines.length
    · have hlt' : (i : Int) < x.lines.length := by omega
      have hlt2 : i < y.lines.length := by have := H6.out; omega
      have hlt2' : (i : Int) < y.lines.length := by omega
      obtain ⟨b1, o1, rfl, _, c1⟩ := HXL.out (by omega)
      obtain ⟨b2, o2, rfl, _, c2⟩ := HYL.out (by omega)
      obtain ⟨A1, d1, e1, f1⟩ := c1 i hlt
      obtain ⟨A2, d2, e2, f2⟩ := c2 i hlt2
      have e1 : wr.cell? ⟨b1, o1 + i, none⟩ = some (.slice A1 x.lines[i].length d1) := by rw [hwr]; exact e1
      have e2 : wr.cell? ⟨b2, o2 + i, none⟩ = some (.slice A2 y.lines[i].length d2) := by rw [hwr]; exact e2
      have q6' : wr.cell? ⟨w.heap.size, 6, none⟩ = some (.slice (some ⟨b1, o1, none⟩) x.lines.length V.c6) := by rw [hwr]; exact q6
      have p6' : wr.cell? ⟨w.heap.size + 1, 6, none⟩ = some (.slice (some ⟨b2, o2, none⟩) y.lines.length U.c6) := by rw [hwr]; exact p6
      have HR := Lib.hid (fun n => spots_any A1 A2 d1 d2 x.lines[i] y.lines[i] (wr.drewN n) (B1 := w.heap.size) (B2 := w.heap.size) (by rw [hwr]; exact f1) (by rw [hwr]; exact f2) (by have := HS.out.lines _ (List.getElem_mem hlt); omega))
      clear c1 c2 f1 f2 hwr q0 q1 q2 q3 q4 q5 q6 q7 q8 q9 q10 q11 p0 p1 p2 p3 p4 p5 p6 p7 p8 p9 p10 p11
      have HS1 := Lib.hid (fun (h : x.lines[i] = y.lines[i]) (j : Nat) (h1 : j < x.lines.length) (h2 : j < y.lines.length) (hji : j < i + 1) => (by
        by_cases e : j = i
        · subst e; exact h
        · exact Hp.out j h1 h2 (by omega) : x.lines[j] = y.lines[j]))
      have HN := Lib.hid (fun (h : x.lines[i] ≠ y.lines[i]) (e : x = y) => h (by simp [e]))
      generalize x.lines[i] = p at *
      generalize y.lines[i] = q at *
      by_cases he : p = q
      · have he' : decide (p = q) = true := decide_eq_true he
        rw [he'] at HR
        have HS2 := Lib.hid (HS1.out he)
        clear he he'
        go_wp2_with fail
        go_quiet ((go_at_call 26; exact quiet_b (HR.out _)))
        go_wp2_with fail
        go_roundg (x.lines.length - (i + 1))
        case measure => rw [Hk.out]; omega
        case rel => exact ⟨i + 1, m + nq, by go_num, by omega, rfl, by rw [Hwr.out]; simp, HS2.out⟩
      · have he' : decide (p = q) = false := decide_eq_false he
        rw [he'] at HR
        have HN2 := Lib.hid (HN.out he)
        clear he he'
        go_wp2_with fail
        go_quiet ((go_at_call 26; exact quiet_b (HR.out _)))
        go_wp2_with fail
        go_ret
        exact HF.out HN2.out _ (by rw [Hwr.out]; exact below_drewN (below_drewN HB.out _) _)
    · have hie : i = x.lines.length := by omega
      subst hie
      have HLL := Lib.hid (show x.lines = y.lines from eq_of_prefix H6.out fun j h1 h2 => Hp.out j h1 h2 h1)
      subst hwr
      go_wp2_with fail
      refine (ints_any V.a7 U.a7 V.c7 U.c7 x.b0 y.b0 (w1.drewN m) HX.out.h7 HY.out.h7 (by have := HS.out.le.l7; omega)).mono ?_
      rintro e _ ⟨rfl, m7, rfl⟩
      cases hd : decide (x.b0 = y.b0) with
      | false =>
        have HN := Lib.hid (fun e : x = y => (of_decide_eq_false hd) (by rw [e]))
        clear hd
        go_wp2_with fail
        go_ret
        exact HF.out HN.out _ (below_drewN HB.out _)
      | true =>
      have H7 := Lib.hid (of_decide_eq_true hd)
      clear hd
      go_wp2_with fail
      refine (ints_any V.a8 U.a8 V.c8 U.c8 x.b1 y.b1 (w1.drewN (m + m7)) HX.out.h8 HY.out.h8 (by have := HS.out.le.l8; omega)).mono ?_
      rintro e _ ⟨rfl, m8, rfl⟩
      cases hd : decide (x.b1 = y.b1) with
      | false =>
        have HN := Lib.hid (fun e : x = y => (of_decide_eq_false hd) (by rw [e]))
        clear hd
        go_wp2_with fail
        go_ret
        exact HF.out HN.out _ (below_drewN HB.out _)
      | true =>
      have H8 := Lib.hid (of_decide_eq_true hd)
      clear hd
      go_wp2_with fail
      refine (ints_any V.a9 U.a9 V.c9 U.c9 x.b2 y.b2 (w1.drewN (m + m7 + m8)) HX.out.h9 HY.out.h9 (by have := HS.out.le.l9; omega)).mono ?_
      rintro e _ ⟨rfl, m9, rfl⟩
      cases hd : decide (x.b2 = y.b2) with
      | false =>
        have HN := Lib.hid (fun e : x = y => (of_decide_eq_false hd) (by rw [e]))
        clear hd
        go_wp2_with fail
        go_ret
        exact HF.out HN.out _ (below_drewN HB.out _)
      | true =>
      have H9 := Lib.hid (of_decide_eq_true hd)
      clear hd
      go_wp2_with fail
      refine (ints_any V.a10 U.a10 V.c10 U.c10 x.b3 y.b3 (w1.drewN (m + m7 + m8 + m9)) HX.out.h10 HY.out.h10 (by have := HS.out.le.l10; omega)).mono ?_
      rintro e _ ⟨rfl, m10, rfl⟩
      cases hd : decide (x.b3 = y.b3) with
      | false =>
        have HN := Lib.hid (fun e : x = y => (of_decide_eq_false hd) (by rw [e]))
        clear hd
        go_wp2_with fail
        go_ret
        exact HF.out HN.out _ (below_drewN HB.out _)
      | true =>
        have H10 := Lib.hid (of_decide_eq_true hd)
        clear hd
        have HE := Lib.hid (show x = y from Crt.ext' H0.out H1.out H2.out H3.out H4.out H5.out HLL.out H7.out H8.out H9.out H10.out H11.out)
        go_wp2_with fail
        go_ret
        exact HT.out HE.out _ (below_drewN HB.out _)
end Go.Proofs.Ytmlbjcngboegfaa
