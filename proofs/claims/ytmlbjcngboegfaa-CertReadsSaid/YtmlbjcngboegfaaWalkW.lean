/-
  walk: what it writes. Printed by wip/C/wwalk.py. Written by an AI agent.
-/
import Derived.Test.YtmlbjcngboegfaaCrt
namespace Go.Proofs.Ytmlbjcngboegfaa
open Go.RowKit

theorem CrtIs.ran {w w' : World} {B gc : Nat} {A : Option Addr} {c : Nat} {ov : Value} {s : CS} {V : CV} {x : Crt} {X : Nat → Prop} (h : CrtIs w B V x) (hc : Coder w B gc false A c ov s) (ho : Only (coderK gc ov X) w w') (hX : ∀ i, X i → B ≤ i) : CrtIs w' B V x :=
  h.below (cell_kept hc ho hX)
theorem Blk.ran {w w' : World} {B gc g : Nat} {A : Option Addr} {c : Nat} {ov : Value} {s : CS} {t : TypeId} {cs : Array Value} {X : Nat → Prop} (h : Blk w g t cs) (hg : g < B) (hc : Coder w B gc false A c ov s) (ho : Only (coderK gc ov X) w w') (hX : ∀ i, X i → B ≤ i) : Blk w' g t cs :=
  h.below (cell_kept hc ho hX) hg
def barOf (x : Crt) : Nat → List Int
  | 0 => x.b0
  | 1 => x.b1
  | 2 => x.b2
  | _ => x.b3
def wBars (x : Crt) : Nat → CS → CS
  | 0, s => s
  | n + 1, s => wInts (barOf x n) (wBars x n s)
theorem wBars_len (x : Crt) (s : CS) (i : Nat) : (wBars x i s).out.length ≤ s.out.length + 513 * i := by
  induction i with
  | zero => simp [wBars]
  | succ i ih =>
    have h2 := wInts_len (barOf x i) (wBars x i s)
    refine Nat.le_trans h2 ?_
    generalize (wBars x i s).out.length = p at *
    clear h2
    omega
theorem barAt {w : World} {B gx : Nat} {V : CV} {x : Crt} {t : TypeId} (h : Blk w gx t (crtCells V x)) (hI : CrtIs w B V x) {i : Nat} (hi : i < 4) : ∃ A c, w.cell? ⟨gx, 7 + i, none⟩ = some (.slice A (barOf x i).length c) ∧ Cells w B A (intCells (barOf x i)) := by
  have e : i = 0 ∨ i = 1 ∨ i = 2 ∨ i = 3 := by omega
  rcases e with rfl | rfl | rfl | rfl
  · exact ⟨_, _, h.cell 7, hI.h7⟩
  · exact ⟨_, _, h.cell 8, hI.h8⟩
  · exact ⟨_, _, h.cell 9, hI.h9⟩
  · exact ⟨_, _, h.cell 10, hI.h10⟩

set_option maxRecDepth 20000 in
set_option maxHeartbeats 4000000 in
theorem walkW_any (B gc gx : Nat) (A : Option Addr) (c : Nat) (ov : Value) (s : CS) (V : CV) (x : Crt) (w0 : World) (h : Coder w0 B gc false A c ov s) (hl : s.out.length ≤ 1000) (hb : gx < B) (hx : Blk w0 gx 39 (crtCells V x)) (hI : CrtIs w0 B V x) :
    Calls Try.prog 17 #[.pointer (some ⟨gc, 0, none⟩), .pointer (some ⟨gx, 0, none⟩)] w0 (fun e w' => e = .returned (.bool (wWalk x s).1) ∧ Ran B gc false ov (fun _ => False) w0 w' (wWalk x s).2) := by
  have y0 : w0.cell? ⟨gx, 0, none⟩ = some (.int .i64 x.k) := hx.cell 0
  have HC0 := Lib.hid h
  have HX0 := Lib.hid hx
  have HI0 := Lib.hid hI
  clear h hx hI
  by_cases k1 : x.k = 1
  · have HW := Lib.hid (show wWalk x s = (true, wRows x.outs (wInts x.ord s)) by unfold wWalk; rw [if_pos k1])
    rw [k1] at y0
    clear k1
    go_enter Try.func17, Try.ntmps17
    go_wp2_with fail
    refine (intsW_any B gc A V.a1 c V.c1 ov s gx 1 x.ord w0 HC0.out (by omega) hb (HX0.out.cell 1) HI0.out.h1).mono ?_
    rintro e w1 ⟨rfl, A1, c1, ov1, hc1, ho1, hf1⟩
    have hlen1 := wInts_len x.ord s
    generalize wInts x.ord s = s1 at *
    have HX1 := Lib.hid (HX0.out.ran hb HC0.out ho1 fun _ h => h.elim)
    have HI1 := Lib.hid (HI0.out.ran HC0.out ho1 fun _ h => h.elim)
    have HC1 := Lib.hid hc1
    have HR1 := Lib.hid (And.intro ho1 hf1)
    clear hc1 ho1 hf1
    go_wp2_with fail
    refine (rowsWL B gc A1 V.a2 c1 V.c2 ov1 s1 gx 2 x.outs w1 HC1.out (by omega) hb (HX1.out.cell 2) HI1.out.h2).mono ?_
    rintro e w2 ⟨rfl, A2, c2, ov2, hc2, ho2, hf2⟩
    have hlen2 := wRows_len x.outs s1
    have HS2 := Lib.hid (show wRows x.outs s1 = wList wInts x.outs s1 from rfl)
    rw [HS2.out] at HW
    rw [HS2.out] at hlen2
    generalize wList wInts x.outs s1 = s2 at *
    have HX2 := Lib.hid (HX1.out.ran hb HC1.out ho2 fun _ h => h.elim)
    have HI2 := Lib.hid (HI1.out.ran HC1.out ho2 fun _ h => h.elim)
    have HC2 := Lib.hid hc2
    have HR2 := Lib.hid (show Only (coderK gc ov fun _ => False) w0 w2 ∧ ∀ i, i < w0.heap.size → ov2.ownBlock = some i → ov.ownBlock = some i from by
      obtain ⟨_, _, _, _, _, _⟩ := HC2.out
      refine ⟨HR1.out.1.trans ho2 fun i hi hk => ?_, fun i hi he => HR1.out.2 i hi (hf2 i (Nat.lt_of_lt_of_le hi HR1.out.1.size) he)⟩
      rcases hk with hk | hk | hk
      · exact .inl hk
      · exact .inr (.inl (HR1.out.2 i hi hk))
      · exact hk.elim)
    clear hc2 ho2 hf2
    go_wp2_with fail
    go_ret
    rw [HW.out]
    exact ⟨rfl, A2, c2, ov2, HC2.out, HR2.out.1, HR2.out.2⟩
  by_cases k2 : x.k = 2
  · have HW := Lib.hid (show wWalk x s = (true, wPut x.outer (wRows x.turn s)) by unfold wWalk; rw [if_neg k1, if_pos k2])
    rw [k2] at y0
    clear k1 k2
    go_enter Try.func17, Try.ntmps17
    go_wp2_with fail
    refine (rowsWL B gc A V.a3 c V.c3 ov s gx 3 x.turn w0 HC0.out (by omega) hb (HX0.out.cell 3) HI0.out.h3).mono ?_
    rintro e w1 ⟨rfl, A1, c1, ov1, hc1, ho1, hf1⟩
    have hlen1 := wRows_len x.turn s
    have HS1 := Lib.hid (show wRows x.turn s = wList wInts x.turn s from rfl)
    rw [HS1.out] at HW
    rw [HS1.out] at hlen1
    generalize wList wInts x.turn s = s1 at *
    have HX1 := Lib.hid (HX0.out.ran hb HC0.out ho1 fun _ h => h.elim)
    have HI1 := Lib.hid (HI0.out.ran HC0.out ho1 fun _ h => h.elim)
    have HC1 := Lib.hid hc1
    have HR1 := Lib.hid (And.intro ho1 hf1)
    clear hc1 ho1 hf1
    go_wp2_with fail
    refine (numberW_any B gc A1 c1 ov1 s1 gx 4 x.outer w1 HC1.out (by omega) (HX1.out.cell 4)).mono ?_
    rintro e w2 ⟨rfl, A2, c2, ov2, hc2, ho2, hf2⟩
    generalize wPut x.outer s1 = s2 at *
    have HX2 := Lib.hid (HX1.out.ran hb HC1.out ho2 fun _ h => h.elim)
    have HI2 := Lib.hid (HI1.out.ran HC1.out ho2 fun _ h => h.elim)
    have HC2 := Lib.hid hc2
    have HR2 := Lib.hid (show Only (coderK gc ov fun _ => False) w0 w2 ∧ ∀ i, i < w0.heap.size → ov2.ownBlock = some i → ov.ownBlock = some i from by
      obtain ⟨_, _, _, _, _, _⟩ := HC2.out
      refine ⟨HR1.out.1.trans ho2 fun i hi hk => ?_, fun i hi he => HR1.out.2 i hi (hf2 i (Nat.lt_of_lt_of_le hi HR1.out.1.size) he)⟩
      rcases hk with hk | hk | hk
      · exact .inl hk
      · exact .inr (.inl (HR1.out.2 i hi hk))
      · exact hk.elim)
    clear hc2 ho2 hf2
    go_wp2_with fail
    go_ret
    rw [HW.out]
    exact ⟨rfl, A2, c2, ov2, HC2.out, HR2.out.1, HR2.out.2⟩
  by_cases k3 : x.k = 3
  · have HW := Lib.hid (show wWalk x s = (true, wLines x.lines (wPts x.pts s)) by unfold wWalk; rw [if_neg k1, if_neg k2, if_pos k3])
    rw [k3] at y0
    clear k1 k2 k3
    go_enter Try.func17, Try.ntmps17
    go_wp2_with fail
    refine (ptsW_any B gc A V.a5 c V.c5 ov s gx 5 x.pts w0 HC0.out (by omega) hb (HX0.out.cell 5) HI0.out.h5).mono ?_
    rintro e w1 ⟨rfl, A1, c1, ov1, hc1, ho1, hf1⟩
    have hlen1 := wPts_len x.pts s
    generalize wPts x.pts s = s1 at *
    have HX1 := Lib.hid (HX0.out.ran hb HC0.out ho1 fun _ h => h.elim)
    have HI1 := Lib.hid (HI0.out.ran HC0.out ho1 fun _ h => h.elim)
    have HC1 := Lib.hid hc1
    have HR1 := Lib.hid (And.intro ho1 hf1)
    clear hc1 ho1 hf1
    go_wp2_with fail
    refine (linesWL B gc A1 V.a6 c1 V.c6 ov1 s1 gx 6 x.lines w1 HC1.out (by omega) hb (HX1.out.cell 6) HI1.out.h6).mono ?_
    rintro e w2 ⟨rfl, A2, c2, ov2, hc2, ho2, hf2⟩
    have hlen2 := wLines_len x.lines s1
    have HS2 := Lib.hid (show wLines x.lines s1 = wList wPts x.lines s1 from rfl)
    rw [HS2.out] at HW
    rw [HS2.out] at hlen2
    generalize wList wPts x.lines s1 = s2 at *
    have HX2 := Lib.hid (HX1.out.ran hb HC1.out ho2 fun _ h => h.elim)
    have HI2 := Lib.hid (HI1.out.ran HC1.out ho2 fun _ h => h.elim)
    have HC2 := Lib.hid hc2
    have HR2 := Lib.hid (show Only (coderK gc ov fun _ => False) w0 w2 ∧ ∀ i, i < w0.heap.size → ov2.ownBlock = some i → ov.ownBlock = some i from by
      obtain ⟨_, _, _, _, _, _⟩ := HC2.out
      refine ⟨HR1.out.1.trans ho2 fun i hi hk => ?_, fun i hi he => HR1.out.2 i hi (hf2 i (Nat.lt_of_lt_of_le hi HR1.out.1.size) he)⟩
      rcases hk with hk | hk | hk
      · exact .inl hk
      · exact .inr (.inl (HR1.out.2 i hi hk))
      · exact hk.elim)
    clear hc2 ho2 hf2
    go_wp2_with fail
    go_ret
    rw [HW.out]
    exact ⟨rfl, A2, c2, ov2, HC2.out, HR2.out.1, HR2.out.2⟩
  by_cases k4 : x.k = 4
  · have HW := Lib.hid (show wWalk x s = (true, wBars x 4 s) by unfold wWalk; rw [if_neg k1, if_neg k2, if_neg k3, if_pos k4]; rfl)
    rw [k4] at y0
    clear k1 k2 k3 k4
    go_enter Try.func17, Try.ntmps17
    go_wp2_with fail
    go_loopg [52] 4 (fun g s52 wr => ∃ (i : Nat) (A1 : Option Addr) (c1 : Nat) (ov1 : Value), s52 = .int .i64 i ∧ i ≤ 4 ∧ g = 4 - i ∧ Coder wr B gc false A1 c1 ov1 (wBars x i s) ∧ Only (coderK gc ov (fun _ => False)) w0 wr ∧ ∀ i, i < w0.heap.size → ov1.ownBlock = some i → ov.ownBlock = some i)
    case atStart => exact ⟨0, A, c, ov, rfl, by omega, rfl, HC0.out, Only.refl _ _, fun _ _ h => h⟩
    case round =>
      obtain ⟨i, A1, c1, ov1, rfl, hi, hk, hc, ho, hf⟩ := hrel
      have Hk := Lib.hid hk
      have Hc := Lib.hid hc
      have Ho := Lib.hid ho
      have Hf := Lib.hid hf
      clear hk hc ho hf
      by_cases hlt : i < 4
      · have hlt' : (i : Int) < 4 := by omega
        obtain ⟨Ai, ci, hcell, hcs⟩ := barAt HX0.out HI0.out hlt
        have hlen := wBars_len x s i
        have hlen : (wBars x i s).out.length ≤ 900000000 := by
          generalize (wBars x i s).out.length = p at *
          omega
        have hcell1 : wr.cell? ⟨gx, 7 + i, none⟩ = some (.slice Ai (barOf x i).length ci) := ((cell_kept HC0.out Ho.out fun _ h => h.elim).cell (p := ⟨gx, 7 + i, none⟩) hb).trans hcell
        have Hcs := Lib.hid (hcs.below (cell_kept HC0.out Ho.out fun _ h => h.elim))
        have HB := Lib.hid (show wInts (barOf x i) (wBars x i s) = wBars x (i + 1) s from rfl)
        have Hcell := Lib.hid hcell1
        clear hcell hcell1 hcs
        go_wp2_with fail
        refine (intsW_any B gc A1 Ai c1 ci ov1 _ gx (7 + i) (barOf x i) wr Hc.out hlen hb Hcell.out Hcs.out).mono ?_
        rw [HB.out]
        rintro e w1 ⟨rfl, A2, c2, ov2, hc2, ho2, hf2⟩
        have Hc2 := Lib.hid hc2
        have Hr2 := Lib.hid (show Only (coderK gc ov fun _ => False) w0 w1 ∧ ∀ i, i < w0.heap.size → ov2.ownBlock = some i → ov.ownBlock = some i from by
          refine ⟨Ho.out.trans ho2 fun i hi hk => ?_, fun i hi he => Hf.out i hi (hf2 i (Nat.lt_of_lt_of_le hi Ho.out.size) he)⟩
          rcases hk with hk | hk | hk
          · exact .inl hk
          · exact .inr (.inl (Hf.out i hi hk))
          · exact hk.elim)
        clear hc2 ho2 hf2
        go_wp2_with fail
        go_roundg (4 - (i + 1))
        case measure => rw [Hk.out]; omega
        case rel => exact ⟨i + 1, A2, c2, ov2, by go_num, by omega, rfl, Hc2.out, Hr2.out.1, Hr2.out.2⟩
      · have hie : i = 4 := by omega
        subst hie
        go_wp2_with fail
        go_ret
        rw [HW.out]
        exact ⟨rfl, A1, c1, ov1, Hc.out, Ho.out, Hf.out⟩
  by_cases k5 : x.k = 5 ∨ x.k = 6
  · have HW := Lib.hid (show wWalk x s = (true, wInts x.edges s) by unfold wWalk; rw [if_neg k1, if_neg k2, if_neg k3, if_neg k4, if_pos k5])
    clear k1 k2 k3 k4
    rcases k5 with k5 | k5
    · rw [k5] at y0
      clear k5
      go_enter Try.func17, Try.ntmps17
      go_wp2_with fail
      refine (intsW_any B gc A V.a11 c V.c11 ov s gx 11 x.edges w0 HC0.out (by omega) hb (HX0.out.cell 11) HI0.out.h11).mono ?_
      rintro e w1 ⟨rfl, A1, c1, ov1, hc1, ho1, hf1⟩
      generalize wInts x.edges s = s1 at *
      have HX1 := Lib.hid (HX0.out.ran hb HC0.out ho1 fun _ h => h.elim)
      have HI1 := Lib.hid (HI0.out.ran HC0.out ho1 fun _ h => h.elim)
      have HC1 := Lib.hid hc1
      have HR1 := Lib.hid (And.intro ho1 hf1)
      clear hc1 ho1 hf1
      go_wp2_with fail
      go_ret
      rw [HW.out]
      exact ⟨rfl, A1, c1, ov1, HC1.out, HR1.out.1, HR1.out.2⟩
    · rw [k5] at y0
      clear k5
      go_enter Try.func17, Try.ntmps17
      go_wp2_with fail
      refine (intsW_any B gc A V.a11 c V.c11 ov s gx 11 x.edges w0 HC0.out (by omega) hb (HX0.out.cell 11) HI0.out.h11).mono ?_
      rintro e w1 ⟨rfl, A1, c1, ov1, hc1, ho1, hf1⟩
      generalize wInts x.edges s = s1 at *
      have HX1 := Lib.hid (HX0.out.ran hb HC0.out ho1 fun _ h => h.elim)
      have HI1 := Lib.hid (HI0.out.ran HC0.out ho1 fun _ h => h.elim)
      have HC1 := Lib.hid hc1
      have HR1 := Lib.hid (And.intro ho1 hf1)
      clear hc1 ho1 hf1
      go_wp2_with fail
      go_ret
      rw [HW.out]
      exact ⟨rfl, A1, c1, ov1, HC1.out, HR1.out.1, HR1.out.2⟩
  · have HW := Lib.hid (show wWalk x s = (false, s) by unfold wWalk; rw [if_neg k1, if_neg k2, if_neg k3, if_neg k4, if_neg k5])
    obtain ⟨k5, k6⟩ := not_or.1 k5
    go_enter Try.func17, Try.ntmps17
    go_wp2_with fail
    go_ret
    rw [HW.out]
    exact ⟨rfl, Ran.refl HC0.out⟩
end Go.Proofs.Ytmlbjcngboegfaa
