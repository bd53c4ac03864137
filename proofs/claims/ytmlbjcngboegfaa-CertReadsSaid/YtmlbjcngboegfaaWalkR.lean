/-
  walk: what it reads. Printed by wip/C/rwalk.py. Written by an AI agent.
-/
import Derived.Test.YtmlbjcngboegfaaWalkW
import Derived.Test.YtmlbjcngboegfaaListR2
namespace Go.Proofs.Ytmlbjcngboegfaa
open Go.RowKit

/-- a list that the call made -/
def Held {α : Type} (e : TypeId) (size : Nat) (G : World → Nat → List α → List Value → Prop) (w : World) (base : Nat) (v : Value) (l : List α) : Prop := ∃ xs, w.ownsRow base e size v l.length xs ∧ G w base l xs
section
variable {α : Type} {e inner : TypeId} {size : Nat} {G : World → Nat → List α → List Value → Prop} {w1 w2 : World} {base B gc gx : Nat} {v : Value} {l : List α} {rd : Bool} {A : Option Addr} {c : Nat} {ov : Value} {s : CS} {cs : Array Value}
theorem Held.keep (h : Held e size G w1 base v l) (hG : GKeep G inner) (hc : Coder w1 B gc rd A c ov s) (hx : Blk w1 gx 39 cs) (ho : Only (coderK gc ov (fun i => i = gx)) w1 w2)
    (h1 : e ≠ 53 ∧ e ≠ 5 ∧ e ≠ 39) (h2 : inner ≠ 53 ∧ inner ≠ 5 ∧ inner ≠ 39) : Held e size G w2 base v l := by
  have key : ∀ (t : TypeId), (t ≠ 53 ∧ t ≠ 5 ∧ t ≠ 39) → ∀ i, coderK gc ov (fun i => i = gx) i → ∀ cs, ¬ Blk w1 i t cs := fun t ht i hi cs hb => by
    rcases hi with hi | hi | hi
    · subst hi; exact ht.1 (blk_ty hb hc.blk)
    · obtain ⟨_, h⟩ := own_ty hc.own hi
      exact ht.2.1 (blk_ty hb h)
    · subst hi; exact ht.2.2 (blk_ty hb hx)
  obtain ⟨xs, ho1, hg⟩ := h
  refine ⟨xs, own_only ho1 ho fun g hg hk => ?_, hG _ _ _ _ _ _ hg ho (key inner h2)⟩
  obtain ⟨cs, hb⟩ := own_ty ho1 hg
  exact key e h1 g hk cs hb
theorem Held.slice (h : Held e size G w1 base v l) : ∃ A c, v = .slice A l.length c := by
  obtain ⟨xs, ho, _⟩ := h
  exact own_slice ho
end
/-- what lies from L on is as it was -/
def Fix (w w2 : World) (L : Nat) : Prop := ∀ p : Addr, L ≤ p.block → p.block < w.heap.size → w2.cell? p = w.cell? p
theorem Fix.refl (w : World) (L : Nat) : Fix w w L := fun _ _ _ => rfl
section
variable {w w2 : World} {base c L : Nat} {A : Option Addr}
theorem cells_own {base : Nat} {e : TypeId} {size n c : Nat} {xs : List Value} (h : w.ownsRow base e size (.slice A n c) n xs) (hf : Fix w w2 L) (hL : L ≤ base) : Cells w2 w.heap.size A xs := fun hn => by
  obtain ⟨b, off, e, hb, hc⟩ := Cells.of_own h hn
  subst e
  have hlo := (h.lt b rfl).1
  exact ⟨b, off, rfl, hb, fun j u hu => (hf ⟨b, off + j, none⟩ (Nat.le_trans hL hlo) hb).trans (hc j u hu)⟩
theorem Held.ints {l : List Int} (h : Held 3 1 GInts w base (.slice A l.length c) l) (hf : Fix w w2 L) (hL : L ≤ base) : Cells w2 w.heap.size A (intCells l) := by
  obtain ⟨xs, ho, rfl⟩ := h
  exact cells_own ho hf hL
theorem Held.pts {l : List (Int × Int)} (h : Held 85 2 GPts w base (.slice A l.length c) l) (hf : Fix w w2 L) (hL : L ≤ base) : Cells w2 w.heap.size A (edgeCells l) := by
  obtain ⟨xs, ho, rfl⟩ := h
  exact cells_own ho hf hL
theorem Held.rows {l : List (List Int)} (h : Held 22 1 GRows w base (.slice A l.length c) l) (hf : Fix w w2 L) (hL : L ≤ base) : TblAt intCells w2 w.heap.size A l := by
  obtain ⟨xs, ho, h1, h2⟩ := h
  intro hn
  obtain ⟨b, off, e, hb, hc⟩ := cells_own ho hf hL (by omega)
  refine ⟨b, off, e, hb, fun i hi => ?_⟩
  obtain ⟨u, hu, hou⟩ := h2 i hi
  obtain ⟨Ai, ci, rfl⟩ := own_slice hou
  exact ⟨Ai, ci, hc i _ hu, cells_own hou hf hL⟩
theorem Held.lines {l : List (List (Int × Int))} (h : Held 26 1 GLines w base (.slice A l.length c) l) (hf : Fix w w2 L) (hL : L ≤ base) : TblAt edgeCells w2 w.heap.size A l := by
  obtain ⟨xs, ho, h1, h2⟩ := h
  intro hn
  obtain ⟨b, off, e, hb, hc⟩ := cells_own ho hf hL (by omega)
  refine ⟨b, off, e, hb, fun i hi => ?_⟩
  obtain ⟨u, hu, hou⟩ := h2 i hi
  obtain ⟨Ai, ci, rfl⟩ := own_slice hou
  exact ⟨Ai, ci, hc i _ hu, cells_own hou hf hL⟩
theorem TblAt.nil {β : Type} {cl : List β → List Value} {w : World} {B : Nat} {A : Option Addr} : TblAt cl w B A [] := fun h => absurd h (by simp)
end
def CV0 : CV := ⟨none, none, none, none, none, none, none, none, none, none, 0, 0, 0, 0, 0, 0, 0, 0, 0, 0⟩
/-- what walk leaves, reading -/
def Walked (B gc gx : Nat) (ov : Value) (w w' : World) (r : Crt × CS) : Prop :=
  ∃ V, Ran B gc true ov (fun i => i = gx) w w' r.2 ∧ Blk w' gx 39 (crtCells V r.1) ∧ ∀ w2, Fix w' w2 w.heap.size → CrtIs w2 w'.heap.size V r.1
theorem crtIs_bare {w : World} {B : Nat} {V : CV} {k : Int} : CrtIs w B V (bare k) := ⟨Cells.nil, TblAt.nil, TblAt.nil, Cells.nil, TblAt.nil, Cells.nil, Cells.nil, Cells.nil, Cells.nil, Cells.nil⟩

def setBar (x : Crt) (i : Nat) (l : List Int) : Crt := match i with
  | 0 => { x with b0 := l }
  | 1 => { x with b1 := l }
  | 2 => { x with b2 := l }
  | _ => { x with b3 := l }
def setBarV (V : CV) (i : Nat) (A : Option Addr) (c : Nat) : CV := match i with
  | 0 => { V with a7 := A, c7 := c }
  | 1 => { V with a8 := A, c8 := c }
  | 2 => { V with a9 := A, c9 := c }
  | _ => { V with a10 := A, c10 := c }
def barV (V : CV) (x : Crt) (i : Nat) : Value := match i with
  | 0 => .slice V.a7 x.b0.length V.c7
  | 1 => .slice V.a8 x.b1.length V.c8
  | 2 => .slice V.a9 x.b2.length V.c9
  | _ => .slice V.a10 x.b3.length V.c10
def rBars (k : Int) : Nat → CS → Crt × CS
  | 0, s => (bare k, s)
  | n + 1, s => (setBar (rBars k n s).1 n (rInts (rBars k n s).2).1, (rInts (rBars k n s).2).2)
/-- only bars -/
def Barry (x : Crt) : Prop := x.ord = [] ∧ x.outs = [] ∧ x.turn = [] ∧ x.pts = [] ∧ x.lines = [] ∧ x.edges = []
theorem barry_set {x : Crt} (h : Barry x) (i : Nat) (l : List Int) : Barry (setBar x i l) := by
  unfold setBar
  split <;> exact h
theorem rBars_barry (k : Int) (s : CS) : ∀ i, Barry (rBars k i s).1
  | 0 => ⟨rfl, rfl, rfl, rfl, rfl, rfl⟩
  | i + 1 => barry_set (rBars_barry k s i) _ _
theorem barV_set {V : CV} {x : Crt} {i j : Nat} {l : List Int} {A : Option Addr} {c : Nat} (hi : i < 4) (hj : j < 4) : barV (setBarV V i A c) (setBar x i l) j = (if j = i then .slice A l.length c else barV V x j) ∧ barOf (setBar x i l) j = (if j = i then l else barOf x j) := by
  have e : i = 0 ∨ i = 1 ∨ i = 2 ∨ i = 3 := by omega
  have e' : j = 0 ∨ j = 1 ∨ j = 2 ∨ j = 3 := by omega
  rcases e with rfl | rfl | rfl | rfl <;> rcases e' with rfl | rfl | rfl | rfl <;> exact ⟨rfl, rfl⟩
theorem crt_setBar {V : CV} {x : Crt} {i : Nat} {l : List Int} {A : Option Addr} {c : Nat} (hi : i < 4) : (crtCells V x).setIfInBounds (7 + i) (.slice A l.length c) = crtCells (setBarV V i A c) (setBar x i l) := by
  have e : i = 0 ∨ i = 1 ∨ i = 2 ∨ i = 3 := by omega
  rcases e with rfl | rfl | rfl | rfl <;> rfl
theorem crt_barV {V : CV} {x : Crt} {i : Nat} (hi : i < 4) : (crtCells V x)[7 + i]? = some (barV V x i) := by
  have e : i = 0 ∨ i = 1 ∨ i = 2 ∨ i = 3 := by omega
  rcases e with rfl | rfl | rfl | rfl <;> rfl
theorem barV_eq {V : CV} {x : Crt} {i : Nat} (hi : i < 4) : ∃ A c, barV V x i = .slice A (barOf x i).length c := by
  have e : i = 0 ∨ i = 1 ∨ i = 2 ∨ i = 3 := by omega
  rcases e with rfl | rfl | rfl | rfl <;> exact ⟨_, _, rfl⟩

theorem rowsR_any (B gc : Nat) (A : Option Addr) (c : Nat) (ov : Value) (s : CS) (gx o : Nat) (t : TypeId) (cs : Array Value) (w : World) (h : Coder w B gc true A c ov s) (hl : s.out.length ≤ 800000000) (hx : Blk w gx t cs) (hne : gx ≠ gc) (hov : ov.ownBlock ≠ some gx) (hB : B ≤ gx) (ho : cs[o]? = some (.slice none 0 0)) (hti : t ≠ 3) :
    Calls Try.prog 35 #[.pointer (some ⟨gc, 0, none⟩), .pointer (some ⟨gx, o, none⟩), .func (.func 34) #[] #[]] w (fun e w' => e = .returned (.tuple #[]) ∧ Got 22 1 GRows B gc ov gx t cs o w w' (rRows s)) := rowsRL B gc A c ov s gx o t cs w h hl hx hne hov hB ho hti
theorem linesR_any (B gc : Nat) (A : Option Addr) (c : Nat) (ov : Value) (s : CS) (gx o : Nat) (t : TypeId) (cs : Array Value) (w : World) (h : Coder w B gc true A c ov s) (hl : s.out.length ≤ 800000000) (hx : Blk w gx t cs) (hne : gx ≠ gc) (hov : ov.ownBlock ≠ some gx) (hB : B ≤ gx) (ho : cs[o]? = some (.slice none 0 0)) (hti : t ≠ 85) :
    Calls Try.prog 38 #[.pointer (some ⟨gc, 0, none⟩), .pointer (some ⟨gx, o, none⟩), .func (.func 37) #[] #[]] w (fun e w' => e = .returned (.tuple #[]) ∧ Got 26 1 GLines B gc ov gx t cs o w w' (rLines s)) := linesRL B gc A c ov s gx o t cs w h hl hx hne hov hB ho hti
set_option maxRecDepth 20000 in
set_option maxHeartbeats 4000000 in
theorem walkR_any (B gc gx : Nat) (A : Option Addr) (c : Nat) (ov : Value) (s : CS) (k : Int) (w0 : World) (h : Coder w0 B gc true A c ov s) (hl : s.out.length ≤ 1000) (hx : Blk w0 gx 39 (crtCells CV0 (bare k))) (hne : gx ≠ gc) (hB : B ≤ gx) :
    Calls Try.prog 17 #[.pointer (some ⟨gc, 0, none⟩), .pointer (some ⟨gx, 0, none⟩)] w0 (fun e w' => e = .returned (.bool (rWalk k s).1) ∧ Walked B gc gx ov w0 w' (rWalk k s).2) := by
  have y0 : w0.cell? ⟨gx, 0, none⟩ = some (.int .i64 k) := hx.cell 0
  have hov : ov.ownBlock ≠ some gx := fun e => by
    obtain ⟨_, h2⟩ := own_ty h.own e
    exact absurd (blk_ty h2 hx) (by decide)
  have hgx := hx.lt
  have HC0 := Lib.hid h
  have HX0 := Lib.hid hx
  have HV := Lib.hid hov
  clear h hx hov
  by_cases k1 : k = 1
  · have HW := Lib.hid (show rWalk k s = (true, ⟨k, (rInts s).1, (rRows (rInts s).2).1, [], 0, [], [], [], [], [], [], []⟩, (rRows (rInts s).2).2) by unfold rWalk; rw [if_pos k1])
    subst k1
    go_enter Try.func17, Try.ntmps17
    go_wp2_with fail
    refine (intsR_any B gc A c ov s gx 1 _ _ w0 HC0.out (by omega) HX0.out hne HV.out hB rfl (by decide)).mono ?_
    rintro e w1 ⟨rfl, v1, xs1, hr1, hx1, ho1, hg1⟩
    obtain ⟨B1, d1, rfl⟩ := own_slice ho1
    obtain ⟨A1, c1, ov1, hc1, hor1, hf1⟩ := hr1
    have HH1 := Lib.hid (show Held 3 1 GInts w1 w0.heap.size (.slice B1 (rInts s).1.length d1) (rInts s).1 from ⟨xs1, ho1, hg1⟩)
    clear ho1 hg1
    have hlen1 := rList_out (each := rGet) rGet_out HC0.out.byt
    have hlen1 : (rInts s).2.out.length ≤ s.out.length + 1 := by unfold rInts; omega
    have HX1 := Lib.hid (show Blk w1 gx 39 (crtCells ⟨B1, none, none, none, none, none, none, none, none, none, d1, 0, 0, 0, 0, 0, 0, 0, 0, 0⟩ ⟨1, (rInts s).1, [], [], 0, [], [], [], [], [], [], []⟩) from hx1)
    have HC1 := Lib.hid hc1
    have HR1 := Lib.hid (And.intro hor1 hf1)
    have HV1 := Lib.hid (show ov1.ownBlock ≠ some gx from fun e => HV.out (HR1.out.2 gx hgx e))
    clear hx1 hc1 hor1 hf1
    generalize (rInts s).2 = s1 at *
    generalize (rInts s).1 = l1 at *
    go_wp2_with fail
    refine (rowsR_any B gc A1 c1 ov1 s1 gx 2 _ _ w1 HC1.out (by omega) HX1.out hne HV1.out hB rfl (by decide)).mono ?_
    rintro e w2 ⟨rfl, v2, xs2, hr2, hx2, ho2, hg2⟩
    obtain ⟨B2, d2, rfl⟩ := own_slice ho2
    obtain ⟨A2, c2, ov2, hc2, hor2, hf2⟩ := hr2
    have HH2 := Lib.hid (show Held 22 1 GRows w2 w1.heap.size (.slice B2 (rRows s1).1.length d2) (rRows s1).1 from ⟨xs2, ho2, hg2⟩)
    clear ho2 hg2
    have HH1 := Lib.hid (HH1.out.keep gints_keep HC1.out HX1.out hor2 (by decide) (by decide))
    have HX2 := Lib.hid (show Blk w2 gx 39 (crtCells ⟨B1, B2, none, none, none, none, none, none, none, none, d1, d2, 0, 0, 0, 0, 0, 0, 0, 0⟩ ⟨1, l1, (rRows s1).1, [], 0, [], [], [], [], [], [], []⟩) from hx2)
    have HC2 := Lib.hid hc2
    have HR2 := Lib.hid (show Only (coderK gc ov fun i => i = gx) w0 w2 ∧ ∀ i, i < w0.heap.size → ov2.ownBlock = some i → ov.ownBlock = some i from by
      refine ⟨HR1.out.1.trans hor2 fun i hi hk => ?_, fun i hi he => HR1.out.2 i hi (hf2 i (Nat.lt_of_lt_of_le hi HR1.out.1.size) he)⟩
      rcases hk with hk | hk | hk
      · exact .inl hk
      · exact .inr (.inl (HR1.out.2 i hi hk))
      · exact .inr (.inr hk))
    have HV2 := Lib.hid (show ov2.ownBlock ≠ some gx from fun e => HV.out (HR2.out.2 gx hgx e))
    clear hx2 hc2 hor2 hf2
    generalize (rRows s1).2 = s2 at *
    generalize (rRows s1).1 = l2 at *
    go_wp2_with fail
    go_ret
    rw [HW.out]
    exact ⟨rfl, _, ⟨A2, c2, ov2, HC2.out, HR2.out.1, HR2.out.2⟩, HX2.out, fun w2 hfx => ⟨HH1.out.ints hfx (Nat.le_refl _), HH2.out.rows hfx HR1.out.1.size, TblAt.nil, Cells.nil, TblAt.nil, Cells.nil, Cells.nil, Cells.nil, Cells.nil, Cells.nil⟩⟩
  by_cases k2 : k = 2
  · have HW := Lib.hid (show rWalk k s = (true, ⟨k, [], [], (rRows s).1, (rGet (rRows s).2).1, [], [], [], [], [], [], []⟩, (rGet (rRows s).2).2) by unfold rWalk; rw [if_neg k1, if_pos k2])
    subst k2
    clear k1
    go_enter Try.func17, Try.ntmps17
    go_wp2_with fail
    refine (rowsR_any B gc A c ov s gx 3 _ _ w0 HC0.out (by omega) HX0.out hne HV.out hB rfl (by decide)).mono ?_
    rintro e w1 ⟨rfl, v1, xs1, hr1, hx1, ho1, hg1⟩
    obtain ⟨B1, d1, rfl⟩ := own_slice ho1
    obtain ⟨A1, c1, ov1, hc1, hor1, hf1⟩ := hr1
    have HH1 := Lib.hid (show Held 22 1 GRows w1 w0.heap.size (.slice B1 (rRows s).1.length d1) (rRows s).1 from ⟨xs1, ho1, hg1⟩)
    clear ho1 hg1
    have HX1 := Lib.hid (show Blk w1 gx 39 (crtCells ⟨none, none, B1, none, none, none, none, none, none, none, 0, 0, d1, 0, 0, 0, 0, 0, 0, 0⟩ ⟨2, [], [], (rRows s).1, 0, [], [], [], [], [], [], []⟩) from hx1)
    have HC1 := Lib.hid hc1
    have HR1 := Lib.hid (And.intro hor1 hf1)
    have HV1 := Lib.hid (show ov1.ownBlock ≠ some gx from fun e => HV.out (HR1.out.2 gx hgx e))
    clear hx1 hc1 hor1 hf1
    generalize (rRows s).2 = s1 at *
    generalize (rRows s).1 = l1 at *
    go_wp2_with fail
    refine (numberR_any B gc A1 c1 ov1 s1 gx 4 _ _ w1 HC1.out HX1.out hne HV1.out hB (by show 4 < 12; omega)).mono ?_
    rintro e w2 ⟨rfl, hr2, hx2⟩
    obtain ⟨A2, c2, ov2, hc2, hor2, hf2⟩ := hr2
    have HH1 := Lib.hid (HH1.out.keep grows_keep HC1.out HX1.out hor2 (by decide) (by decide))
    have HX2 := Lib.hid (show Blk w2 gx 39 (crtCells ⟨none, none, B1, none, none, none, none, none, none, none, 0, 0, d1, 0, 0, 0, 0, 0, 0, 0⟩ ⟨2, [], [], l1, (rGet s1).1, [], [], [], [], [], [], []⟩) from hx2)
    have HC2 := Lib.hid hc2
    have HR2 := Lib.hid (show Only (coderK gc ov fun i => i = gx) w0 w2 ∧ ∀ i, i < w0.heap.size → ov2.ownBlock = some i → ov.ownBlock = some i from by
      refine ⟨HR1.out.1.trans hor2 fun i hi hk => ?_, fun i hi he => HR1.out.2 i hi (hf2 i (Nat.lt_of_lt_of_le hi HR1.out.1.size) he)⟩
      rcases hk with hk | hk | hk
      · exact .inl hk
      · exact .inr (.inl (HR1.out.2 i hi hk))
      · exact .inr (.inr hk))
    have HV2 := Lib.hid (show ov2.ownBlock ≠ some gx from fun e => HV.out (HR2.out.2 gx hgx e))
    clear hx2 hc2 hor2 hf2
    generalize (rGet s1).2 = s2 at *
    generalize (rGet s1).1 = l2 at *
    go_wp2_with fail
    go_ret
    rw [HW.out]
    exact ⟨rfl, _, ⟨A2, c2, ov2, HC2.out, HR2.out.1, HR2.out.2⟩, HX2.out, fun w2 hfx => ⟨Cells.nil, TblAt.nil, HH1.out.rows hfx (Nat.le_refl _), Cells.nil, TblAt.nil, Cells.nil, Cells.nil, Cells.nil, Cells.nil, Cells.nil⟩⟩
  by_cases k3 : k = 3
  · have HW := Lib.hid (show rWalk k s = (true, ⟨k, [], [], [], 0, (rPts s).1, (rLines (rPts s).2).1, [], [], [], [], []⟩, (rLines (rPts s).2).2) by unfold rWalk; rw [if_neg k1, if_neg k2, if_pos k3])
    subst k3
    clear k1 k2
    go_enter Try.func17, Try.ntmps17
    go_wp2_with fail
    refine (ptsR_any B gc A c ov s gx 5 _ _ w0 HC0.out (by omega) HX0.out hne HV.out hB rfl (by decide)).mono ?_
    rintro e w1 ⟨rfl, v1, xs1, hr1, hx1, ho1, hg1⟩
    obtain ⟨B1, d1, rfl⟩ := own_slice ho1
    obtain ⟨A1, c1, ov1, hc1, hor1, hf1⟩ := hr1
    have HH1 := Lib.hid (show Held 85 2 GPts w1 w0.heap.size (.slice B1 (rPts s).1.length d1) (rPts s).1 from ⟨xs1, ho1, hg1⟩)
    clear ho1 hg1
    have hlen1 := rList_out (each := rPt) rPt_out HC0.out.byt
    have hlen1 : (rPts s).2.out.length ≤ s.out.length + 1 := by unfold rPts; omega
    have HX1 := Lib.hid (show Blk w1 gx 39 (crtCells ⟨none, none, none, B1, none, none, none, none, none, none, 0, 0, 0, d1, 0, 0, 0, 0, 0, 0⟩ ⟨3, [], [], [], 0, (rPts s).1, [], [], [], [], [], []⟩) from hx1)
    have HC1 := Lib.hid hc1
    have HR1 := Lib.hid (And.intro hor1 hf1)
    have HV1 := Lib.hid (show ov1.ownBlock ≠ some gx from fun e => HV.out (HR1.out.2 gx hgx e))
    clear hx1 hc1 hor1 hf1
    generalize (rPts s).2 = s1 at *
    generalize (rPts s).1 = l1 at *
    go_wp2_with fail
    refine (linesR_any B gc A1 c1 ov1 s1 gx 6 _ _ w1 HC1.out (by omega) HX1.out hne HV1.out hB rfl (by decide)).mono ?_
    rintro e w2 ⟨rfl, v2, xs2, hr2, hx2, ho2, hg2⟩
    obtain ⟨B2, d2, rfl⟩ := own_slice ho2
    obtain ⟨A2, c2, ov2, hc2, hor2, hf2⟩ := hr2
    have HH2 := Lib.hid (show Held 26 1 GLines w2 w1.heap.size (.slice B2 (rLines s1).1.length d2) (rLines s1).1 from ⟨xs2, ho2, hg2⟩)
    clear ho2 hg2
    have HH1 := Lib.hid (HH1.out.keep gpts_keep HC1.out HX1.out hor2 (by decide) (by decide))
    have HX2 := Lib.hid (show Blk w2 gx 39 (crtCells ⟨none, none, none, B1, B2, none, none, none, none, none, 0, 0, 0, d1, d2, 0, 0, 0, 0, 0⟩ ⟨3, [], [], [], 0, l1, (rLines s1).1, [], [], [], [], []⟩) from hx2)
    have HC2 := Lib.hid hc2
    have HR2 := Lib.hid (show Only (coderK gc ov fun i => i = gx) w0 w2 ∧ ∀ i, i < w0.heap.size → ov2.ownBlock = some i → ov.ownBlock = some i from by
      refine ⟨HR1.out.1.trans hor2 fun i hi hk => ?_, fun i hi he => HR1.out.2 i hi (hf2 i (Nat.lt_of_lt_of_le hi HR1.out.1.size) he)⟩
      rcases hk with hk | hk | hk
      · exact .inl hk
      · exact .inr (.inl (HR1.out.2 i hi hk))
      · exact .inr (.inr hk))
    have HV2 := Lib.hid (show ov2.ownBlock ≠ some gx from fun e => HV.out (HR2.out.2 gx hgx e))
    clear hx2 hc2 hor2 hf2
    generalize (rLines s1).2 = s2 at *
    generalize (rLines s1).1 = l2 at *
    go_wp2_with fail
    go_ret
    rw [HW.out]
    exact ⟨rfl, _, ⟨A2, c2, ov2, HC2.out, HR2.out.1, HR2.out.2⟩, HX2.out, fun w2 hfx => ⟨Cells.nil, TblAt.nil, TblAt.nil, HH1.out.pts hfx (Nat.le_refl _), HH2.out.lines hfx HR1.out.1.size, Cells.nil, Cells.nil, Cells.nil, Cells.nil, Cells.nil⟩⟩
  by_cases k4 : k = 4
  · have HW := Lib.hid (show rWalk k s = (true, (rBars 4 4 s).1, (rBars 4 4 s).2) by unfold rWalk; rw [if_neg k1, if_neg k2, if_neg k3, if_pos k4, k4]; rfl)
    subst k4
    clear k1 k2 k3
    go_enter Try.func17, Try.ntmps17
    go_wp2_with fail
    go_loopg [52] 4 (fun g s52 wr => ∃ (i : Nat) (A1 : Option Addr) (c1 : Nat) (ov1 : Value) (V : CV), s52 = .int .i64 i ∧ i ≤ 4 ∧ g = 4 - i ∧ Coder wr B gc true A1 c1 ov1 (rBars 4 i s).2 ∧ (Only (coderK gc ov (fun i => i = gx)) w0 wr ∧ ∀ i, i < w0.heap.size → ov1.ownBlock = some i → ov.ownBlock = some i) ∧ Blk wr gx 39 (crtCells V (rBars 4 i s).1) ∧ (∀ j, j < 4 → Held 3 1 GInts wr w0.heap.size (barV V (rBars 4 i s).1 j) (barOf (rBars 4 i s).1 j)) ∧ (∀ j, i ≤ j → j < 4 → barV V (rBars 4 i s).1 j = .slice none 0 0) ∧ (rBars 4 i s).2.out.length ≤ s.out.length + i)
    case atStart => exact ⟨0, A, c, ov, CV0, rfl, by omega, rfl, HC0.out, ⟨Only.refl _ _, fun _ _ h => h⟩, HX0.out, fun j hj => by
      have e : j = 0 ∨ j = 1 ∨ j = 2 ∨ j = 3 := by omega
      rcases e with rfl | rfl | rfl | rfl <;> exact ⟨[], World.ownsRow_nil _ _ _ _, rfl⟩, fun j _ hj => by
      have e : j = 0 ∨ j = 1 ∨ j = 2 ∨ j = 3 := by omega
      rcases e with rfl | rfl | rfl | rfl <;> rfl, Nat.le_refl _⟩
    case round =>
      obtain ⟨i, A1, c1, ov1, V, rfl, hi, hk, hc, hr, hx, hh, hn, hlo⟩ := hrel
      have Hk := Lib.hid hk
      have Hc := Lib.hid hc
      have Hr := Lib.hid hr
      have Hx := Lib.hid hx
      have Hh := Lib.hid hh
      have Hn := Lib.hid hn
      clear hk hc hr hx hh hn
      by_cases hlt : i < 4
      · have hlt' : (i : Int) < 4 := by omega
        have HS := Lib.hid (show rBars 4 (i + 1) s = (setBar (rBars 4 i s).1 i (rInts (rBars 4 i s).2).1, (rInts (rBars 4 i s).2).2) from rfl)
        generalize rBars 4 i s = r at *
        have HO := Lib.hid (show (crtCells V r.1)[7 + i]? = some (.slice none 0 0) by rw [crt_barV hlt, Hn.out i (Nat.le_refl _) hlt])
        have hlen := rList_out (each := rGet) rGet_out Hc.out.byt
        have hlen : (rInts r.2).2.out.length ≤ s.out.length + (i + 1) := by unfold rInts; omega
        have Hlen := Lib.hid hlen
        clear hlen
        go_wp2_with fail
        refine (intsR_any B gc A1 c1 ov1 r.2 gx (7 + i) _ _ wr Hc.out (by omega) Hx.out hne (fun e => HV.out (Hr.out.2 gx hgx e)) hB HO.out (by decide)).mono ?_
        rintro e w1 ⟨rfl, v1, xs1, ⟨A2, c2, ov2, hc2, ho2, hf2⟩, hx1, ho1, hg1⟩
        obtain ⟨B1, d1, rfl⟩ := own_slice ho1
        have HH1 := Lib.hid (show Held 3 1 GInts w1 wr.heap.size (.slice B1 (rInts r.2).1.length d1) (rInts r.2).1 from ⟨xs1, ho1, hg1⟩)
        have HH := Lib.hid (fun j hj => (Hh.out j hj).keep gints_keep Hc.out Hx.out ho2 (by decide) (by decide))
        rw [crt_setBar hlt] at hx1
        have HX1 := Lib.hid hx1
        have HC1 := Lib.hid hc2
        have HR1 := Lib.hid (show Only (coderK gc ov fun i => i = gx) w0 w1 ∧ ∀ i, i < w0.heap.size → ov2.ownBlock = some i → ov.ownBlock = some i from by
          refine ⟨Hr.out.1.trans ho2 fun i hi hk => ?_, fun i hi he => Hr.out.2 i hi (hf2 i (Nat.lt_of_lt_of_le hi Hr.out.1.size) he)⟩
          rcases hk with hk | hk | hk
          · exact .inl hk
          · exact .inr (.inl (Hr.out.2 i hi hk))
          · exact .inr (.inr hk))
        clear ho1 hg1 hx1 hc2 ho2 hf2
        go_wp2_with fail
        go_roundg (4 - (i + 1))
        case measure => rw [Hk.out]; omega
        case rel =>
          refine ⟨i + 1, A2, c2, ov2, setBarV V i B1 d1, by go_num, by omega, rfl, by rw [HS.out]; exact HC1.out, HR1.out, by rw [HS.out]; exact HX1.out, fun j hj => ?_, fun j h1 hj => ?_, by rw [HS.out]; exact Hlen.out⟩
          · rw [HS.out]
            obtain ⟨e1, e2⟩ := barV_set (V := V) (x := r.1) (l := (rInts r.2).1) (A := B1) (c := d1) hlt hj
            simp only [e1, e2]
            by_cases e : j = i
            · rw [if_pos e, if_pos e]
              obtain ⟨xs, h1, h2⟩ := HH1.out
              exact ⟨xs, own_mono h1 Hr.out.1.size, h2⟩
            · rw [if_neg e, if_neg e]
              exact HH.out j hj
          · rw [HS.out]
            obtain ⟨e1, _⟩ := barV_set (V := V) (x := r.1) (l := (rInts r.2).1) (A := B1) (c := d1) hlt hj
            simp only [e1]
            rw [if_neg (by omega)]
            exact Hn.out j (by omega) hj
      · have hie : i = 4 := by omega
        subst hie
        have HB := Lib.hid (rBars_barry 4 s 4)
        go_wp2_with fail
        go_ret
        rw [HW.out]
        refine ⟨rfl, V, ⟨A1, c1, ov1, Hc.out, Hr.out.1, Hr.out.2⟩, Hx.out, fun w2 hfx => ?_⟩
        obtain ⟨b1, b2, b3, b4, b5, b6⟩ := HB.out
        have hh := Hh.out
        generalize (rBars 4 4 s).1 = x at *
        refine ⟨by rw [b1]; exact Cells.nil, by rw [b2]; exact TblAt.nil, by rw [b3]; exact TblAt.nil, by rw [b4]; exact Cells.nil, by rw [b5]; exact TblAt.nil, (hh 0 (by omega)).ints hfx (Nat.le_refl _), (hh 1 (by omega)).ints hfx (Nat.le_refl _), (hh 2 (by omega)).ints hfx (Nat.le_refl _), (hh 3 (by omega)).ints hfx (Nat.le_refl _), by rw [b6]; exact Cells.nil⟩
  by_cases k5 : k = 5 ∨ k = 6
  · have HW := Lib.hid (show rWalk k s = (true, ⟨k, [], [], [], 0, [], [], [], [], [], [], (rInts s).1⟩, (rInts s).2) by unfold rWalk; rw [if_neg k1, if_neg k2, if_neg k3, if_neg k4, if_pos k5])
    clear k1 k2 k3 k4
    rcases k5 with k5 | k5
    · subst k5
      go_enter Try.func17, Try.ntmps17
      go_wp2_with fail
      refine (intsR_any B gc A c ov s gx 11 _ _ w0 HC0.out (by omega) HX0.out hne HV.out hB rfl (by decide)).mono ?_
      rintro e w1 ⟨rfl, v1, xs1, hr1, hx1, ho1, hg1⟩
      obtain ⟨B1, d1, rfl⟩ := own_slice ho1
      obtain ⟨A1, c1, ov1, hc1, hor1, hf1⟩ := hr1
      have HH1 := Lib.hid (show Held 3 1 GInts w1 w0.heap.size (.slice B1 (rInts s).1.length d1) (rInts s).1 from ⟨xs1, ho1, hg1⟩)
      clear ho1 hg1
      have hlen1 := rList_out (each := rGet) rGet_out HC0.out.byt
      have hlen1 : (rInts s).2.out.length ≤ s.out.length + 1 := by unfold rInts; omega
      have HX1 := Lib.hid (show Blk w1 gx 39 (crtCells ⟨none, none, none, none, none, none, none, none, none, B1, 0, 0, 0, 0, 0, 0, 0, 0, 0, d1⟩ ⟨5, [], [], [], 0, [], [], [], [], [], [], (rInts s).1⟩) from hx1)
      have HC1 := Lib.hid hc1
      have HR1 := Lib.hid (And.intro hor1 hf1)
      have HV1 := Lib.hid (show ov1.ownBlock ≠ some gx from fun e => HV.out (HR1.out.2 gx hgx e))
      clear hx1 hc1 hor1 hf1
      generalize (rInts s).2 = s1 at *
      generalize (rInts s).1 = l1 at *
      go_wp2_with fail
      go_ret
      rw [HW.out]
      exact ⟨rfl, _, ⟨A1, c1, ov1, HC1.out, HR1.out.1, HR1.out.2⟩, HX1.out, fun w2 hfx => ⟨Cells.nil, TblAt.nil, TblAt.nil, Cells.nil, TblAt.nil, Cells.nil, Cells.nil, Cells.nil, Cells.nil, HH1.out.ints hfx (Nat.le_refl _)⟩⟩
    · subst k5
      go_enter Try.func17, Try.ntmps17
      go_wp2_with fail
      refine (intsR_any B gc A c ov s gx 11 _ _ w0 HC0.out (by omega) HX0.out hne HV.out hB rfl (by decide)).mono ?_
      rintro e w1 ⟨rfl, v1, xs1, hr1, hx1, ho1, hg1⟩
      obtain ⟨B1, d1, rfl⟩ := own_slice ho1
      obtain ⟨A1, c1, ov1, hc1, hor1, hf1⟩ := hr1
      have HH1 := Lib.hid (show Held 3 1 GInts w1 w0.heap.size (.slice B1 (rInts s).1.length d1) (rInts s).1 from ⟨xs1, ho1, hg1⟩)
      clear ho1 hg1
      have hlen1 := rList_out (each := rGet) rGet_out HC0.out.byt
      have hlen1 : (rInts s).2.out.length ≤ s.out.length + 1 := by unfold rInts; omega
      have HX1 := Lib.hid (show Blk w1 gx 39 (crtCells ⟨none, none, none, none, none, none, none, none, none, B1, 0, 0, 0, 0, 0, 0, 0, 0, 0, d1⟩ ⟨6, [], [], [], 0, [], [], [], [], [], [], (rInts s).1⟩) from hx1)
      have HC1 := Lib.hid hc1
      have HR1 := Lib.hid (And.intro hor1 hf1)
      have HV1 := Lib.hid (show ov1.ownBlock ≠ some gx from fun e => HV.out (HR1.out.2 gx hgx e))
      clear hx1 hc1 hor1 hf1
      generalize (rInts s).2 = s1 at *
      generalize (rInts s).1 = l1 at *
      go_wp2_with fail
      go_ret
      rw [HW.out]
      exact ⟨rfl, _, ⟨A1, c1, ov1, HC1.out, HR1.out.1, HR1.out.2⟩, HX1.out, fun w2 hfx => ⟨Cells.nil, TblAt.nil, TblAt.nil, Cells.nil, TblAt.nil, Cells.nil, Cells.nil, Cells.nil, Cells.nil, HH1.out.ints hfx (Nat.le_refl _)⟩⟩
  · have HW := Lib.hid (show rWalk k s = (false, bare k, s) by unfold rWalk; rw [if_neg k1, if_neg k2, if_neg k3, if_neg k4, if_neg k5])
    obtain ⟨k5, k6⟩ := not_or.1 k5
    go_enter Try.func17, Try.ntmps17
    go_wp2_with fail
    go_ret
    rw [HW.out]
    exact ⟨rfl, CV0, Ran.refl HC0.out, HX0.out, fun _ _ => crtIs_bare⟩
end Go.Proofs.Ytmlbjcngboegfaa
