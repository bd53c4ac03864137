/-
  number, point: what they read. Written by an AI agent.
-/
import Derived.Test.YtmlbjcngboegfaaTwo
namespace Go.Proofs.Ytmlbjcngboegfaa
open Go.RowKit

theorem Ran.only {B gc : Nat} {rd : Bool} {ov : Value} {X : Nat → Prop} {w w' : World} {s : CS} (h : Ran B gc rd ov X w w' s) : Only (coderK gc ov X) w w' := by
  obtain ⟨_, _, _, _, h, _⟩ := h
  exact h
/-- a block that the coder does not touch -/
theorem Ran.blk {B gc : Nat} {rd : Bool} {ov : Value} {X : Nat → Prop} {w w' : World} {s : CS} {g : Nat} {t : TypeId} {cs : Array Value} (h : Ran B gc rd ov X w w' s) (hb : Blk w g t cs) (h1 : g ≠ gc) (h2 : ov.ownBlock ≠ some g) (h3 : ¬ X g) : Blk w' g t cs :=
  hb.only h.only fun hk => by
    rcases hk with hk | hk | hk
    · exact h1 hk
    · exact h2 hk
    · exact h3 hk

theorem numberR_any (B gc : Nat) (A : Option Addr) (c : Nat) (ov : Value) (s : CS) (gx o : Nat) (t : TypeId) (cs : Array Value) (w : World) (h : Coder w B gc true A c ov s) (hx : Blk w gx t cs) (hne : gx ≠ gc) (hov : ov.ownBlock ≠ some gx) (hB : B ≤ gx) (ho : o < cs.size) :
    Calls Try.prog 36 #[.pointer (some ⟨gc, 0, none⟩), .pointer (some ⟨gx, o, none⟩)] w (fun e w' => e = .returned (.tuple #[]) ∧ Ran B gc true ov (fun i => i = gx) w w' (rGet s).2 ∧ Blk w' gx t (cs.setIfInBounds o (.int .i64 (rGet s).1))) := by
  have z0 := h.c0
  have H := Lib.hid h
  have Hx := Lib.hid hx
  clear h hx
  go_enter Try.func36, Try.ntmps36
  go_wp2_with fail
  refine (get_any B gc A c ov s w H.out).mono ?_
  rintro e w1 ⟨rfl, hr⟩
  have hb1 := hr.blk Hx.out hne hov (fun h => h)
  have zc := hb1.cell o
  rw [Array.getElem?_eq_getElem ho] at zc
  have zf := hb1.frozen o
  have HR := Lib.hid (And.intro ((hr.set_ (u := .int .i64 (rGet s).1) (o := o) Hx.out.lt hne hov hB).mono fun i hi => hi.elim id False.elim) (hb1.set_ o (.int .i64 (rGet s).1)))
  clear hr hb1
  go_wp2_with fail
  refine bodyPost_ret (results_none rfl _ _ _) rfl ?_
  exact ⟨rfl, HR.out⟩

theorem set_size' {cs : Array Value} {o : Nat} {v : Value} : (cs.setIfInBounds o v).size = cs.size := by simp

theorem pointR_any (B gc : Nat) (A : Option Addr) (c : Nat) (ov : Value) (s : CS) (gx o : Nat) (t : TypeId) (cs : Array Value) (w : World) (h : Coder w B gc true A c ov s) (hx : Blk w gx t cs) (hne : gx ≠ gc) (hov : ov.ownBlock ≠ some gx) (hB : B ≤ gx) (ho : o + 1 < cs.size) :
    Calls Try.prog 45 #[.pointer (some ⟨gc, 0, none⟩), .pointer (some ⟨gx, o, none⟩)] w (fun e w' => e = .returned (.tuple #[]) ∧ Ran B gc true ov (fun i => i = gx) w w' (rPt s).2 ∧ Blk w' gx t ((cs.setIfInBounds o (.int .i64 (rPt s).1.1)).setIfInBounds (o + 1) (.int .i64 (rPt s).1.2))) := by
  have H := Lib.hid h
  have Hx := Lib.hid hx
  clear h hx
  go_enter Try.func45, Try.ntmps45
  go_wp2_with fail
  refine (numberR_any B gc A c ov s gx o t cs w H.out Hx.out hne hov hB (by omega)).mono ?_
  rintro e w1 ⟨rfl, ⟨A1, c1, ov1, hc1, ho1, hf1⟩, hb1⟩
  have hov1 : ov1.ownBlock ≠ some gx := fun e => hov (hf1 gx Hx.out.lt e)
  have Hc1 := Lib.hid hc1
  have Ho1 := Lib.hid ho1
  have Hf1 := Lib.hid hf1
  have Hb1 := Lib.hid hb1
  have HP := Lib.hid (show rPt s = (((rGet s).1, (rGet (rGet s).2).1), (rGet (rGet s).2).2) from rfl)
  clear hc1 ho1 hf1 hb1
  generalize (rGet s).2 = s1 at *
  generalize (rGet s).1 = x at *
  go_wp2_with fail
  refine (numberR_any B gc A1 c1 ov1 s1 gx (o + 1) t _ w1 Hc1.out Hb1.out hne hov1 hB (by rw [set_size']; exact ho)).mono ?_
  rintro e w2 ⟨rfl, hr, hb2⟩
  have HR := Lib.hid (And.intro (Ran.seq Ho1.out Hf1.out hr fun i _ hi => .inr (.inr hi)) hb2)
  clear hr hb2
  go_wp2_with fail
  refine bodyPost_end (results_none rfl _ _ _) rfl ?_
  rw [HP.out]
  exact ⟨rfl, HR.out⟩
end Go.Proofs.Ytmlbjcngboegfaa
