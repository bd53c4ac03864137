/-
  Law RotationSame: walked. Written by an AI agent.
-/
import Derived.Test.YthdifhfmgmmljaaRefSame
import Derived.Test.YthdifhfmgmmljaaSpeaks5
namespace Go.Proofs.Ythdifhfmgmmljaa
open Go.RowKit

theorem quiet_b {P : Program} {f : FuncId} {args : Array Value} {w : World} {n : Nat} {p : Bool} (h : Calls P f args (w.drewN n) (QuietB p (w.drewN n))) : Calls P f args (w.drewN n) fun e w'' => e = .returned (.bool p) ∧ ∃ m, w'' = w.drewN m :=
  h.mono fun _ _ ⟨he, m, hm⟩ => ⟨he, n + m, by rw [hm, World.drewN_drewN]⟩

def wantB (xs ys : List (List Int)) (i : Nat) : Bool := decide (xs.length = ys.length) && (List.range i).all fun j => turnedB (xs.getD j []) (ys.getD j [])
theorem wantB_succ {xs ys : List (List Int)} {i : Nat} : wantB xs ys (i + 1) = (wantB xs ys i && turnedB (xs.getD i []) (ys.getD i [])) := by
  unfold wantB; rw [List.range_succ, List.all_append, ← Bool.and_assoc]; simp

set_option maxHeartbeats 2000000 in
theorem rotSame_any (A B : Option Addr) (ca cb : Nat) (xs ys : List (List Int)) (w : World) (ha : RowsC w w.heap.size A xs) (hb : RowsC w w.heap.size B ys) :
    Calls Try.prog 6 #[.slice A xs.length ca, .slice B ys.length cb] w (fun e w' => e = .returned (.bool true) ∧ Below w.heap.size w w') := by
  go_enter Try.func6, Try.ntmps6
  go_wp2_with fail
  refine (speaks5_any _).mono ?_
  rintro e w1 ⟨rfl, hb1⟩
  by_cases hl1 : 60 < xs.length
  · go_wp2_with fail
    go_ret
    exact ⟨rfl, hb1⟩
  by_cases hl2 : 60 < ys.length
  · go_wp2_with fail
    go_ret
    exact ⟨rfl, hb1⟩
  have hls := int_beq xs.length ys.length
  have HW := Lib.hid (show (xs.length == ys.length) = wantB xs ys 0 by unfold wantB; simp; rfl)
  generalize (xs.length == ys.length) = p0 at *
  go_wp2_with fail
  go_loopg [5, 24] xs.length (fun k s5 s24 wr => ∃ (i : Nat) (p : Bool), s24 = .int .i64 i ∧ i ≤ xs.length ∧ k = xs.length - i ∧ s5 = .bool p ∧ p = wantB xs ys i ∧ Below w.heap.size w wr ∧ ∀ j (h : j < xs.length), j < i → xs[j].length ≤ 60 ∧ ∀ h2 : j < ys.length, ys[j].length ≤ 60)
  case atStart => exact ⟨0, p0, rfl, Nat.zero_le _, rfl, rfl, HW.out, hb1, fun j _ hj => absurd hj (by omega)⟩
  case round =>
    clear hb1 HW hls
    obtain ⟨i, p, rfl, hi, hk, rfl, hp, hbr, hsm⟩ := hrel
    have Hk := Lib.hid hk; clear hk
    have Hp := Lib.hid hp; clear hp
    have Hsm := Lib.hid hsm; clear hsm
    by_cases hlt : i < xs.length
    · have hlt' : (i : Int) < xs.length := by omega
      obtain ⟨b1, o1, rfl, hb1, hc1⟩ := ha (by omega)
      obtain ⟨A1, c1, e1, hC1, _⟩ := hc1 i hlt
      have e1 := (hbr.cell (p := ⟨b1, o1 + i, none⟩) hb1).trans e1
      have hC1 := hC1.below hbr
      have hs := hbr.size
      have HX := Lib.hid (getD_row hlt)
      have Hx := Lib.hid (fun (h : xs[i].length ≤ 60) (hy : ∀ h2 : i < ys.length, ys[i].length ≤ 60) => (fun (j : Nat) (hj : j < xs.length) (hji : j < i + 1) => (by
        by_cases h0 : j = i
        · subst h0; exact ⟨h, hy⟩
        · exact Hsm.out j hj (by omega) : xs[j].length ≤ 60 ∧ ∀ h2 : j < ys.length, ys[j].length ≤ 60)))
      clear hc1
      generalize hxx : xs[i] = x at *
      by_cases hx60 : 60 < x.length
      · go_wp2_with fail
        go_ret
        exact ⟨rfl, hbr⟩
      by_cases hlb : i < ys.length
      · have hlb' : (i : Int) < ys.length := by omega
        obtain ⟨b2, o2, rfl, hb2, hc2⟩ := hb (by omega)
        obtain ⟨A2, c2, e2, hC2, _⟩ := hc2 i hlb
        have e2 := (hbr.cell (p := ⟨b2, o2 + i, none⟩) hb2).trans e2
        have hC2 := hC2.below hbr
        have HY := Lib.hid (getD_row hlb)
        clear hc2
        by_cases hy60 : 60 < ys[i].length
        · generalize ys[i] = y at *
          go_wp2_with fail
          go_ret
          exact ⟨rfl, hbr⟩
        have HX2 := Lib.hid (Hx.out (by omega) (fun _ => by omega))
        have HT := Lib.hid (show wantB xs ys (i + 1) = (p && turnedB x ys[i]) by rw [wantB_succ, ← Hp.out, HX.out, HY.out])
        clear Hx HX HY hxx
        generalize ys[i] = y at *
        have HR := Lib.hid (fun n => refSame_any A1 A2 c1 c2 x y (wr.drewN n) (hC1.more hs) (hC2.more hs) (by omega) (by omega))
        cases p with
        | true =>
          go_wp2_with fail
          go_quiet ((go_at_call 22; exact quiet_b (HR.out _)))
          rw [ref_turned]
          go_wp2_with fail
          go_roundg (xs.length - (i + 1))
          case measure => rw [Hk.out]; omega
          case rel => exact ⟨i + 1, turnedB x y, by go_num, by omega, rfl, rfl, by rw [HT.out, Bool.true_and], below_drewN hbr nq, HX2.out⟩
        | false =>
          go_wp2_with fail
          go_quiet (fail)
          go_wp2_with fail
          go_roundg (xs.length - (i + 1))
          case measure => rw [Hk.out]; omega
          case rel => exact ⟨i + 1, false, by go_num, by omega, rfl, rfl, by rw [HT.out, Bool.false_and], below_drewN hbr nq, HX2.out⟩
      · have hlb' : decide ((i : Int) < (ys.length : Int)) = false := decide_eq_false (by omega)
        have hpf : p = false := by
          rw [Hp.out]; unfold wantB; rw [decide_eq_false (by omega)]; rfl
        subst hpf
        have HX2 := Lib.hid (Hx.out (by omega) (fun h => absurd h hlb))
        have HT := Lib.hid (show wantB xs ys (i + 1) = false by rw [wantB_succ, ← Hp.out, Bool.false_and])
        clear Hx HX hxx
        go_wp2_with fail
        go_quiet (fail)
        go_wp2_with fail
        go_roundg (xs.length - (i + 1))
        case measure => rw [Hk.out]; omega
        case rel => exact ⟨i + 1, false, by go_num, by omega, rfl, rfl, HT.out.symm, below_drewN hbr nq, HX2.out⟩
    · have hie : i = xs.length := by omega
      have HS := Lib.hid (show sameB xs ys = p by rw [Hp.out, hie]; rfl)
      have hs := hbr.size
      have ebb : (p == p) = true := by simp
      have hall : xs.length = ys.length → ∀ l ∈ ys, l.length ≤ 1000 := fun e l hl => by
        obtain ⟨j, hj, rfl⟩ := List.mem_iff_getElem.1 hl
        have := (Hsm.out j (by omega) (by omega)).2 hj
        omega
      have hra : ∀ l ∈ xs, l.length ≤ 1000 := fun l hl => by
        obtain ⟨j, hj, rfl⟩ := List.mem_iff_getElem.1 hl
        have := (Hsm.out j hj (by omega)).1
        omega
      have HR := Lib.hid (sameR_any A B ca cb xs ys wr ((ha.below hbr).more hs) ((hb.below hbr).more hs) (by omega) (by omega) hra hall)
      clear hall hra
      go_wp2_with fail
      refine HR.out.mono ?_
      rintro e w5 ⟨rfl, hb5⟩
      rw [HS.out]
      go_wp2_with fail
      go_ret
      exact ⟨rfl, hbr.trans (hb5.mono hs)⟩
end Go.Proofs.Ythdifhfmgmmljaa
