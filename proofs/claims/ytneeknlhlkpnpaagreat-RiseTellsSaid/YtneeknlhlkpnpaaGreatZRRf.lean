import Derived.Test.YtneeknlhlkpnpaaGreatZEul
import Derived.Test.YtneeknlhlkpnpaaGreatZGol
import Derived.Test.YtneeknlhlkpnpaaGreatZRGr
import Derived.Test.YtneeknlhlkpnpaaGreatZFit2
import Derived.Test.YtneeknlhlkpnpaaGreatZWeb
import Derived.Test.YtneeknlhlkpnpaaGreatZRfs
import Derived.Test.YtneeknlhlkpnpaaGreatZChks
/-
 The document's Same; it tells what the program's tells. Written by an AI agent.
-/
namespace Go.Proofs.YtneeknlhlkpnpaaGreat
open Go.RowKit
def eqAt (a b : List Int) (k i : Nat) : Bool := decide (a.getD ((i + k) % a.length) 0 = b.getD i 0)
def rowB (a b : List Int) (k n : Nat) : Bool := (List.range n).all (eqAt a b k)
def refSameB (a b : List Int) : Bool := decide (a.length = b.length) && (decide (a.length = 0) || (List.range a.length).any fun k => rowB a b k a.length)
theorem rowB_succ (a b : List Int) (k n : Nat) : rowB a b k (n + 1) = (rowB a b k n && eqAt a b k n) := by
 unfold rowB; rw [List.range_succ, List.all_append]; simp
set_option maxHeartbeats 1000000 in
theorem refSame_any (A B : Option Addr) (c d : Nat) (a b : List Int) (w : World) (ha : Cells w w.heap.size A (intCells a)) (hb : Cells w w.heap.size B (intCells b)) (hla : a.length ≤ 1000) (hlb : b.length ≤ 1000) :
  Calls Tryz.prog 82 #[.slice A a.length c, .slice B b.length d] w (QuietB (refSameB a b) w) := by
 by_cases hl : a.length = b.length
 ·have H1 : ((a.length : Int) != (b.length : Int)) = false := by rw [int_bne]; simp [hl]
  have HL := Lib.hid hl
  have hl1 : a.length ≤ b.length := by omega
  clear hl
  go_enter Tryz.func82, Tryz.ntmps82
  go_wp2_with fail
  go_loopg [5] a.length (fun n s5 wr => ∃ k m : Nat, s5 = .int .i64 k ∧ k ≤ a.length ∧ n = a.length - k ∧ wr = w.drewN m ∧ ∀ j, j < k → rowB a b j a.length = false)
  case atStart => exact ⟨0, 0, rfl, Nat.zero_le _, rfl, rfl, fun j hj => absurd hj (by omega)⟩
  case round =>
   obtain ⟨k, m, rfl, hk, hn, hwr, hno⟩ := hrel
   have Hn := Lib.hid hn; clear hn
   have Hno := Lib.hid hno; clear hno
   have Hwr := Lib.hid hwr; clear hwr
   by_cases hlt : k < a.length
   ·have hlt' : (k : Int) < a.length := by omega
    obtain ⟨b1, o1, rfl, _, hc1⟩ := ha.ints (by omega)
    obtain ⟨b2, o2, rfl, _, hc2⟩ := hb.ints (by omega)
    obtain ⟨w0, rfl⟩ : ∃ x, x = wr := ⟨_, rfl⟩
    go_wp2_with fail
    go_loopg [6, 7] a.length (fun n s6 s7 wr => ∃ (i m : Nat) (p : Bool), s7 = .int .i64 i ∧ i ≤ a.length ∧ n = a.length - i ∧ wr = w.drewN m ∧ s6 = .bool p ∧ p = rowB a b k i)
    case atStart => exact ⟨0, m, true, rfl, Nat.zero_le _, rfl, Hwr.out, rfl, rfl⟩
    case round =>
     obtain ⟨i, m2, p, rfl, hi, hn, hwr, rfl, hp⟩ := hrel
     have Hn2 := Lib.hid hn; clear hn
     have Hp := Lib.hid hp; clear hp
     by_cases hlt2 : i < a.length
     ·have hlt2' : (i : Int) < a.length := by omega
      have hj : (i + k) % a.length < a.length := Nat.mod_lt _ (by omega)
      have c1 : wr.cell? ⟨b1, o1 + (i + k) % a.length, none⟩ = some (.int .i64 (a[(i + k) % a.length])) := by rw [hwr]; exact hc1 _ hj
      have c2 : wr.cell? ⟨b2, o2 + i, none⟩ = some (.int .i64 (b[i]'(by omega))) := by rw [hwr]; exact hc2 i (by omega)
      have hm : Int.tmod ((i : Int) + k) a.length = (((i + k) % a.length : Nat) : Int) := by rw [Int.tmod_eq_emod_of_nonneg (by omega)]; simp
      have hl0 : ¬ ((a.length : Int) = 0) := by omega
      have hj' : (((i + k) % a.length : Nat) : Int) < a.length := by omega
      have hb' : (i : Int) < b.length := by omega
      have HE := Lib.hid (show eqAt a b k i = decide (a[(i + k) % a.length] = b[i]'(by omega)) by
       unfold eqAt
       rw [List.getD_eq_getElem?_getD, List.getElem?_eq_getElem hj, List.getD_eq_getElem?_getD, List.getElem?_eq_getElem (show i < b.length by omega)]; rfl)
      have HS := Lib.hid (rowB_succ a b k i)
      have Hwr2 := Lib.hid hwr
      clear hwr
      generalize a[(i + k) % a.length] = x at *
      generalize b[i]'(by omega) = y at *
      generalize (i + k) % a.length = jj at *
      cases p with
      | true =>
       by_cases hxy : x = y
       ·have hd : (x == y) = true := by simp [hxy]
        have HQ := Lib.hid (show rowB a b k (i + 1) = true by rw [HS.out, ← Hp.out, HE.out, decide_eq_true hxy]; rfl)
        clear hxy
        go_wp2_with fail
        go_quiet (fail)
        go_wp2_with fail
        go_roundg (a.length - (i + 1))
        case measure => rw [Hn2.out]; omega
        case rel => exact ⟨i + 1, m2 + nq, true, by go_num, by omega, rfl, by rw [Hwr2.out]; simp, rfl, HQ.out.symm⟩
       ·have hd : (x == y) = false := by simp [hxy]
        have HQ := Lib.hid (show rowB a b k (i + 1) = false by rw [HS.out, HE.out, decide_eq_false hxy, Bool.and_false])
        clear hxy
        go_wp2_with fail
        go_quiet (fail)
        go_wp2_with fail
        go_roundg (a.length - (i + 1))
        case measure => rw [Hn2.out]; omega
        case rel => exact ⟨i + 1, m2 + nq, false, by go_num, by omega, rfl, by rw [Hwr2.out]; simp, rfl, HQ.out.symm⟩
      | false =>
       have HQ := Lib.hid (show rowB a b k (i + 1) = false by rw [HS.out, ← Hp.out, Bool.false_and])
       go_wp2_with fail
       go_quiet (fail)
       go_wp2_with fail
       go_roundg (a.length - (i + 1))
       case measure => rw [Hn2.out]; omega
       case rel => exact ⟨i + 1, m2 + nq, false, by go_num, by omega, rfl, by rw [Hwr2.out]; simp, rfl, HQ.out.symm⟩
     ·have hie : i = a.length := by omega
      subst hie
      have Hwr2 := Lib.hid hwr
      clear hwr
      cases p with
      | true =>
       have HR := Lib.hid (show refSameB a b = true by
        unfold refSameB
        rw [decide_eq_true HL.out, Bool.true_and, Bool.or_eq_true]
        exact .inr (List.any_eq_true.2 ⟨k, List.mem_range.2 hlt, Hp.out.symm⟩))
       go_wp2_with fail
       go_ret
       exact ⟨ret_bool HR.out.symm, m2, Hwr2.out⟩
      | false =>
       go_wp2_with fail
       go_roundg (a.length - (k + 1))
       case measure => rw [Hn.out]; omega
       case rel => exact ⟨k + 1, m2, by go_num, by omega, rfl, Hwr2.out, fun j hj => by
        by_cases h : j = k
        ·rw [h]; exact Hp.out.symm
        ·exact Hno.out j (by omega)⟩
   ·have HR := Lib.hid (show refSameB a b = decide (a.length = 0) by
     unfold refSameB
     rw [decide_eq_true HL.out, Bool.true_and]
     have : ((List.range a.length).any fun k => rowB a b k a.length) = false := by
      rw [List.any_eq_false]
      intro j hj
      rw [Hno.out j (by have := List.mem_range.1 hj; omega)]; simp
     rw [this, Bool.or_false])
    by_cases h0 : a.length = 0
    ·have h0' : ((a.length : Int) == 0) = true := by simp [h0]
     rw [decide_eq_true h0] at HR
     clear h0
     go_wp2_with fail
     go_ret
     exact ⟨ret_bool HR.out.symm, m, Hwr.out⟩
    ·have h0' : ((a.length : Int) == 0) = false := by simp; intro hh; apply h0; rw [hh]; rfl
     rw [decide_eq_false h0] at HR
     clear h0
     go_wp2_with fail
     go_ret
     exact ⟨ret_bool HR.out.symm, m, Hwr.out⟩
 ·have H1 : ((a.length : Int) != (b.length : Int)) = true := by rw [int_bne]; simp [hl]
  have HR := Lib.hid (show refSameB a b = false by unfold refSameB; rw [decide_eq_false hl]; rfl)
  clear hl
  go_enter Tryz.func82, Tryz.ntmps82
  go_wp2_with fail
  go_ret
  exact ⟨ret_bool HR.out.symm, 0, rfl⟩
end Go.Proofs.YtneeknlhlkpnpaaGreat
namespace Go.Proofs.YtneeknlhlkpnpaaGreat
open Go.RowKit
theorem quiet_b {P : Program} {f : FuncId} {args : Array Value} {w : World} {n : Nat} {p : Bool} (h : Calls P f args (w.drewN n) (QuietB p (w.drewN n))) : Calls P f args (w.drewN n) fun e w'' => e = .returned (.bool p) ∧ ∃ m, w'' = w.drewN m :=
 h.mono fun _ _ ⟨he, m, hm⟩ => ⟨he, n + m, by rw [hm, World.drewN_drewN]⟩
def same11T (xs ys : List (List Int)) (i : Nat) : Bool := (List.range i).all fun j => refSameB (xs.getD j []) (ys.getD j [])
def same11 (xs ys : List (List Int)) : Bool := decide (xs.length = ys.length) && same11T xs ys xs.length
theorem same11T_succ (xs ys : List (List Int)) (i : Nat) : same11T xs ys (i + 1) = (same11T xs ys i && refSameB (xs.getD i []) (ys.getD i [])) := by
 unfold same11T; rw [List.range_succ, List.all_append]; simp
theorem same11T_dead {xs ys : List (List Int)} {i : Nat} (h : same11T xs ys i = false) {j : Nat} (hj : i ≤ j) : same11T xs ys j = false := by
 unfold same11T at h ⊢
 rw [List.all_eq_false] at h ⊢
 obtain ⟨k, hk, h2⟩ := h
 exact ⟨k, List.mem_range.2 (by have := List.mem_range.1 hk; omega), h2⟩
set_option maxRecDepth 20000 in
set_option maxHeartbeats 4000000 in
theorem same11_any (A B : Option Addr) (c d : Nat) (xs ys : List (List Int)) (w : World) (ha : RowsAt w w.heap.size A xs) (hb : RowsAt w w.heap.size B ys) (h1 : ∀ l ∈ xs, l.length ≤ 1000) (h2 : ∀ l ∈ ys, l.length ≤ 1000) (h3 : xs.length ≤ 1000) :
  Calls Tryz.prog 32 #[.slice A xs.length c, .slice B ys.length d] w (fun e w' => e = .returned (.bool (same11 xs ys)) ∧ Below w.heap.size w w') := by
 have HA := Lib.hid ha
 have HB := Lib.hid hb
 have H1 := Lib.hid h1
 have H2 := Lib.hid h2
 clear ha hb h1 h2
 go_enter Tryz.func32, Tryz.ntmps32
 by_cases hl : xs.length = ys.length
 case neg =>
  have hl' : ((xs.length : Int) != (ys.length : Int)) = true := by rw [bne_iff_ne]; omega
  have HR := Lib.hid (show same11 xs ys = false by unfold same11; rw [decide_eq_false hl, Bool.false_and])
  clear hl
  go_wp2_with fail
  go_ret
  exact ⟨ret_bool HR.out.symm, Below.refl _ _⟩
 have hl' : ((xs.length : Int) != (ys.length : Int)) = false := by rw [hl]; simp
 have HR := Lib.hid (show same11 xs ys = same11T xs ys xs.length by unfold same11; rw [decide_eq_true hl, Bool.true_and])
 have HL := Lib.hid hl
 clear hl
 go_wp2_with fail
 clear hl'
 go_loopg [5] xs.length (fun k s5 wr => ∃ i : Nat, s5 = .int .i64 i ∧ i ≤ xs.length ∧ k = xs.length - i ∧ Below w.heap.size w wr ∧ same11T xs ys i = true)
 case atStart => exact ⟨0, rfl, Nat.zero_le _, rfl, Below.refl _ _, rfl⟩
 case round =>
  obtain ⟨i, rfl, hi, hk, hbr, hp⟩ := hrel
  have Hk := Lib.hid hk
  have Hp := Lib.hid hp
  clear hk hp
  by_cases hlt : i < xs.length
  ·have hlt' : (i : Int) < xs.length := by omega
   have hlb : i < ys.length := by have := HL.out; omega
   have hlb' : (i : Int) < ys.length := by omega
   obtain ⟨b1, o1, rfl, hb1, hc1⟩ := HA.out (by omega)
   obtain ⟨A1, c1, e1, hC1⟩ := hc1 i hlt
   obtain ⟨b2, o2, rfl, hb2, hc2⟩ := HB.out (by omega)
   obtain ⟨A2, c2, e2, hC2⟩ := hc2 i hlb
   have e1 := (hbr.cell (p := ⟨b1, o1 + i, none⟩) hb1).trans e1
   have e2 := (hbr.cell (p := ⟨b2, o2 + i, none⟩) hb2).trans e2
   have hC1 := hC1.below hbr
   have hC2 := hC2.below hbr
   have hs := hbr.size
   have HT := Lib.hid (show same11T xs ys (i + 1) = refSameB xs[i] ys[i] by
    rw [same11T_succ, Hp.out, Bool.true_and]
    simp [hlt, hlb])
   have k1 := H1.out _ (List.getElem_mem hlt)
   have k2 := H2.out _ (List.getElem_mem hlb)
   clear hc1 hc2
   generalize xs[i] = x at *
   generalize ys[i] = y at *
   have HRS := Lib.hid (fun n => refSame_any A1 A2 c1 c2 x y (wr.drewN n) (hC1.more hs) (hC2.more hs) (by omega) (by omega))
   cases hq : refSameB x y with
   | true =>
    rw [hq] at HRS HT
    go_wp2_with fail
    go_quiet ((go_at_call 82; exact quiet_b (HRS.out _)))
    go_wp2_with fail
    go_roundg (xs.length - (i + 1))
    case measure => rw [Hk.out]; omega
    case rel => exact ⟨i + 1, by go_num, by omega, rfl, below_drewN hbr nq, HT.out⟩
   | false =>
    rw [hq] at HRS HT
    have HF := Lib.hid (show same11 xs ys = false by rw [HR.out]; exact same11T_dead HT.out (by omega))
    go_wp2_with fail
    go_quiet ((go_at_call 82; exact quiet_b (HRS.out _)))
    go_wp2_with fail
    go_ret
    exact ⟨ret_bool HF.out.symm, below_drewN hbr nq⟩
  ·have hlt' : ¬ (i : Int) < xs.length := by omega
   have HF := Lib.hid (show same11 xs ys = true by rw [HR.out, show xs.length = i by omega]; exact Hp.out)
   go_wp2_with fail
   go_ret
   exact ⟨ret_bool HF.out.symm, hbr⟩
end Go.Proofs.YtneeknlhlkpnpaaGreat
namespace Go.Proofs.YtneeknlhlkpnpaaGreat
open Go.RowKit
end Go.Proofs.YtneeknlhlkpnpaaGreat
namespace Go.Proofs.YtneeknlhlkpnpaaGreat
open Go.RowKit
end Go.Proofs.YtneeknlhlkpnpaaGreat
