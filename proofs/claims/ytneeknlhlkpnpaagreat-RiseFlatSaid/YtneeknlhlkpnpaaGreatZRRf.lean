import Derived.Test.YtneeknlhlkpnpaaGreatZEul
import Derived.Test.YtneeknlhlkpnpaaGreatZGol
import Derived.Test.YtneeknlhlkpnpaaGreatZRGr
import Derived.Test.YtneeknlhlkpnpaaGreatZFit2
import Derived.Test.YtneeknlhlkpnpaaGreatZWeb
import Derived.Test.YtneeknlhlkpnpaaGreatZRfs
import Derived.Test.YtneeknlhlkpnpaaGreatZChks
/-
 The document's Same; it tells what the program's tells. Written by an AI agent.
-/
namespace Go.Proofs.YtneeknlhlkpnpaaGreat
open Go.RowKit
def eqAt (a b : List Int) (k i : Nat) : Bool := decide (a.getD ((i + k) % a.length) 0 = b.getD i 0)
def rowB (a b : List Int) (k n : Nat) : Bool := (List.range n).all (eqAt a b k)
def refSameB (a b : List Int) : Bool := decide (a.length = b.length) && (decide (a.length = 0) || (List.range a.length).any fun k => rowB a b k a.length)
theorem rowB_succ (a b : List Int) (k n : Nat) : rowB a b k (n + 1) = (rowB a b k n && eqAt a b k n) := by
 unfold rowB; rw [List.range_succ, List.all_append]; simp
set_option maxHeartbeats 1000000 in
theorem refSame_any (A B : Option Addr) (c d : Nat) (a b : List Int) (w : World) (ha : Cells w w.heap.size A (intCells a)) (hb : Cells w w.heap.size B (intCells b)) (hla : a.length ≤ 1000) (hlb : b.length ≤ 1000) :
  Calls Tryz.prog 82 #[.slice A a.length c, .slice B b.length d] w (QuietB (refSameB a b) w) := by
 by_cases hl : a.length = b.length
 ·have H1 : ((a.length : Int) != (b.length : Int)) = false := by rw [int_bne]; simp [hl]
  have HL := Lib.hid hl
  have hl1 : a.length ≤ b.length := by omega
  clear hl
  go_enter Tryz.func82, Tryz.ntmps82
  go_wp2_with fail
  go_loopg [5] a.length (fun n s5 wr => ∃ k m : Nat, s5 = .int .i64 k ∧ k ≤ a.length ∧ n = a.length - k ∧ wr = w.drewN m ∧ ∀ j, j < k → rowB a b j a.length = false)
  case atStart => exact ⟨0, 0, rfl, Nat.zero_le _, rfl, rfl, fun j hj => absurd hj (by omega)⟩
  case round =>
   obtain ⟨k, m, rfl, hk, hn, hwr, hno⟩ := hrel
   have Hn := Lib.hid hn; clear hn
   have Hno := Lib.hid hno; clear hno
   have Hwr := Lib.hid hwr; clear hwr
   by_cases hlt : k < a.length
   ·have hlt' : (k : Int) < a.length := by omega
    obtain ⟨b1, o1, rfl, _, hc1⟩ := ha.ints (by omega)
    obtain ⟨b2, o2, rfl, _, hc2⟩ := hb.ints (by omega)
    obtain ⟨w0, rfl⟩ : ∃ x, x = wr := ⟨_, rfl⟩
    go_wp2_with fail
    go_loopg [6, 7] a.length (fun n s6 s7 wr => ∃ (i m : Nat) (p : Bool), s7 = .int .i64 i ∧ i ≤ a.length ∧ n = a.length - i ∧ wr = w.drewN m ∧ s6 = .bool p ∧ p = rowB a b k i)
    case atStart => exact ⟨0, m, true, rfl, Nat.zero_le _, rfl, Hwr.out, rfl, rfl⟩
    case round =>
     obtain ⟨i, m2, p, rfl, hi, hn, hwr, rfl, hp⟩ := hrel
     have Hn2 := Lib.hid hn; clear hn
     have Hp := Lib.hid hp; clear hp
     by_cases hlt2 : i < a.length
     ·have hlt2' : (i : Int) < a.length := by omega
      have hj : (i + k) % a.length < a.length := Nat.mod_lt _ (by omega)
      have c1 : wr.cell? ⟨b1, o1 + (i + k) % a.length, none⟩ = some (.int .i64 (a[(i + k) % a.length])) := by rw [hwr]; exact hc1 _ hj
      have c2 : wr.cell? ⟨b2, o2 + i, none⟩ = some (.int .i64 (b[i]'(by omega))) := by rw [hwr]; exact hc2 i (by omega)
      have hm : Int.tmod ((i : Int) + k) a.length = (((i + k) % a.length : Nat) : Int) := by rw [Int.tmod_eq_emod_of_nonneg (by omega)]; simp
      have hl0 : ¬ ((a.length : Int) = 0) := by omega
      have hj' : (((i + k) % a.length : Nat) : Int) < a.length := by omega
      have hb' : (i : Int) < b.length := by omega
      have HE := Lib.hid (show eqAt a b k i = decide (a[(i + k) % a.length] = b[i]'(by omega)) by
       unfold eqAt
       rw [List.getD_eq_getElem?_getD, List.getElem?_eq_getElem hj, List.getD_eq_getElem?_getD, List.getElem?_eq_getElem (show i < b.length by omega)]; rfl)
      have HS := Lib.hid (rowB_succ a b k i)
      have Hwr2 := Lib.hid hwr
      clear hwr
      generalize a[(i + k) % a.length] = x at *
      generalize b[i]'(by omega) = y at *
      generalize (i + k) % a.length = jj at *
      cases p with
      | true =>
       by_cases hxy : x = y
       ·have hd : (x == y) = true := by simp [hxy]
        have HQ := Lib.hid (show rowB a b k (i + 1) = true by rw [HS.out, ← Hp.out, HE.out, decide_eq_true hxy]; rfl)
        clear hxy
        go_wp2_with fail
        go_quiet (fail)
        go_wp2_with fail
        go_roundg (a.length - (i + 1))
        case measure => rw [Hn2.out]; omega
        case rel => exact ⟨i + 1, m2 + nq, true, by go_num, by omega, rfl, by rw [Hwr2.out]; simp, rfl, HQ.out.symm⟩
       ·have hd : (x == y) = false := by simp [hxy]
        have HQ := Lib.hid (show rowB a b k (i + 1) = false by rw [HS.out, HE.out, decide_eq_false hxy, Bool.and_false])
        clear hxy
        go_wp2_with fail
        go_quiet (fail)
        go_wp2_with fail
        go_roundg (a.length - (i + 1))
        case measure => rw [Hn2.out]; omega
        case rel => exact ⟨i + 1, m2 + nq, false, by go_num, by omega, rfl, by rw [Hwr2.out]; simp, rfl, HQ.out.symm⟩
      | false =>
       have HQ := Lib.hid (show rowB a b k (i + 1) = false by rw [HS.out, ← Hp.out, Bool.false_and])
       go_wp2_with fail
       go_quiet (fail)
       go_wp2_with fail
       go_roundg (a.length - (i + 1))
       case measure => rw [Hn2.out]; omega
       case rel => exact ⟨i + 1, m2 + nq, false, by go_num, by omega, rfl, by rw [Hwr2.out]; simp, rfl, HQ.out.symm⟩
     ·have hie : i = a.length := by omega
      subst hie
      have Hwr2 := Lib.hid hwr
      clear hwr
      cases p with
      | true =>
       have HR := Lib.hid (show refSameB a b = true by
        unfold refSameB
        rw [decide_eq_true HL.out, Bool.true_and, Bool.or_eq_true]
        exact .inr (List.any_eq_true.2 ⟨k, List.mem_range.2 hlt, Hp.out.symm⟩))
       go_wp2_with fail
       go_ret
       exact ⟨ret_bool HR.out.symm, m2, Hwr2.out⟩
      | false =>
       go_wp2_with fail
       go_roundg (a.length - (k + 1))
       case measure => rw [Hn.out]; omega
       case rel => exact ⟨k + 1, m2, by go_num, by omega, rfl, Hwr2.out, fun j hj => by
        by_cases h : j = k
        ·rw [h]; exact Hp.out.symm
        ·exact Hno.out j (by omega)⟩
   ·have HR := Lib.hid (show refSameB a b = decide (a.length = 0) by
     unfold refSameB
     rw [decide_eq_true HL.out, Bool.true_and]
     have : ((List.range a.length).any fun k => rowB a b k a.length) = false := by
      rw [List.any_eq_false]
      intro j hj
      rw [Hno.out j (by have := List.mem_range.1 hj; omega)]; simp
     rw [this, Bool.or_false])
    by_cases h0 : a.length = 0
    ·have h0' : ((a.length : Int) == 0) = true := by simp [h0]
     rw [decide_eq_true h0] at HR
     clear h0
     go_wp2_with fail
     go_ret
     exact ⟨ret_bool HR.out.symm, m, Hwr.out⟩
    ·have h0' : ((a.length : Int) == 0) = false := by simp; intro hh; apply h0; rw [hh]; rfl
     rw [decide_eq_false h0] at HR
     clear h0
     go_wp2_with fail
     go_ret
     exact ⟨ret_bool HR.out.symm, m, Hwr.out⟩
 ·have H1 : ((a.length : Int) != (b.length : Int)) = true := by rw [int_bne]; simp [hl]
  have HR := Lib.hid (show refSameB a b = false by unfold refSameB; rw [decide_eq_false hl]; rfl)
  clear hl
  go_enter Tryz.func82, Tryz.ntmps82
  go_wp2_with fail
  go_ret
  exact ⟨ret_bool HR.out.symm, 0, rfl⟩
end Go.Proofs.YtneeknlhlkpnpaaGreat
namespace Go.Proofs.YtneeknlhlkpnpaaGreat
open Go.RowKit
theorem quiet_b {P : Program} {f : FuncId} {args : Array Value} {w : World} {n : Nat} {p : Bool} (h : Calls P f args (w.drewN n) (QuietB p (w.drewN n))) : Calls P f args (w.drewN n) fun e w'' => e = .returned (.bool p) ∧ ∃ m, w'' = w.drewN m :=
 h.mono fun _ _ ⟨he, m, hm⟩ => ⟨he, n + m, by rw [hm, World.drewN_drewN]⟩
def same11T (xs ys : List (List Int)) (i : Nat) : Bool := (List.range i).all fun j => refSameB (xs.getD j []) (ys.getD j [])
def same11 (xs ys : List (List Int)) : Bool := decide (xs.length = ys.length) && same11T xs ys xs.length
theorem same11T_succ (xs ys : List (List Int)) (i : Nat) : same11T xs ys (i + 1) = (same11T xs ys i && refSameB (xs.getD i []) (ys.getD i [])) := by
 unfold same11T; rw [List.range_succ, List.all_append]; simp
theorem same11T_dead {xs ys : List (List Int)} {i : Nat} (h : same11T xs ys i = false) {j : Nat} (hj : i ≤ j) : same11T xs ys j = false := by
 unfold same11T at h ⊢
 rw [List.all_eq_false] at h ⊢
 obtain ⟨k, hk, h2⟩ := h
 exact ⟨k, List.mem_range.2 (by have := List.mem_range.1 hk; omega), h2⟩
set_option maxRecDepth 20000 in
set_option maxHeartbeats 4000000 in
theorem same11_any (A B : Option Addr) (c d : Nat) (xs ys : List (List Int)) (w : World) (ha : RowsAt w w.heap.size A xs) (hb : RowsAt w w.heap.size B ys) (h1 : ∀ l ∈ xs, l.length ≤ 1000) (h2 : ∀ l ∈ ys, l.length ≤ 1000) (h3 : xs.length ≤ 1000) :
  Calls Tryz.prog 32 #[.slice A xs.length c, .slice B ys.length d] w (fun e w' => e = .returned (.bool (same11 xs ys)) ∧ Below w.heap.size w w') := by
 have HA := Lib.hid ha
 have HB := Lib.hid hb
 have H1 := Lib.hid h1
 have H2 := Lib.hid h2
 clear ha hb h1 h2
 go_enter Tryz.func32, Tryz.ntmps32
 by_cases hl : xs.length = ys.length
 case neg =>
  have hl' : ((xs.length : Int) != (ys.length : Int)) = true := by rw [bne_iff_ne]; omega
  have HR := Lib.hid (show same11 xs ys = false by unfold same11; rw [decide_eq_false hl, Bool.false_and])
  clear hl
  go_wp2_with fail
  go_ret
  exact ⟨ret_bool HR.out.symm, Below.refl _ _⟩
 have hl' : ((xs.length : Int) != (ys.length : Int)) = false := by rw [hl]; simp
 have HR := Lib.hid (show same11 xs ys = same11T xs ys xs.length by unfold same11; rw [decide_eq_true hl, Bool.true_and])
 have HL := Lib.hid hl
 clear hl
 go_wp2_with fail
 clear hl'
 go_loopg [5] xs.length (fun k s5 wr => ∃ i : Nat, s5 = .int .i64 i ∧ i ≤ xs.length ∧ k = xs.length - i ∧ Below w.heap.size w wr ∧ same11T xs ys i = true)
 case atStart => exact ⟨0, rfl, Nat.zero_le _, rfl, Below.refl _ _, rfl⟩
 case round =>
  obtain ⟨i, rfl, hi, hk, hbr, hp⟩ := hrel
  have Hk := Lib.hid hk
  have Hp := Lib.hid hp
  clear hk hp
  by_cases hlt : i < xs.length
  ·have hlt' : (i : Int) < xs.length := by omega
   have hlb : i < ys.length := by have := HL.out; omega
   have hlb' : (i : Int) < ys.length := by omega
   obtain ⟨b1, o1, rfl, hb1, hc1⟩ := HA.out (by omega)
   obtain ⟨A1, c1, e1, hC1⟩ := hc1 i hlt
   obtain ⟨b2, o2, rfl, hb2, hc2⟩ := HB.out (by omega)
   obtain ⟨A2, c2, e2, hC2⟩ := hc2 i hlb
   have e1 := (hbr.cell (p := ⟨b1, o1 + i, none⟩) hb1).trans e1
   have e2 := (hbr.cell (p := ⟨b2, o2 + i, none⟩) hb2).trans e2
   have hC1 := hC1.below hbr
   have hC2 := hC2.below hbr
   have hs := hbr.size
   have HT := Lib.hid (show same11T xs ys (i + 1) = refSameB xs[i] ys[i] by
    rw [same11T_succ, Hp.out, Bool.true_and]
    simp [hlt, hlb])
   have k1 := H1.out _ (List.getElem_mem hlt)
   have k2 := H2.out _ (List.getElem_mem hlb)
   clear hc1 hc2
   generalize xs[i] = x at *
   generalize ys[i] = y at *
   have HRS := Lib.hid (fun n => refSame_any A1 A2 c1 c2 x y (wr.drewN n) (hC1.more hs) (hC2.more hs) (by omega) (by omega))
   cases hq : refSameB x y with
   | true =>
    rw [hq] at HRS HT
    go_wp2_with fail
    go_quiet ((go_at_call 82; exact quiet_b (HRS.out _)))
    go_wp2_with fail
    go_roundg (xs.length - (i + 1))
    case measure => rw [Hk.out]; omega
    case rel => exact ⟨i + 1, by go_num, by omega, rfl, below_drewN hbr nq, HT.out⟩
   | false =>
    rw [hq] at HRS HT
    have HF := Lib.hid (show same11 xs ys = false by rw [HR.out]; exact same11T_dead HT.out (by omega))
    go_wp2_with fail
    go_quiet ((go_at_call 82; exact quiet_b (HRS.out _)))
    go_wp2_with fail
    go_ret
    exact ⟨ret_bool HF.out.symm, below_drewN hbr nq⟩
  ·have hlt' : ¬ (i : Int) < xs.length := by omega
   have HF := Lib.hid (show same11 xs ys = true by rw [HR.out, show xs.length = i by omega]; exact Hp.out)
   go_wp2_with fail
   go_ret
   exact ⟨ret_bool HF.out.symm, hbr⟩
end Go.Proofs.YtneeknlhlkpnpaaGreat
namespace Go.Proofs.YtneeknlhlkpnpaaGreat
open Go.RowKit
theorem good_ask {n : Int} {es : List (Int × Int)} {rs : List (List Int)} (hg : GoodP n es) (hP : RightP n es rs) (hz : gen n es rs = 0) : askA n es rs = true := by
 refine fask_ask ?_
 unfold faskB
 rw [show goodB n es = true from tst_iff.2 hg, right_iff.2 hP, decide_eq_true hz]
 rfl
set_option maxRecDepth 20000 in
set_option maxHeartbeats 4000000 in
theorem rtip_any (n : Int) (A : Option Addr) (cap : Nat) (es : List (Int × Int)) (x : Nat) (w : World) (hes : Cells w w.heap.size A (edgeCells es)) (hl : es.length ≤ 1000) :
  Calls Tryz.prog 68 #[.agg #[.int .i64 n, .slice A es.length cap], .int .i64 x] w (fun e w' => e = .returned (.bool (tipB es x)) ∧ Below w.heap.size w w') := by
 have S1 := Lib.hid (SG.start n cap hes (rs := []) (C := none) (fun h => absurd h (by simp)))
 clear hes
 go_enter Tryz.func68, Tryz.ntmps68
 go_upto_region 1 with fail
 generalize w.alloc (.cells #[.int .i64 n, .slice A es.length cap] 24) = w1 at *
 have g0 := S1.out.g0
 have g1 := S1.out.g1
 go_wp2_with fail
 refine (refEnds_any n A cap es x false w1 S1.out.es hl).mono ?_
 rintro e w2 ⟨v2, rfl, hb2, ho2⟩
 simp only [Bool.false_eq_true, if_false] at ho2
 obtain ⟨A2, c2, rfl⟩ := own_slice ho2
 have S2 := Lib.hid (S1.out.next hb2)
 have hl1 := endsF_length es Prod.snd (x : Nat) es.length
 have hl2 := endsF_length es Prod.fst (x : Nat) es.length
 have HT := Lib.hid (show tipB es x = ((decide ((endsF es Prod.snd (x : Nat) es.length).length = 0)) != (decide ((endsF es Prod.fst (x : Nat) es.length).length = 0))) from rfl)
 obtain ⟨k1, hk1⟩ : ∃ k, k = (endsF es Prod.snd (x : Nat) es.length).length := ⟨_, rfl⟩
 rw [← hk1] at HT hl1 ⊢
 clear hb2 ho2 g0 g1 hk1
 have g0 := S2.out.g0
 have g1 := S2.out.g1
 go_wp2_with fail
 refine (refEnds_any n A cap es x true w2 S2.out.es hl).mono ?_
 rintro e w3 ⟨v3, rfl, hb3, ho3⟩
 simp only [if_true] at ho3
 obtain ⟨A3, c3, rfl⟩ := own_slice ho3
 have S3 := Lib.hid (S2.out.next hb3)
 obtain ⟨k2, hk2⟩ : ∃ k, k = (endsF es Prod.fst (x : Nat) es.length).length := ⟨_, rfl⟩
 rw [← hk2] at HT hl2 ⊢
 clear hb3 ho3 g0 g1 hk2
 have hw : IntKind.i64.wrap ((k1 : Int) + (k2 : Int)) = (k1 : Int) + (k2 : Int) := by rw [IntKind.wrap_i64]; omega
 rcases Nat.eq_zero_or_pos k1 with h1 | h1
 ·rcases Nat.eq_zero_or_pos k2 with h2 | h2
  ·have HR := Lib.hid (show tipB es x = false by rw [HT.out, h1, h2]; rfl)
   subst h1 h2
   go_wp2_with fail
   go_ret
   exact ⟨ret_bool HR.out.symm, S3.out.below⟩
  ·have HR := Lib.hid (show tipB es x = true by rw [HT.out, h1, decide_eq_false (by omega : ¬ k2 = 0)]; rfl)
   subst h1
   have hp : (0 : Int) < ((0 : Nat) : Int) + (k2 : Int) := by omega
   have hq : IntKind.i64.wrap (((0 : Nat) : Int) * (k2 : Int)) = 0 := by rw [show ((0 : Nat) : Int) = 0 from rfl, Int.zero_mul]; rfl
   go_wp2_with fail
   go_ret
   exact ⟨ret_bool HR.out.symm, S3.out.below⟩
 ·rcases Nat.eq_zero_or_pos k2 with h2 | h2
  ·have HR := Lib.hid (show tipB es x = true by rw [HT.out, h2, decide_eq_false (by omega : ¬ k1 = 0)]; rfl)
   subst h2
   have hp : (0 : Int) < (k1 : Int) + ((0 : Nat) : Int) := by omega
   have hq : IntKind.i64.wrap ((k1 : Int) * ((0 : Nat) : Int)) = 0 := by rw [show ((0 : Nat) : Int) = 0 from rfl, Int.mul_zero]; rfl
   go_wp2_with fail
   go_ret
   exact ⟨ret_bool HR.out.symm, S3.out.below⟩
  ·have HR := Lib.hid (show tipB es x = false by rw [HT.out, decide_eq_false (by omega : ¬ k1 = 0), decide_eq_false (by omega : ¬ k2 = 0)]; rfl)
   have hp : (0 : Int) < (k1 : Int) + (k2 : Int) := by omega
   have hm1 : k1 * k2 ≤ 1000 * 1000 := Nat.mul_le_mul (by omega) (by omega)
   have hm2 : 0 < k1 * k2 := Nat.mul_pos h1 h2
   have HQ := Lib.hid (show (wrap64 ((k1 : Int) * (k2 : Int)) == 0) = false from by
    rw [beq_eq_false_iff_ne, ← Int.natCast_mul]
    unfold wrap64
    omega)
   clear hm1 hm2
   go_wp2_with fail
   go_ret
   exact ⟨ret_bool (HQ.out.trans HR.out.symm), S3.out.below⟩
end Go.Proofs.YtneeknlhlkpnpaaGreat
namespace Go.Proofs.YtneeknlhlkpnpaaGreat
open Go.RowKit
theorem faces_none {n : Int} {es : List (Int × Int)} {rs : List (List Int)} (hP : RightP n es rs) : (facesOf n es rs).length = 0 ↔ es.length = 0 := by
 constructor
 ·intro h
  apply Classical.byContradiction
  intro hne
  obtain ⟨f, hf, _⟩ := face_has hP (h := 0) (by omega)
  omega
 ·intro h
  have := faces_le hP
  omega
set_option maxRecDepth 20000 in
set_option maxHeartbeats 8000000 in
theorem rfits_any (n : Int) (A C G : Option Addr) (cap ccap cg : Nat) (es : List (Int × Int)) (rs : List (List Int)) (outer : Int) (great : List Int) (w : World) (hes : Cells w w.heap.size A (edgeCells es)) (hrs : RowsAt w w.heap.size C rs) (hr1 : rs.length ≤ 1000) (hr2 : ∀ l ∈ rs, l.length ≤ 1000) (hgr : Cells w w.heap.size G (intCells great)) (hgl : great.length ≤ 1000) (hl : es.length ≤ 500) :
  Calls Tryz.prog 22 #[.agg #[.int .i64 n, .slice A es.length cap], .slice C rs.length ccap, .int .i64 outer, .slice G great.length cg] w (fun e w' => e = .returned (.bool (fitsF n es rs outer great)) ∧ Below w.heap.size w w') := by
 have S1 := Lib.hid (SG.start n cap hes hrs)
 have HR2 := Lib.hid hr2
 have HGR := Lib.hid hgr
 have HF0 := Lib.hid (show fitsF n es rs outer great = (goodB n es && ((askA n es rs && bimB rs) && (decide ((great.length : Int) = n) && fitRooms n es rs outer great))) from rfl)
 have HFR := Lib.hid (show fitRooms n es rs outer great = if (facesOf n es rs).length = 0 then decide (outer = 0) && decide (great.getD 0 0 = -1) else
  if 0 ≤ outer ∧ outer < ((facesOf n es rs).length : Int) then (match fitGo n es rs great (roomE n es rs outer.toNat) rs.length with | none => false | some room => !room.any nz) else false from rfl)
 clear hes hrs hr2 hgr
 go_enter Tryz.func22, Tryz.ntmps22
 go_upto_region 1 with fail
 generalize w.alloc (.cells #[.int .i64 n, .slice A es.length cap] 24) = w1 at *
 have g0 := S1.out.g0
 have g1 := S1.out.g1
 go_wp2_with fail
 refine (good_any n A cap es w1 S1.out.es).mono ?_
 rintro e w2 ⟨rfl, hb2⟩
 have S2 := Lib.hid (S1.out.next hb2)
 clear hb2 g0 g1
 have g0 := S2.out.g0
 have g1 := S2.out.g1
 cases hg : goodB n es with
 | false =>
  have HFX := Lib.hid (show fitsF n es rs outer great = false by rw [HF0.out, hg, Bool.false_and])
  clear hg
  go_wp2_with fail
  go_ret
  exact ⟨ret_bool HFX.out.symm, S2.out.below⟩
 | true =>
 have HGOOD := Lib.hid (tst_iff.1 hg : GoodP n es)
 have HF1 := Lib.hid (show fitsF n es rs outer great = ((askA n es rs && bimB rs) && (decide ((great.length : Int) = n) && fitRooms n es rs outer great)) by rw [HF0.out, hg, Bool.true_and])
 clear hg
 go_wp2_with fail
 refine (refRight_any n A C cap ccap es rs w2 S2.out.es S2.out.rs hr1 HR2.out).mono ?_
 rintro e w3 ⟨rfl, hb3⟩
 have S3 := Lib.hid (S2.out.next hb3)
 clear hb3 g0 g1
 have g0 := S3.out.g0
 have g1 := S3.out.g1
 cases hr : rightB n es rs with
 | false =>
  have HFX := Lib.hid (show fitsF n es rs outer great = false by rw [HF1.out]; unfold askA; rw [hr]; simp)
  clear hr
  go_wp2_with fail
  go_ret
  exact ⟨ret_bool HFX.out.symm, S3.out.below⟩
 | true =>
 have HP := Lib.hid (right_iff.1 hr)
 clear hr
 by_cases hln : (great.length : Int) = n
 case neg =>
  have hln' : ((great.length : Int) != n) = true := by rw [bne_iff_ne]; exact hln
  have HFX := Lib.hid (show fitsF n es rs outer great = false by rw [HF1.out, decide_eq_false hln, Bool.false_and, Bool.and_false])
  clear hln
  go_wp2_with fail
  go_ret
  exact ⟨ret_bool HFX.out.symm, S3.out.below⟩
 have hln' : ((great.length : Int) != n) = false := by rw [bne_eq_false_iff_eq]; exact hln
 have HF2 := Lib.hid (show fitsF n es rs outer great = ((askA n es rs && bimB rs) && fitRooms n es rs outer great) by rw [HF1.out, decide_eq_true hln, Bool.true_and])
 have HLN := Lib.hid hln
 clear hln
 go_wp2_with fail
 refine (refGenus_any n A C cap ccap es rs w3 S3.out.es S3.out.rs hr1 HR2.out HP.out).mono ?_
 rintro e w4 ⟨rfl, hb4⟩
 have S4 := Lib.hid (S3.out.next hb4)
 clear hb4 g0 g1
 have g0 := S4.out.g0
 have g1 := S4.out.g1
 by_cases hz : gen n es rs = 0
 case neg =>
  have HFX := Lib.hid (show fitsF n es rs outer great = false by
   rw [HF2.out]; unfold askA; rw [decide_eq_false hz]; simp)
  have hz' : ((gen n es rs : Int) != 0) = true := by rw [bne_iff_ne]; omega
  clear hz
  generalize gen n es rs = gg at *
  go_wp2_with fail
  go_ret
  exact ⟨ret_bool HFX.out.symm, S4.out.below⟩
 have HASK := Lib.hid (good_ask HGOOD.out HP.out hz)
 have HF3 := Lib.hid (show fitsF n es rs outer great = (bimB rs && fitRooms n es rs outer great) by rw [HF2.out, HASK.out, Bool.true_and])
 have hz' : ((gen n es rs : Int) != 0) = false := by rw [hz]; rfl
 clear hz
 generalize gen n es rs = gg at *
 go_wp2_with fail
 refine (refBim_any n A C cap ccap es rs w4 S4.out.es S4.out.rs hr1 HR2.out HP.out).mono ?_
 rintro e w5 ⟨rfl, hb5⟩
 have S5 := Lib.hid (S4.out.next hb5)
 clear hb5 g0 g1 hz'
 have g0 := S5.out.g0
 have g1 := S5.out.g1
 cases hb : bimB rs with
 | false =>
  have HFX := Lib.hid (show fitsF n es rs outer great = false by rw [HF3.out, hb, Bool.false_and])
  clear hb
  go_wp2_with fail
  go_ret
  exact ⟨ret_bool HFX.out.symm, S5.out.below⟩
 | true =>
 have HF3 := Lib.hid (show fitsF n es rs outer great = fitRooms n es rs outer great by rw [HF3.out, hb, Bool.true_and])
 clear hb
 obtain ⟨N, hN⟩ : ∃ N : Nat, n = (N : Int) := ⟨great.length, HLN.out.symm⟩
 subst hN
 have HGN := Lib.hid (show great.length = N by have := HLN.out; omega)
 have HRL := Lib.hid (show rs.length = N by have := HP.out.len; omega)
 have hN0 : 0 < N := by have := (may_parts HP.out.may).1; omega
 have hN64 : N ≤ 64 := by have := (may_parts HP.out.may).2.1; omega
 have hgl2 : great.length < 1001 := by omega
 obtain ⟨F, hF⟩ : ∃ F, F = (facesOf N es rs).length := ⟨_, rfl⟩
 have HFE := Lib.hid hF
 have hFl : F ≤ 1000 := by have := faces_le HP.out; have := (may_parts HP.out.may).2.2; omega
 have hFm : F = 0 ↔ es.length = 0 := by rw [hF]; exact faces_none HP.out
 rw [← hF] at HFR
 have HGR5 := Lib.hid ((HGR.out.below S5.out.below).more S5.out.below.size)
 clear hF
 by_cases hF0 : F = 0
 case pos =>
  have hm0 : ((es.length : Int) == 0) = true := by rw [hFm.1 hF0]; rfl
  rw [if_pos hF0] at HFR
  by_cases ho : outer = 0
  ·have ho' : (outer == 0) = true := by rw [ho]; rfl
   have HFX := Lib.hid (show fitsF N es rs outer great = (great.getD 0 0 == -1) by rw [HF3.out, HFR.out, decide_eq_true ho, Bool.true_and, Bool.eq_iff_iff, decide_eq_true_eq, beq_iff_eq])
   obtain ⟨bg, og, rfl, hbg, hcg⟩ := HGR5.out.ints (by have := HGN.out; omega)
   have hgp : 0 < great.length := by have := HGN.out; omega
   have cg0 := hcg 0 hgp
   have hgl3 : (0 : Int) < (great.length : Int) := by omega
   rw [show great[0] = great.getD 0 0 by rw [List.getD_eq_getElem?_getD, List.getElem?_eq_getElem hgp]; rfl] at cg0
   rw [Nat.add_zero] at cg0
   generalize great.getD 0 0 = gv at *
   clear ho hF0 hcg hgp hFm
   go_wp2_with fail
   go_ret
   exact ⟨ret_bool HFX.out.symm, S5.out.below⟩
  ·have ho' : (outer == 0) = false := by rw [beq_eq_false_iff_ne]; exact ho
   have HFX := Lib.hid (show fitsF N es rs outer great = false by rw [HF3.out, HFR.out, decide_eq_false ho, Bool.false_and])
   clear ho hF0 hFm
   go_wp2_with fail
   go_ret
   exact ⟨ret_bool HFX.out.symm, S5.out.below⟩
 have hm0 : ((es.length : Int) == 0) = false := by rw [beq_eq_false_iff_ne]; intro e; exact hF0 (hFm.2 (by omega))
 rw [if_neg hF0] at HFR
 by_cases ho : 0 ≤ outer
 case neg =>
  rw [if_neg (fun h => ho h.1)] at HFR
  have HFX := Lib.hid (show fitsF N es rs outer great = false by rw [HF3.out, HFR.out])
  have ho3 : outer < 0 := by omega
  clear hF0 hFm
  go_wp2_with fail
  go_ret
  exact ⟨ret_bool HFX.out.symm, S5.out.below⟩
 have ho3 : ¬ outer < 0 := by omega
 clear hFm
 go_wp2_with fail
 refine (refFaces_any N A C cap ccap es rs w5 S5.out.es S5.out.rs hr1 HR2.out HP.out).mono ?_
 rintro e w6 ⟨A6, c6, rfl, hb6, _⟩
 rw [← HFE.out]
 have S6 := Lib.hid (S5.out.next hb6)
 clear hb6 g0 g1
 have g0 := S6.out.g0
 have g1 := S6.out.g1
 by_cases ho2 : outer < (F : Int)
 case neg =>
  rw [if_neg (fun h => ho2 h.2)] at HFR
  have HFX := Lib.hid (show fitsF N es rs outer great = false by rw [HF3.out, HFR.out])
  have ho4 : (F : Int) ≤ outer := by omega
  clear hF0
  go_wp2_with fail
  go_ret
  exact ⟨ret_bool HFX.out.symm, S6.out.below⟩
 rw [if_pos ⟨ho, ho2⟩] at HFR
 obtain ⟨f0, rfl⟩ : ∃ f0 : Nat, outer = f0 := ⟨outer.toNat, by omega⟩
 rw [Int.toNat_natCast] at HFR
 have ho4 : ¬ (F : Int) ≤ (f0 : Int) := by omega
 have hf0 : f0 < F := by omega
 clear ho hF0
 have HRM := rooms_any N A C cap ccap es rs f0 w6 S6.out.es S6.out.rs hr1 HR2.out HP.out (by rw [← HFE.out]; exact hf0)
 obtain ⟨room, hroom⟩ : ∃ room, room = roomE N es rs f0 := ⟨_, rfl⟩
 rw [← hroom] at HRM HFR
 have HRLE := Lib.hid (show room.length = F by rw [hroom, HFE.out]; exact roomT_length _ _ _ _ _)
 have HRSM := Lib.hid (show ∀ x ∈ room, -1 ≤ x ∧ x ≤ 1000 from fun x hx => by
  rw [hroom] at hx
  have := roomT_le hx
  have := (may_parts HP.out.may).2.2
  omega)
 have HFc := Lib.hid (show ∀ h, h < 2 * es.length → angF N es rs h < F from fun h hh => by rw [HFE.out]; exact (angF_spec HP.out hh).1)
 clear hroom
 go_wp2_with fail
 refine HRM.mono ?_
 rintro e w7 ⟨g, rfl, hb7, hbl7, hgg⟩
 rw [HRLE.out]
 have S7 := Lib.hid (S6.out.next hb7)
 have HR7 := Lib.hid hbl7
 have HG7 := Lib.hid (And.intro hgg hb7)
 clear HRM hb7 hbl7 g0 g1 hgg
 have g0 := S7.out.g0
 have g1 := S7.out.g1
 go_wp2_with fail
 refine (refAngs_any N A C cap ccap es rs w7 S7.out.es S7.out.rs hr1 HR2.out HP.out).mono ?_
 rintro e w8 ⟨A8, c8, rfl, hb8, hc8, hc9⟩
 rw [angL_length]
 rw [angL_qu] at hc8
 have S8 := Lib.hid (S7.out.next hb8)
 have HQ8 := Lib.hid hc8
 have HR8 := Lib.hid (HR7.out.below hb8 HR7.out.lt)
 have HB68 := Lib.hid (HG7.out.2.trans (hb8.mono HG7.out.2.size))
 have hgw6 : w6.heap.size ≤ g := HG7.out.1
 have hg8 : g < w8.heap.size := HR8.out.lt
 have h78 : w7.heap.size ≤ w8.heap.size := hb8.size
 have HSG := Lib.hid (show ∀ wr, Below w6.heap.size w6 wr → SG w wr N A cap es C rs from fun wr hb => S6.out.next hb)
 have HGRR := Lib.hid (show ∀ wr, Below w6.heap.size w6 wr → Cells wr w6.heap.size G (intCells great) from fun wr hb => (((HGR.out.below S6.out.below).more S6.out.below.size).below hb))
 have hm1 : 0 < es.length := by rcases Nat.eq_zero_or_pos es.length with h | h; rw [h] at hm0; cases hm0; exact h
 obtain ⟨ba, oa, eA, hba, hca⟩ := HQ8.out.qu (by omega)
 have hgba : g ≠ ba := by
  have h1 := hc9 _ eA
  have h2 := HR7.out.lt
  simp only at h1
  omega
 have HCA := Lib.hid (show ∀ h, h < 2 * es.length → w8.cell? ⟨ba, oa + h * 4 + 1, none⟩ = some (.int .i64 (vtx es h : Nat)) ∧ w8.cell? ⟨ba, oa + h * 4 + 2, none⟩ = some (.int .i64 (angF N es rs h : Nat)) from fun h hh => ⟨(hca h hh).2.1, (hca h hh).2.2.1⟩)
 subst eA
 clear hb8 hc8 hc9 g0 g1 hca
 go_wp2_with fail
 go_loopg [11] N (fun k s11 wr => ∃ (i : Nat) (r' : List Int), s11 = .int .i64 i ∧ i ≤ N ∧ k = N - i ∧ fitGo N es rs great room i = some r' ∧ Below w6.heap.size w6 wr ∧ w8.heap.size ≤ wr.heap.size ∧ Blk wr g 3 (intCells r').toArray ∧ ∀ h, h < 2 * es.length → wr.cell? ⟨ba, oa + h * 4 + 1, none⟩ = some (.int .i64 (vtx es h : Nat)) ∧ wr.cell? ⟨ba, oa + h * 4 + 2, none⟩ = some (.int .i64 (angF N es rs h : Nat)))
 case atStart => exact ⟨0, room, rfl, Nat.zero_le _, rfl, rfl, HB68.out, Nat.le_refl _, HR8.out, HCA.out⟩
 case round =>
  obtain ⟨i, r', rfl, hi, hk, hgo, hb, hsz, hbl, hcq⟩ := hrel
  have Hk := Lib.hid hk
  have HB := Lib.hid hb
  have HBL := Lib.hid hbl
  have HGO := Lib.hid hgo
  have HCQ := Lib.hid hcq
  have hri := fitGo_inv hgo
  have HRL' := Lib.hid (show r'.length = F by rw [hri.1, HRLE.out])
  have HRS' := Lib.hid (show ∀ x ∈ r', -101 ≤ x ∧ x ≤ 1000 from fun x hx => by
   obtain ⟨y, hy, h1, h2⟩ := hri.2 x hx
   have := HRSM.out y hy
   omega)
  have SW := Lib.hid (HSG.out wr hb)
  have BELW := Lib.hid SW.out.below
  have g0 := SW.out.g0
  have g1 := SW.out.g1
  have hbaw : ba < wr.heap.size := by omega
  clear hk hbl hgo hri hcq
  by_cases hil : i < N
  ·have hil' : (i : Int) < N := by omega
   obtain ⟨bg, og, eG, hbg, hcg⟩ := (HGRR.out wr hb).ints (by have := HGN.out; omega)
   subst eG
   have cg0 := hcg i (by have := HGN.out; omega)
   have hgil : (i : Int) < (great.length : Int) := by have := HGN.out; omega
   have HST := Lib.hid (show fitStep N es rs great (some r') i = if tipB es i = true then (if 0 ≤ great.getD i 0 ∧ great.getD i 0 < ((2 * es.length : Nat) : Int) ∧ vtx es (great.getD i 0).toNat = i then some (r'.set (angF N es rs (great.getD i 0).toNat) (r'.getD (angF N es rs (great.getD i 0).toNat) 0 - 1)) else none)
    else if great.getD i 0 = -1 then some r' else none from rfl)
   rw [show great[i]'(by have := HGN.out; omega) = great.getD i 0 by rw [List.getD_eq_getElem?_getD, List.getElem?_eq_getElem (by have := HGN.out; omega)]; rfl] at cg0
   generalize great.getD i 0 = gv at *
   clear hcg hbg hb
   go_wp2_with fail
   refine (rtip_any N A cap es i wr SW.out.es (by omega)).mono ?_
   rintro e wq ⟨rfl, hbq⟩
   have SQ := Lib.hid (SW.out.next hbq)
   have HBQ := Lib.hid (HB.out.trans (hbq.mono HB.out.size))
   have HBLQ := Lib.hid (HBL.out.below hbq HBL.out.lt)
   have HCQQ := Lib.hid (show ∀ h, h < 2 * es.length → wq.cell? ⟨ba, oa + h * 4 + 1, none⟩ = some (.int .i64 (vtx es h : Nat)) ∧ wq.cell? ⟨ba, oa + h * 4 + 2, none⟩ = some (.int .i64 (angF N es rs h : Nat)) from fun h hh => ⟨(hbq.cell (p := ⟨ba, oa + h * 4 + 1, none⟩) hbaw).trans (HCQ.out h hh).1, (hbq.cell (p := ⟨ba, oa + h * 4 + 2, none⟩) hbaw).trans (HCQ.out h hh).2⟩)
   have BELW := Lib.hid SQ.out.below
   have hszq : w8.heap.size ≤ wq.heap.size := Nat.le_trans hsz hbq.size
   clear g0 g1 hbq cg0
   have g0 := SQ.out.g0
   have g1 := SQ.out.g1
   cases ht : tipB es i with
   | false =>
    rw [ht] at HST
    rw [if_neg (by decide)] at HST
    by_cases hv : gv = -1
    ·have hv' : (gv != -1) = false := by rw [hv]; rfl
     rw [if_pos hv] at HST
     have HN := Lib.hid (show fitGo N es rs great room (i + 1) = some r' by rw [fitGo_succ, HGO.out]; exact HST.out)
     clear hv ht HST
     go_wp2_with fail
     go_roundg (N - (i + 1))
     case measure => rw [Hk.out]; omega
     case rel => exact ⟨i + 1, r', by go_num, by omega, rfl, HN.out, HBQ.out, hszq, HBLQ.out, HCQQ.out⟩
    ·have hv' : (gv != -1) = true := by rw [bne_iff_ne]; exact hv
     rw [if_neg hv] at HST
     have HFX := Lib.hid (show fitsF N es rs f0 great = false by
    rw [HF3.out, HFR.out, HRL.out, fitGo_dead (k := i + 1) (by rw [fitGo_succ, HGO.out]; exact HST.out) N (by omega)])
     clear hv ht HST
     go_wp2_with fail
     go_ret
     exact ⟨ret_bool HFX.out.symm, BELW.out⟩
   | true =>
    rw [ht] at HST
    rw [if_pos rfl] at HST
    by_cases hv0 : 0 ≤ gv
    ·obtain ⟨h, rfl⟩ : ∃ h : Nat, gv = h := ⟨gv.toNat, by omega⟩
     rw [Int.toNat_natCast] at HST
     by_cases hv1 : h < 2 * es.length
     ·have hv1' : (h : Int) < ((2 * es.length : Nat) : Int) := by omega
      have hv1n : ¬ ((2 * es.length : Nat) : Int) ≤ (h : Int) := by omega
      obtain ⟨d1, d2⟩ := HCQQ.out h hv1
      have hfv := HFc.out h hv1
      obtain ⟨fv, hfv2⟩ : ∃ fv, fv = angF N es rs h := ⟨_, rfl⟩
      obtain ⟨vv, hvv⟩ : ∃ vv, vv = vtx es h := ⟨_, rfl⟩
      rw [← hfv2] at d2 HST hfv
      rw [← hvv] at d1 HST
      clear hfv2 hvv
      by_cases hvx : vv = i
      ·have hvx' : ((vv : Int) != (i : Int)) = false := by rw [hvx]; simp
       rw [if_pos ⟨by omega, hv1', hvx⟩] at HST
       have HN := Lib.hid (show fitGo N es rs great room (i + 1) = some (r'.set fv (r'.getD fv 0 - 1)) by rw [fitGo_succ, HGO.out]; exact HST.out)
       have hfF : (fv : Int) < (F : Int) := by omega
       have hfr : fv < r'.length := by rw [HRL'.out]; exact hfv
       have cr := HBLQ.out.int_ (k := fv) hfr
       have fr := HBLQ.out.frozen fv
       have hvb := HRS'.out (r'.getD fv 0) (by
        rw [List.getD_eq_getElem?_getD, List.getElem?_eq_getElem hfr]
        exact List.getElem_mem _)
       have HN1 := Lib.hid (HBLQ.out.setInt fv (r'.getD fv 0 - 1))
       have HNB := Lib.hid (HBQ.out.setCell (p := ⟨g, fv, none⟩) hgw6 (.int .i64 (r'.getD fv 0 - 1)))
       have HNC := Lib.hid (show ∀ h, h < 2 * es.length → (wq.setCell ⟨g, fv, none⟩ (.int .i64 (r'.getD fv 0 - 1))).cell? ⟨ba, oa + h * 4 + 1, none⟩ = some (.int .i64 (vtx es h : Nat)) ∧ (wq.setCell ⟨g, fv, none⟩ (.int .i64 (r'.getD fv 0 - 1))).cell? ⟨ba, oa + h * 4 + 2, none⟩ = some (.int .i64 (angF N es rs h : Nat)) from fun h hh => ⟨(World.cell?_of_block (Below.heap_setCell wq ⟨g, fv, none⟩ _ ba (fun e => hgba e.symm))).trans (HCQQ.out h hh).1, (World.cell?_of_block (Below.heap_setCell wq ⟨g, fv, none⟩ _ ba (fun e => hgba e.symm))).trans (HCQQ.out h hh).2⟩)
       generalize r'.getD fv 0 = rv at *
       have hwv : IntKind.i64.wrap (rv - 1) = rv - 1 := by rw [IntKind.wrap_i64]; omega
       clear hvx ht HST hfr hv1
       go_wp2_with fail
       go_roundg (N - (i + 1))
       case measure => rw [Hk.out]; omega
       case rel => exact ⟨i + 1, r'.set fv (rv - 1), by go_num, by omega, rfl, HN.out, HNB.out, by simpa using hszq, HN1.out, HNC.out⟩
      ·have hvx' : ((vv : Int) != (i : Int)) = true := by rw [bne_iff_ne]; omega
       rw [if_neg (fun h => hvx h.2.2)] at HST
       have HFX := Lib.hid (show fitsF N es rs f0 great = false by
    rw [HF3.out, HFR.out, HRL.out, fitGo_dead (k := i + 1) (by rw [fitGo_succ, HGO.out]; exact HST.out) N (by omega)])
       clear hvx ht HST hv1
       go_wp2_with fail
       go_ret
       exact ⟨ret_bool HFX.out.symm, BELW.out⟩
     ·have hv1' : ((2 * es.length : Nat) : Int) ≤ (h : Int) := by omega
      rw [if_neg (fun h => hv1 (by omega))] at HST
      have HFX := Lib.hid (show fitsF N es rs f0 great = false by
    rw [HF3.out, HFR.out, HRL.out, fitGo_dead (k := i + 1) (by rw [fitGo_succ, HGO.out]; exact HST.out) N (by omega)])
      clear hv1 ht HST
      go_wp2_with fail
      go_ret
      exact ⟨ret_bool HFX.out.symm, BELW.out⟩
    ·have hv0' : gv < 0 := by omega
     rw [if_neg (fun h => hv0 h.1)] at HST
     have HFX := Lib.hid (show fitsF N es rs f0 great = false by
    rw [HF3.out, HFR.out, HRL.out, fitGo_dead (k := i + 1) (by rw [fitGo_succ, HGO.out]; exact HST.out) N (by omega)])
     clear ht HST
     go_wp2_with fail
     go_ret
     exact ⟨ret_bool HFX.out.symm, BELW.out⟩
  ·have hil' : ¬ (i : Int) < N := by omega
   have HFX := Lib.hid (show fitsF N es rs f0 great = !r'.any nz by
    have e1 : i = N := by omega
    have h9 := HGO.out
    rw [e1] at h9
    rw [HF3.out, HFR.out, HRL.out, h9])
   clear hb
   go_wp2_with fail
   go_loopg [13] F (fun k s13 wz => ∃ i : Nat, s13 = .int .i64 i ∧ i ≤ F ∧ k = F - i ∧ wr = wz ∧ ∀ j, j < i → r'.getD j 0 = 0)
   case atStart => exact ⟨0, rfl, Nat.zero_le _, rfl, rfl, fun j h => absurd h (Nat.not_lt_zero _)⟩
   case round =>
    obtain ⟨j, rfl, hj, hk, rfl, hno⟩ := hrel
    have Hk := Lib.hid hk
    have HNO := Lib.hid hno
    clear hk hno
    by_cases hjl : j < F
    ·have hjl' : (j : Int) < F := by omega
     have cr := HBL.out.int_ (k := j) (by rw [HRL'.out]; exact hjl)
     have HMEM := Lib.hid (show r'.getD j 0 ∈ r' by
      have h9 : j < r'.length := by rw [HRL'.out]; exact hjl
      rw [List.getD_eq_getElem?_getD, List.getElem?_eq_getElem h9]
      exact List.getElem_mem _)
     obtain ⟨rv, hrv⟩ : ∃ rv, rv = r'.getD j 0 := ⟨_, rfl⟩
     rw [← hrv] at cr HMEM
     by_cases hz0 : rv = 0
     ·have hz0' : (rv != 0) = false := by rw [hz0]; rfl
      have HNX := Lib.hid (show ∀ q, q < j + 1 → r'.getD q 0 = 0 from fun q hq => by
       by_cases e : q = j
       ·subst e; rw [← hrv]; exact hz0
       ·exact HNO.out q (by omega))
      clear hz0 hrv
      go_wp2_with fail
      go_roundg (F - (j + 1))
      case measure => rw [Hk.out]; omega
      case rel => exact ⟨j + 1, by go_num, by omega, rfl, rfl, HNX.out⟩
     ·have hz0' : (rv != 0) = true := by rw [bne_iff_ne]; exact hz0
      have HFY := Lib.hid (show fitsF N es rs f0 great = false by
       rw [HFX.out, show r'.any nz = true from List.any_eq_true.2 ⟨rv, HMEM.out, by unfold nz; exact hz0'⟩]; rfl)
      clear hz0 hrv
      go_wp2_with fail
      go_ret
      exact ⟨ret_bool HFY.out.symm, BELW.out⟩
    ·have hjl' : ¬ (j : Int) < F := by omega
     have HFY := Lib.hid (show fitsF N es rs f0 great = true by
      rw [HFX.out, show r'.any nz = false from List.any_eq_false.2 fun a ha => by
       obtain ⟨q, hq, rfl⟩ := List.mem_iff_getElem.1 ha
       have h9 := HNO.out q (by have := HRL'.out; omega)
       rw [List.getD_eq_getElem?_getD, List.getElem?_eq_getElem hq, Option.getD_some] at h9
       rw [h9]; simp [nz]]; rfl)
     go_wp2_with fail
     go_ret
     exact ⟨ret_bool HFY.out.symm, BELW.out⟩
end Go.Proofs.YtneeknlhlkpnpaaGreat
