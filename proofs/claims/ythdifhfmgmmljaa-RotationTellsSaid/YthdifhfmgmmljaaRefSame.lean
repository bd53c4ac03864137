/-
  The document's Same; it tells what the program's tells. Written by an AI agent.
-/
import Derived.Test.YthdifhfmgmmljaaSameR
namespace Go.Proofs.Ythdifhfmgmmljaa
open Go.RowKit

def eqAt (a b : List Int) (k i : Nat) : Bool := decide (a.getD ((i + k) % a.length) 0 = b.getD i 0)
def rowB (a b : List Int) (k n : Nat) : Bool := (List.range n).all (eqAt a b k)
def refSameB (a b : List Int) : Bool := decide (a.length = b.length) && (decide (a.length = 0) || (List.range a.length).any fun k => rowB a b k a.length)
theorem rowB_succ (a b : List Int) (k n : Nat) : rowB a b k (n + 1) = (rowB a b k n && eqAt a b k n) := by
  unfold rowB; rw [List.range_succ, List.all_append]; simp
theorem rowB_rot {a b : List Int} {k : Nat} (hk : k < a.length) (hl : a.length = b.length) : rowB a b k a.length = decide (rot a k = b) := by
  rw [Bool.eq_iff_iff, decide_eq_true_eq]
  unfold rowB
  rw [List.all_eq_true]
  have key : ∀ i, i < a.length → (rot a k).getD i 0 = a.getD ((i + k) % a.length) 0 := fun i hi => by
    unfold rot
    rw [List.getD_eq_getElem?_getD, List.getD_eq_getElem?_getD, List.getElem?_append]
    simp only [List.length_drop]
    split
    · rw [List.getElem?_drop, Nat.mod_eq_of_lt (by omega), Nat.add_comm k i]
    · rw [List.getElem?_take, if_pos (by omega)]
      congr 2
      rw [show i + k = (i - (a.length - k)) + a.length by omega, Nat.add_mod_right, Nat.mod_eq_of_lt (by omega)]
  constructor
  · intro h
    refine List.ext_getElem (by rw [rot_length, hl]) fun i h1 h2 => ?_
    have hi : i < a.length := by rw [rot_length] at h1; exact h1
    have := h i (List.mem_range.2 hi)
    unfold eqAt at this
    rw [decide_eq_true_eq, ← key i hi, List.getD_eq_getElem?_getD, List.getElem?_eq_getElem h1, List.getD_eq_getElem?_getD, List.getElem?_eq_getElem h2] at this
    exact this
  · intro h i hi
    unfold eqAt
    rw [decide_eq_true_eq, ← key i (List.mem_range.1 hi), h]
/-- one tells what the other tells -/
theorem ref_turned (a b : List Int) : refSameB a b = turnedB a b := by
  unfold refSameB turnedB
  by_cases hl : a.length = b.length
  · rw [decide_eq_true hl, Bool.true_and, Bool.or_comm]
    congr 1
    · rw [Bool.eq_iff_iff, List.any_eq_true, List.any_eq_true]
      exact ⟨fun ⟨k, hk, h⟩ => ⟨k, hk, by rw [← rowB_rot (List.mem_range.1 hk) hl]; exact h⟩, fun ⟨k, hk, h⟩ => ⟨k, hk, by rw [rowB_rot (List.mem_range.1 hk) hl]; exact h⟩⟩
    · by_cases h0 : a.length = 0
      · rw [decide_eq_true h0, decide_eq_true (by omega)]; rfl
      · rw [decide_eq_false h0, Bool.false_and]
  · rw [decide_eq_false hl, Bool.false_and, eq_comm, Bool.or_eq_false_iff]
    constructor
    · rw [List.any_eq_false]
      intro i _
      rw [decide_eq_true_eq]
      intro h
      apply hl
      rw [← h, rot_length]
    · by_cases h0 : a.length = 0
      · rw [decide_eq_false (show ¬ b.length = 0 by omega), Bool.and_false]
      · rw [decide_eq_false h0, Bool.false_and]

set_option maxHeartbeats 1000000 in
theorem refSame_any (A B : Option Addr) (c d : Nat) (a b : List Int) (w : World) (ha : Cells w w.heap.size A (intCells a)) (hb : Cells w w.heap.size B (intCells b)) (hla : a.length ≤ 1000) (hlb : b.length ≤ 1000) :
    Calls Try.prog 22 #[.slice A a.length c, .slice B b.length d] w (QuietB (refSameB a b) w) := by
  by_cases hl : a.length = b.length
  · have H1 : ((a.length : Int) != (b.length : Int)) = false := by rw [int_bne]; simp [hl]
    have HL := Lib.hid hl
    have hl1 : a.length ≤ b.length := by omega
    clear hl
    go_enter Try.func22, Try.ntmps22
    go_wp2_with fail
    go_loopg [5] a.length (fun n s5 wr => ∃ k m : Nat, s5 = .int .i64 k ∧ k ≤ a.length ∧ n = a.length - k ∧ wr = w.drewN m ∧ ∀ j, j < k → rowB a b j a.length = false)
    case atStart => exact ⟨0, 0, rfl, Nat.zero_le _, rfl, rfl, fun j hj => absurd hj (by omega)⟩
    case round =>
      obtain ⟨k, m, rfl, hk, hn, hwr, hno⟩ := hrel
      have Hn := Lib.hid hn; clear hn
      have Hno := Lib.hid hno; clear hno
      have Hwr := Lib.hid hwr; clear hwr
      by_cases hlt : k < a.length
      · have hlt' : (k : Int) < a.length := by omega
        obtain ⟨b1, o1, rfl, _, hc1⟩ := ha.ints (by omega)
        obtain ⟨b2, o2, rfl, _, hc2⟩ := hb.ints (by omega)
        obtain ⟨w0, rfl⟩ : ∃ x, x = wr := ⟨_, rfl⟩
        go_wp2_with fail
        go_loopg [6, 7] a.length (fun n s6 s7 wr => ∃ (i m : Nat) (p : Bool), s7 = .int .i64 i ∧ i ≤ a.length ∧ n = a.length - i ∧ wr = w.drewN m ∧ s6 = .bool p ∧ p = rowB a b k i)
        case atStart => exact ⟨0, m, true, rfl, Nat.zero_le _, rfl, Hwr.out, rfl, rfl⟩
        case round =>
          obtain ⟨i, m2, p, rfl, hi, hn, hwr, rfl, hp⟩ := hrel
          have Hn2 := Lib.hid hn; clear hn
          have Hp := Lib.hid hp; clear hp
          by_cases hlt2 : i < a.length
          · have hlt2' : (i : Int) < a.length := by omega
            have hj : (i + k) % a.length < a.length := Nat.mod_lt _ (by omega)
            have c1 : wr.cell? ⟨b1, o1 + (i + k) % a.length, none⟩ = some (.int .i64 (a[(i + k) % a.length])) := by rw [hwr]; exact hc1 _ hj
            have c2 : wr.cell? ⟨b2, o2 + i, none⟩ = some (.int .i64 (b[i]'(by omega))) := by rw [hwr]; exact hc2 i (by omega)
            have hm : Int.tmod ((i : Int) + k) a.length = (((i + k) % a.length : Nat) : Int) := by rw [Int.tmod_eq_emod_of_nonneg (by omega)]; simp
            have hl0 : ¬ ((a.length : Int) = 0) := by omega
            have hj' : (((i + k) % a.length : Nat) : Int) < a.length := by omega
            have hb' : (i : Int) < b.length := by omega
            have HE := Lib.hid (show eqAt a b k i = decide (a[(i + k) % a.length] = b[i]'(by omega)) by
              unfold eqAt
              rw [List.getD_eq_getElem?_getD, List.getElem?_eq_getElem hj, List.getD_eq_getElem?_getD, List.getElem?_eq_getElem (show i < b.length by omega)]; rfl)
            have HS := Lib.hid (rowB_succ a b k i)
            have Hwr2 := Lib.hid hwr
            clear hwr
            generalize a[(i + k) % a.length] = x at *
            generalize b[i]'(by omega) = y at *
            generalize (i + k) % a.length = jj at *
            cases p with
            | true =>
              by_cases hxy : x = y
              · have hd : (x == y) = true := by simp [hxy]
                have HQ := Lib.hid (show rowB a b k (i + 1) = true by rw [HS.out, ← Hp.out, HE.out, decide_eq_true hxy]; rfl)
                clear hxy
                go_wp2_with fail
                go_quiet (fail)
                go_wp2_with fail
                go_roundg (a.length - (i + 1))
                case measure => rw [Hn2.out]; omega
                case rel => exact ⟨i + 1, m2 + nq, true, by go_num, by omega, rfl, by rw [Hwr2.out]; simp, rfl, HQ.out.symm⟩
              · have hd : (x == y) = false := by simp [hxy]
                have HQ := Lib.hid (show rowB a b k (i + 1) = false by rw [HS.out, HE.out, decide_eq_false hxy, Bool.and_false])
                clear hxy
                go_wp2_with fail
                go_quiet (fail)
                go_wp2_with fail
                go_roundg (a.length - (i + 1))
                case measure => rw [Hn2.out]; omega
                case rel => exact ⟨i + 1, m2 + nq, false, by go_num, by omega, rfl, by rw [Hwr2.out]; simp, rfl, HQ.out.symm⟩
            | false =>
              have HQ := Lib.hid (show rowB a b k (i + 1) = false by rw [HS.out, ← Hp.out, Bool.false_and])
              go_wp2_with fail
              go_quiet (fail)
              go_wp2_with fail
              go_roundg (a.length - (i + 1))
              case measure => rw [Hn2.out]; omega
              case rel => exact ⟨i + 1, m2 + nq, false, by go_num, by omega, rfl, by rw [Hwr2.out]; simp, rfl, HQ.out.symm⟩
          · have hie : i = a.length := by omega
            subst hie
            have Hwr2 := Lib.hid hwr
            clear hwr
            cases p with
            | true =>
              have HR := Lib.hid (show refSameB a b = true by
                unfold refSameB
                rw [decide_eq_true HL.out, Bool.true_and, Bool.or_eq_true]
                exact .inr (List.any_eq_true.2 ⟨k, List.mem_range.2 hlt, Hp.out.symm⟩))
              go_wp2_with fail
              go_ret
              exact ⟨ret_bool HR.out.symm, m2, Hwr2.out⟩
            | false =>
              go_wp2_with fail
              go_roundg (a.length - (k + 1))
              case measure => rw [Hn.out]; omega
              case rel => exact ⟨k + 1, m2, by go_num, by omega, rfl, Hwr2.out, fun j hj => by
                by_cases h : j = k
                · rw [h]; exact Hp.out.symm
                · exact Hno.out j (by omega)⟩
      · have HR := Lib.hid (show refSameB a b = decide (a.length = 0) by
          unfold refSameB
          rw [decide_eq_true HL.out, Bool.true_and]
          have : ((List.range a.length).any fun k => rowB a b k a.length) = false := by
            rw [List.any_eq_false]
            intro j hj
            rw [Hno.out j (by have := List.mem_range.1 hj; omega)]; simp
          rw [this, Bool.or_false])
        by_cases h0 : a.length = 0
        · have h0' : ((a.length : Int) == 0) = true := by simp [h0]
          rw [decide_eq_true h0] at HR
          clear h0
          go_wp2_with fail
          go_ret
          exact ⟨ret_bool HR.out.symm, m, Hwr.out⟩
        · have h0' : ((a.length : Int) == 0) = false := by simp; intro hh; apply h0; rw [hh]; rfl
          rw [decide_eq_false h0] at HR
          clear h0
          go_wp2_with fail
          go_ret
          exact ⟨ret_bool HR.out.symm, m, Hwr.out⟩
  · have H1 : ((a.length : Int) != (b.length : Int)) = true := by rw [int_bne]; simp [hl]
    have HR := Lib.hid (show refSameB a b = false by unfold refSameB; rw [decide_eq_false hl]; rfl)
    clear hl
    go_enter Try.func22, Try.ntmps22
    go_wp2_with fail
    go_ret
    exact ⟨ret_bool HR.out.symm, 0, rfl⟩
end Go.Proofs.Ythdifhfmgmmljaa
