/-
  bits.TrailingZeros64 and Set.All: the set's numbers, rising. Condition: the table lies in its variable. Written by an AI agent.
-/
import Derived.Test.YtnjikhhegebkiaaDoorSlices
import Derived.Test.YtnjikhhegebkiaaDoorApp
import Derived.Lib.TrailingZeros
import Derived.Laws.Bits64b
namespace Go.Proofs.YtnjikhhegebkiaaDoor
open Go.RowKit

/-- the table in its variable -/
def Tab (w : World) : Prop := ∀ j, j < 64 → w.cell? ⟨0, j, none⟩ = some (.int .u8 ((Lib.deBruijn64tab.getD j 0 : Nat) : Int))
theorem Tab.below {B : Nat} {w w' : World} (h : Tab w) (hb : Below B w w') (hB : 0 < B) : Tab w' := fun j hj => (hb.cell (p := ⟨0, j, none⟩) hB).trans (h j hj)

theorem tz_key (x a : Nat) (hx : x < 18446744073709551616) (hx0 : x ≠ 0) (hlow : x &&& (18446744073709551616 - x) = a) :
    IntKind.u64.wrap (bits BinOp.and IntKind.u64 (x : Int) (IntKind.u64.wrap (-(x : Int))) * 285870213051353865) / 288230376151711744 = ((a * 285870213051353865 % 18446744073709551616 / 288230376151711744 : Nat) : Int) := by
  have e1 : IntKind.u64.wrap (-(x : Int)) = ((18446744073709551616 - x : Nat) : Int) := by rw [IntKind.wrap_u64]; omega
  rw [e1, bits_and_u64_nat x _ hx (by omega), hlow, IntKind.wrap_u64]
  omega
theorem tz_core (x k idx : Nat) (w : World) (hx0 : ((x : Int) == 0) = false)
    (key : IntKind.u64.wrap (bits BinOp.and IntKind.u64 (x : Int) (IntKind.u64.wrap (-(x : Int))) * 285870213051353865) / 288230376151711744 = (idx : Int))
    (hi : idx < 64) (hk : k < 64) (hcell : w.cell? ⟨0, idx, none⟩ = some (.int .u8 k)) :
    Calls Tryd.prog 42 #[.int .u64 x] w fun e w' => e = .returned (.int .i64 k) ∧ w = w' := by
  go_enter Tryd.func42, Tryd.ntmps42
  go_wp2_with (simp only [key])
  go_ret
  exact ⟨rfl, rfl⟩
theorem ctz_spec {x : Nat} (h0 : x ≠ 0) (hx : x < 18446744073709551616) : Lib.ctz 64 x < 64 ∧ x.testBit (Lib.ctz 64 x) = true ∧ ∀ i, i < Lib.ctz 64 x → x.testBit i = false := by
  obtain ⟨m, hm, hk⟩ := Lib.ctzFrom_spec 64 x (by omega) hx
  have e : Lib.ctz 64 x = Lib.ctzFrom 64 x := by simp [Lib.ctz, h0]
  rw [e]
  generalize Lib.ctzFrom 64 x = k at *
  subst hm
  refine ⟨hk, ?_, fun i hi => ?_⟩
  · rw [Nat.mul_comm, Nat.testBit_mul_two_pow]; simp
  · rw [Nat.mul_comm, Nat.testBit_mul_two_pow]
    simp only [show ¬ k ≤ i by omega, decide_false, Bool.false_and]
theorem tz_any (x : Nat) (hx0 : x ≠ 0) (hx : x < 18446744073709551616) (w : World) (hT : Tab w) :
    Calls Tryd.prog 42 #[.int .u64 x] w fun e w' => e = .returned (.int .i64 (Lib.ctz 64 x : Nat)) ∧ w = w' := by
  obtain ⟨hlow, hk⟩ := Lib.lowest_bit 64 x hx0 hx
  obtain ⟨hi, htab⟩ := Lib.deBruijn64_at _ hk
  have hcell := hT _ hi
  rw [htab] at hcell
  exact tz_core x _ _ w (by simp; omega) (tz_key x _ hx hx0 hlow) hi hk hcell

/-- the numbers below j that are in the set -/
def bitsL (s j : Nat) : List Int := ((List.range j).filter s.testBit).map Int.ofNat
theorem bitsL_length (s j : Nat) : (bitsL s j).length ≤ j := by
  unfold bitsL; rw [List.length_map]; exact Nat.le_trans (List.length_filter_le _ _) (by simp)
theorem bitsL_succ (s j : Nat) : bitsL s (j + 1) = bitsL s j ++ if s.testBit j = true then [(j : Int)] else [] := by
  unfold bitsL
  rw [List.range_succ, List.filter_append, List.map_append]
  by_cases h : s.testBit j = true <;> simp [h]
theorem bitsL_gap {s j : Nat} : ∀ d, (∀ i, j ≤ i → i < j + d → s.testBit i = false) → bitsL s (j + d) = bitsL s j
  | 0, _ => rfl
  | d + 1, h => by
    rw [← Nat.add_assoc, bitsL_succ, h (j + d) (by omega) (by omega), bitsL_gap d fun i h1 h2 => h i h1 (by omega)]
    simp
theorem bitsL_next {s j k : Nat} (hj : j ≤ k) (hk : s.testBit k = true) (hlo : ∀ i, j ≤ i → i < k → s.testBit i = false) : bitsL s (k + 1) = bitsL s j ++ [(k : Int)] := by
  obtain ⟨d, rfl⟩ : ∃ d, k = j + d := ⟨k - j, by omega⟩
  rw [bitsL_succ, bitsL_gap d hlo, hk]
  simp
theorem bit_off {r k : Nat} (hk : k < 64) (i : Nat) : (r &&& (18446744073709551615 - 2 ^ k)).testBit i = (decide (i < 64) && !decide (i = k) && r.testBit i) := by
  have h1 : (2 : Nat) ^ k < 2 ^ 64 := Nat.pow_lt_pow_right (by omega) hk
  have e : 18446744073709551615 - 2 ^ k = 2 ^ 64 - (2 ^ k + 1) := by omega
  rw [Nat.testBit_and, e, Nat.testBit_two_pow_sub_succ h1, Nat.testBit_two_pow, Bool.and_comm]
  by_cases h : k = i
  · simp [h]
  · simp [h, Ne.symm h]
theorem shl_off (r k : Nat) (hr : r < 18446744073709551616) (hk : k < 64) : bits .andNot .u64 (r : Int) (IntKind.u64.wrap (2 ^ k)) = ((r &&& (18446744073709551615 - 2 ^ k) : Nat) : Int) := by
  have h2 : 2 ^ k < 18446744073709551616 := Nat.pow_lt_pow_right (a := 2) (m := k) (n := 64) (by omega) hk
  have e : IntKind.u64.wrap (2 ^ k) = ((2 ^ k : Nat) : Int) := by
    rw [IntKind.wrap_u64]
    have : ((2 : Int) ^ k) = ((2 ^ k : Nat) : Int) := by simp
    rw [this]; exact Int.emod_eq_of_lt (Int.natCast_nonneg _) (Int.ofNat_lt.2 h2)
  rw [e, u64_andNot_nat r _ hr h2]

set_option maxHeartbeats 1000000 in
theorem all_any (s : Nat) (hs : s < 18446744073709551616) (w : World) (hT : Tab w) (hB : 0 < w.heap.size) :
    Calls Tryd.prog 27 #[.int .u64 s] w (fun e w' => ∃ v, e = .returned v ∧ Below w.heap.size w w' ∧ w'.ownsRow w.heap.size 3 1 v (bitsL s 64).length (intCells (bitsL s 64))) := by
  go_enter Tryd.func27, Tryd.ntmps27
  go_wp2_with fail
  go_loopg [0, 2] 64 (fun k s0 s2 wr => ∃ j r : Nat, s0 = .int .u64 r ∧ j ≤ 64 ∧ k = 64 - j ∧ r < 18446744073709551616 ∧ (∀ i, i < 64 → r.testBit i = (decide (j ≤ i) && s.testBit i)) ∧ Below w.heap.size w wr ∧ wr.ownsRow w.heap.size 3 1 s2 (bitsL s j).length (intCells (bitsL s j)))
  case atStart => exact ⟨0, s, rfl, Nat.zero_le _, rfl, hs, fun i _ => by simp, Below.refl _ _, World.ownsRow_nil _ _ _ _⟩
  case round =>
    obtain ⟨j, r, rfl, hj, hk, hr, hbit, hb, hown⟩ := hrel
    have Hk := Lib.hid hk; clear hk
    have Hbit := Lib.hid hbit; clear hbit
    have hbs := hb.size
    by_cases hr0 : r = 0
    · subst hr0
      have e : bitsL s 64 = bitsL s j := by
        have := bitsL_gap (s := s) (j := j) (64 - j) (fun i h1 h2 => by
          have := Hbit.out i (by omega)
          rw [decide_eq_true h1] at this
          simpa using this.symm)
        rwa [show j + (64 - j) = 64 by omega] at this
      have He := Lib.hid e; clear e
      go_wp2_with fail
      go_ret
      exact ⟨_, rfl, hb, by rw [He.out]; exact hown⟩
    · have hr1 : ((r : Int) != 0) = true := by simp; omega
      obtain ⟨c1, c2, c3⟩ := ctz_spec hr0 hr
      have hTr := hT.below hb hB
      have hto := Lib.hid (tz_any r hr0 hr wr hTr)
      generalize Lib.ctz 64 r = c at *
      have hjc : j ≤ c := by
        have := Hbit.out c c1
        rw [c2] at this
        have := this.symm
        simp at this
        exact this.1
      have hsc : s.testBit c = true := by
        have := Hbit.out c c1
        rw [c2] at this
        have := this.symm
        simp at this
        exact this.2
      have Hn := Lib.hid (bitsL_next hjc hsc (fun i h1 h2 => by
        have := Hbit.out i (by omega)
        rw [c3 i h2, decide_eq_true h1] at this
        simpa using this.symm))
      have eo := shl_off r c hr c1
      have Hb2 := Lib.hid (fun i => bit_off (r := r) c1 i)
      have hr2 : r &&& (18446744073709551615 - 2 ^ c) < 18446744073709551616 := Nat.lt_of_le_of_lt Nat.and_le_left hr
      have hlen := bitsL_length s j
      have C3 := Lib.hid c3
      clear c2 c3 hsc hTr
      generalize r &&& (18446744073709551615 - 2 ^ c) = r2 at *
      go_wp2_with fail
      refine hto.out.mono ?_
      rintro e w' ⟨rfl, rfl⟩
      clear hto
      go_wp2_with (at_builtin; refine wp_app elemInt rfl _ _ rfl w.heap.size u2 _ _ rfl wr.heap.size [.int .i64 (c : Int)] rfl rfl hown rfl rfl ?h2 ?h3 ?h4 ?_)
      case h2 => omega
      case h3 => omega
      case h4 => omega
      intro v' w' hown' hg' _
      have hb' := below_app hb hown hg' (by omega) (Nat.le_refl _)
      clear hown hg' hb
      go_wp2_with fail
      go_roundg (64 - (c + 1))
      case measure => rw [Hk.out]; omega
      case rel => exact ⟨c + 1, r2, by go_num, by omega, rfl, hr2, fun i hi => by
        rcases Nat.lt_trichotomy i c with h | h | h
        · rw [Hb2.out i, C3.out i h, decide_eq_false (show ¬ c + 1 ≤ i by omega)]; simp
        · rw [Hb2.out i, decide_eq_true h, decide_eq_false (show ¬ c + 1 ≤ i by omega)]; simp
        · rw [Hb2.out i, Hbit.out i hi, decide_eq_false (show ¬ i = c by omega), decide_eq_true (show c + 1 ≤ i by omega), decide_eq_true (show j ≤ i by omega), decide_eq_true hi]; simp, hb', by
        rw [Hn.out]; simpa [intCells] using hown'⟩
end Go.Proofs.YtnjikhhegebkiaaDoor
