/-
  slices.Max: what it computes. Written by an AI agent.
-/
import Derived.Test.YtnjikhhegebkiaaDoorSlices
namespace Go.Proofs.YtnjikhhegebkiaaDoor
open Go.RowKit

/-- the greatest of the first k -/
def maxL (l : List Int) (k : Nat) : Int := (l.take k).foldl max (l.getD 0 0)
theorem maxL_succ {l : List Int} {k : Nat} (h : k < l.length) : maxL l (k + 1) = max (maxL l k) l[k] := by
  unfold maxL
  rw [List.take_succ_eq_append_getElem h, List.foldl_append]
  rfl
theorem maxL_one {l : List Int} (h : 0 < l.length) : maxL l 1 = l[0] := by
  rw [maxL_succ h]
  unfold maxL
  rw [List.getD_eq_getElem?_getD, List.getElem?_eq_getElem h]
  simp
set_option maxRecDepth 20000 in
set_option maxHeartbeats 1000000 in
theorem max_any (A : Option Addr) (c : Nat) (l : List Int) (w : World) (h : Cells w w.heap.size A (intCells l)) (hp : 0 < l.length) (hl : l.length ≤ 100000) :
    Calls Tryd.prog 34 #[.slice A l.length c] w (fun e w' => e = .returned (.int .i64 (maxL l l.length)) ∧ w = w') := by
  have H := Lib.hid h
  clear h
  obtain ⟨b, off, rfl, hb, hc⟩ := H.out.ints hp
  have e0 := hc 0 hp
  simp only [Nat.add_zero] at e0
  have HC := Lib.hid hc
  have hp' : ¬ (l.length : Int) < 1 := by omega
  have hp2 : (0 : Int) < l.length := by omega
  have HM := Lib.hid (maxL_one hp)
  generalize l[0] = v0 at *
  clear hc
  go_enter Tryd.func34, Tryd.ntmps34
  go_wp2_with fail

  go_loopg [3, 4] (l.length - 1) (fun k s3 s4 wr => ∃ i : Nat, s4 = .int .i64 i ∧ s3 = .int .i64 (maxL l i) ∧ i ≤ l.length ∧ k = l.length - i ∧ w = wr)
  case atStart => exact ⟨1, rfl, by rw [HM.out], by omega, rfl, rfl⟩
  case round =>
    obtain ⟨i, rfl, rfl, hi, hk, rfl⟩ := hrel
    have Hk := Lib.hid hk
    clear hk
    by_cases hlt : i < l.length
    · have hlt' : (i : Int) < l.length := by omega
      have ei := HC.out i hlt
      have HS := Lib.hid (maxL_succ hlt)
      generalize l[i] = v at *
      generalize maxL l i = m at *
      have hmx : (if m < v then v else m) = max m v := by split <;> omega
      go_wp2_with fail
      go_roundg (l.length - (i + 1))
      case measure => rw [Hk.out]; omega
      case rel => exact ⟨i + 1, by go_num, by rw [HS.out], by omega, rfl, rfl⟩
    · have hie : i = l.length := by omega
      subst hie
      have hlt' : ¬ (l.length : Int) < l.length := by omega
      go_wp2_with fail
      go_ret
      exact ⟨rfl, rfl⟩
end Go.Proofs.YtnjikhhegebkiaaDoor
