import Derived.Test.YthdifhfmgmmljaaDoorReach
namespace Go.Proofs.YthdifhfmgmmljaaDoor
open Go.RowKit

def QuietB (p : Bool) (w : World) (e : Ending) (w' : World) : Prop := e = .returned (.bool p) ∧ ∃ m, w' = w.drewN m

theorem take_step {a b : List Int} {i : Nat} (ha : i < a.length) (hb : i < b.length) (h : a.take i = b.take i) : a.take (i + 1) = b.take (i + 1) ↔ a[i] = b[i] := by
  have e1 := List.take_succ_eq_append_getElem ha
  have e2 := List.take_succ_eq_append_getElem hb
  rw [e1, e2, h, List.append_cancel_left_eq, List.cons.injEq]
  exact ⟨fun h => h.1, fun h => ⟨h, rfl⟩⟩
set_option maxHeartbeats 400000 in
theorem same_any (A B : Option Addr) (c d : Nat) (a b : List Int) (w : World) (N : Nat) (ha : Cells w N A (intCells a)) (hb : Cells w N B (intCells b)) (hla : a.length ≤ 100000) (hlb : b.length ≤ 100000) :
    Calls Tryd.prog 7 #[.slice A a.length c, .slice B b.length d] w (QuietB (decide (a = b)) w) := by
  by_cases hl : a.length = b.length
  · have H1 : ((a.length : Int) != (b.length : Int)) = false := by rw [int_bne]; simp [hl]
    have HL := Lib.hid hl
    have hl1 : a.length ≤ b.length := by omega
    clear hl
    go_enter Tryd.func7, Tryd.ntmps7
    go_wp2
    go_loopg [5] a.length (fun k s5 wr => ∃ i m : Nat, s5 = .int .i64 i ∧ i ≤ a.length ∧ k = a.length - i ∧ wr = w.drewN m ∧ a.take i = b.take i)
    case atStart => exact ⟨0, 0, rfl, Nat.zero_le _, rfl, rfl, by simp⟩
    case round =>
      obtain ⟨i, m, rfl, hi, hk, rfl, ht⟩ := hrel
      have Hk := Lib.hid hk; clear hk
      have Ht := Lib.hid ht; clear ht
      by_cases hlt : i < a.length
      · obtain ⟨b1, o1, rfl, _, hc1⟩ := ha.ints (by omega)
        obtain ⟨b2, o2, rfl, _, hc2⟩ := hb.ints (by omega)
        have c1 := hc1 i hlt
        have c2 := hc2 i (by omega)
        have h2 : (i : Int) < b.length := by omega
        have h1 : (i : Int) < a.length := by omega
        clear hc1 hc2 ha hb
        have T1 := Lib.hid (take_step hlt (show i < b.length by omega) Ht.out)
        have T2 := Lib.hid (show a = b → a[i] = b[i]'(by omega) by intro h; subst h; rfl)
        generalize a[i] = x at *
        generalize b[i]'(by omega) = y at *
        go_wp2_with fail
        by_cases hxy : x = y
        · have hd : (x != y) = false := by simp [hxy]
          have Hxy := Lib.hid hxy
          clear hxy
          go_quiet (fail)
          go_wp2_with fail
          go_roundg (a.length - (i + 1))
          case measure => rw [Hk.out]; omega
          case rel => exact ⟨i + 1, _, by go_num, by omega, rfl, rfl, T1.out.2 Hxy.out⟩
        · have hd : (x != y) = true := by simp [hxy]
          have Hxy := Lib.hid hxy
          clear hxy
          go_quiet (fail)
          go_wp2_with fail
          go_ret
          exact ⟨ret_bool (by rw [eq_comm, decide_eq_false_iff_not]; exact fun h => Hxy.out (T2.out h)), _, World.drewN_drewN _ _ _⟩
      · go_wp2_with fail
        go_ret
        refine ⟨ret_bool ?_, _, rfl⟩
        have e := Ht.out
        rw [List.take_of_length_le (by omega), List.take_of_length_le (by have := HL.out; omega)] at e
        simp [e]
  · have H1 : ((a.length : Int) != (b.length : Int)) = true := by rw [int_bne]; simp [hl]
    have HL := Lib.hid hl; clear hl
    go_enter Tryd.func7, Tryd.ntmps7
    go_wp2
    go_ret
    exact ⟨ret_bool (by rw [eq_comm, decide_eq_false_iff_not]; intro h; exact HL.out (by rw [h])), 0, rfl⟩
end Go.Proofs.YthdifhfmgmmljaaDoor
