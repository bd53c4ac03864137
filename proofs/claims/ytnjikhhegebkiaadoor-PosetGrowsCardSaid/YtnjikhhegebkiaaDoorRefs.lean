import Derived.Test.YtnjikhhegebkiaaDoorReach
namespace Go.Proofs.YtnjikhhegebkiaaDoor
open Go.RowKit

def QuietB (p : Bool) (w : World) (e : Ending) (w' : World) : Prop := e = .returned (.bool p) ∧ ∃ m, w' = w.drewN m

theorem take_step {a b : List Int} {i : Nat} (ha : i < a.length) (hb : i < b.length) (h : a.take i = b.take i) : a.take (i + 1) = b.take (i + 1) ↔ a[i] = b[i] := by
  have e1 := List.take_succ_eq_append_getElem ha
  have e2 := List.take_succ_eq_append_getElem hb
  rw [e1, e2, h, List.append_cancel_left_eq, List.cons.injEq]
  exact ⟨fun h => h.1, fun h => ⟨h, rfl⟩⟩
set_option maxHeartbeats 400000 in
theorem same_any (A B : Option Addr) (c d : Nat) (a b : List Int) (w : World) (N : Nat) (ha : Cells w N A (intCells a)) (hb : Cells w N B (intCells b)) (hla : a.length ≤ 100000) (hlb : b.length ≤ 100000) :
    Calls Tryd.prog 18 #[.slice A a.length c, .slice B b.length d] w (QuietB (decide (a = b)) w) := by
  by_cases hl : a.length = b.length
  · have H1 : ((a.length : Int) != (b.length : Int)) = false := by rw [int_bne]; simp [hl]
    have HL := Lib.hid hl
    have hl1 : a.length ≤ b.length := by omega
    clear hl
    go_enter Tryd.func18, Tryd.ntmps18
    go_wp2
    go_loopg [5] a.length (fun k s5 wr => ∃ i m : Nat, s5 = .int .i64 i ∧ i ≤ a.length ∧ k = a.length - i ∧ wr = w.drewN m ∧ a.take i = b.take i)
    case atStart => exact ⟨0, 0, rfl, Nat.zero_le _, rfl, rfl, by simp⟩
    case round =>
      obtain ⟨i, m, rfl, hi, hk, rfl, ht⟩ := hrel
      have Hk := Lib.hid hk; clear hk
      have Ht := Lib.hid ht; clear ht
      by_cases hlt : i < a.length
      · obtain ⟨b1, o1, rfl, _, hc1⟩ := ha.ints (by omega)
        obtain ⟨b2, o2, rfl, _, hc2⟩ := hb.ints (by omega)
        have c1 := hc1 i hlt
        have c2 := hc2 i (by omega)
        have h2 : (i : Int) < b.length := by omega
        have h1 : (i : Int) < a.length := by omega
        clear hc1 hc2 ha hb
        have T1 := Lib.hid (take_step hlt (show i < b.length by omega) Ht.out)
        have T2 := Lib.hid (show a = b → a[i] = b[i]'(by omega) by intro h; subst h; rfl)
        generalize a[i] = x at *
        generalize b[i]'(by omega) = y at *
        go_wp2_with fail
        by_cases hxy : x = y
        · have hd : (x != y) = false := by simp [hxy]
          have Hxy := Lib.hid hxy
          clear hxy
          go_quiet (fail)
          go_wp2_with fail
          go_roundg (a.length - (i + 1))
          case measure => rw [Hk.out]; omega
          case rel => exact ⟨i + 1, _, by go_num, by omega, rfl, rfl, T1.out.2 Hxy.out⟩
        · have hd : (x != y) = true := by simp [hxy]
          have Hxy := Lib.hid hxy
          clear hxy
          go_quiet (fail)
          go_wp2_with fail
          go_ret
          exact ⟨ret_bool (by rw [eq_comm, decide_eq_false_iff_not]; exact fun h => Hxy.out (T2.out h)), _, World.drewN_drewN _ _ _⟩
      · go_wp2_with fail
        go_ret
        refine ⟨ret_bool ?_, _, rfl⟩
        have e := Ht.out
        rw [List.take_of_length_le (by omega), List.take_of_length_le (by have := HL.out; omega)] at e
        simp [e]
  · have H1 : ((a.length : Int) != (b.length : Int)) = true := by rw [int_bne]; simp [hl]
    have HL := Lib.hid hl; clear hl
    go_enter Tryd.func18, Tryd.ntmps18
    go_wp2
    go_ret
    exact ⟨ret_bool (by rw [eq_comm, decide_eq_false_iff_not]; intro h; exact HL.out (by rw [h])), 0, rfl⟩

set_option maxHeartbeats 400000 in
theorem refmay_any (n : Int) (A : Option Addr) (cap : Nat) (es : List (Int × Int)) (w : World) (hes : Cells w w.heap.size A (edgeCells es)) :
    Calls Tryd.prog 23 #[.agg #[.int .i64 n, .slice A es.length cap]] w fun e w' => e = .returned (.bool (mayB n es)) ∧ Below w.heap.size w w' := by
  by_cases h1 : 0 < n
  · by_cases h2 : n ≤ 64
    · by_cases h3 : es.length ≤ 128
      · have M := Lib.hid (show mayB n es = !anyB (fun i => badE n (es.getD i (0, 0))) es.length by simp [mayB, h1, h2, h3])
        go_enter Tryd.func23, Tryd.ntmps23
        go_wp2_with fail
        have b0 := World.cell?_alloc_new w #[.int .i64 n, .slice A es.length cap] 24 0
        have b1 := World.cell?_alloc_new w #[.int .i64 n, .slice A es.length cap] 24 1
        have hbw := (Below.refl w.heap.size w).alloc (Nat.le_refl _) (.cells #[.int .i64 n, .slice A es.length cap] 24)
        have s1 := World.size_alloc w (.cells #[.int .i64 n, .slice A es.length cap] 24)
        generalize w.alloc (.cells #[.int .i64 n, .slice A es.length cap] 24) = w1 at *
        simp only [List.getElem?_toArray, List.getElem?_cons_zero, List.getElem?_cons_succ] at b0 b1
        have hes1 := hes.below hbw
        have l1 : w.heap.size < w1.heap.size := by omega
        clear s1
        go_loopg [3] es.length (fun k s3 wr => ∃ i : Nat, s3 = .int .i64 i ∧ i ≤ es.length ∧ k = es.length - i ∧ Below w1.heap.size w1 wr ∧ ∀ j, j < i → badE n (es.getD j (0, 0)) = false)
        case atStart => exact ⟨0, rfl, Nat.zero_le _, rfl, Below.refl _ _, fun j hj => absurd hj (by omega)⟩
        case round =>
          obtain ⟨i, rfl, hi, hk, hb, hf⟩ := hrel
          have Hk := Lib.hid hk; clear hk
          have Hf := Lib.hid hf; clear hf
          have b0' := (hb.cell (p := ⟨w.heap.size, 0, none⟩) l1).trans b0
          have b1' := (hb.cell (p := ⟨w.heap.size, 1, none⟩) l1).trans b1
          have hbs := hb.size
          have l3 : w.heap.size < wr.heap.size := by omega
          by_cases hlt : i < es.length
          · obtain ⟨b, off, rfl, hbb, hc⟩ := hes1.edges (by omega)
            obtain ⟨c0, c1⟩ := hc i hlt
            clear hc
            have c0' := (hb.cell (p := ⟨b, off + i * 2, none⟩) (Nat.lt_trans hbb l1)).trans c0
            have c1' := (hb.cell (p := ⟨b, off + i * 2 + 1, none⟩) (Nat.lt_trans hbb l1)).trans c1
            clear c0 c1
            have e0 : es.getD i (0, 0) = es[i] := by simp [hlt]
            have hbr := hb.alloc (by omega) (.cells #[.int .i64 es[i].1, .int .i64 es[i].2] 40)
            have BE := Lib.hid (show badE n (es.getD i (0, 0)) = (outB n es[i].1 || outB n es[i].2) by rw [e0]; rfl)
            clear e0
            generalize es[i].1 = x at *
            generalize es[i].2 = y at *
            by_cases hbad : x < 0 ∨ y < 0 ∨ n ≤ x ∨ n ≤ y
            · have HB := Lib.hid (show mayB n es = false by
                rw [M.out, anyB, Bool.not_eq_false', List.any_eq_true]
                refine ⟨i, List.mem_range.2 hlt, ?_⟩
                simp only [BE.out, outB, Bool.or_eq_true, decide_eq_true_eq]
                omega)
              go_wp2_with fail
              all_goals
                go_ret
                exact ⟨ret_bool HB.out.symm, hbw.trans (hbr.mono (by omega))⟩
            · have HB := Lib.hid (show badE n (es.getD i (0, 0)) = false by
                rw [BE.out, outB, outB]
                simp; omega)
              have k1 : 0 ≤ x := by omega
              have k2 : 0 ≤ y := by omega
              have k3 : x < n := by omega
              have k4 : y < n := by omega
              clear hbad
              go_wp2_with fail
              go_roundg (es.length - (i + 1))
              case measure => rw [Hk.out]; omega
              case rel => exact ⟨i + 1, by go_num, by omega, rfl, hbr, fun j hj => by
                by_cases h : j = i
                · rw [h]; exact HB.out
                · exact Hf.out j (by omega)⟩
          · go_wp2_with fail
            go_ret
            refine ⟨ret_bool ?_, hbw.trans (hb.mono (by omega))⟩
            rw [M.out, anyB, eq_comm, Bool.not_eq_true', List.any_eq_false]
            intro j hj
            rw [Hf.out j (by have := List.mem_range.1 hj; omega)]; simp
      · go_enter Tryd.func23, Tryd.ntmps23
        go_wp2_with fail
        go_ret
        exact ⟨ret_bool (by have : ¬ es.length ≤ 128 := by omega
                            simp [mayB, this]), (Below.refl _ _).alloc (Nat.le_refl _) _⟩
    · go_enter Tryd.func23, Tryd.ntmps23
      go_wp2_with fail
      go_ret
      exact ⟨ret_bool (by have : ¬ n ≤ 64 := by omega
                          simp [mayB, this]), (Below.refl _ _).alloc (Nat.le_refl _) _⟩
  · go_enter Tryd.func23, Tryd.ntmps23
    go_wp2_with fail
    go_ret
    exact ⟨ret_bool (by have : ¬ 0 < n := by omega
                        simp [mayB, this]), (Below.refl _ _).alloc (Nat.le_refl _) _⟩

theorem elemBool : Elem Tryd.prog 59 4 (.bool false) 1 1 := Elem.mk' Tryd.underlying59 (by kernel_rfl) rfl (by omega)

def OwnPost (T : TypeId) (xs : List Value) (w : World) (e : Ending) (w' : World) : Prop := ∃ v, e = .returned v ∧ Below w.heap.size w w' ∧ w'.ownsRow w.heap.size T 1 v xs.length xs

set_option maxHeartbeats 400000 in
theorem every_any (n : Int) (A : Option Addr) (cap : Nat) (es : List (Int × Int)) (w : World) (hlen : es.length ≤ 100000) :
    Calls Tryd.prog 29 #[.agg #[.int .i64 n, .slice A es.length cap]] w (OwnPost 4 (boolCells (List.replicate es.length true)) w) := by
  have hmk := fun W => run_make1 elemBool rfl es.length (by omega) (by omega) W
  go_enter Tryd.func29, Tryd.ntmps29
  go_wp2_with fail
  have b0 : Blk ((w.alloc (.cells #[.int .i64 n, .slice A es.length cap] 24)).alloc (.cells (Array.replicate es.length (.bool false)) 4)) (w.heap.size + 1) 4 (boolCells (List.replicate es.length false)).toArray := by
    have := Blk.new (w.alloc (.cells #[.int .i64 n, .slice A es.length cap] 24)) 4 (Array.replicate es.length (.bool false))
    rw [World.size_alloc] at this
    simpa [boolCells] using this
  have hbw := ((Below.refl w.heap.size w).alloc (Nat.le_refl _) (.cells #[.int .i64 n, .slice A es.length cap] 24)).alloc (by simp) (.cells (Array.replicate es.length (.bool false)) 4)
  generalize ((w.alloc (.cells #[.int .i64 n, .slice A es.length cap] 24)).alloc (.cells (Array.replicate es.length (.bool false)) 4)) = w1 at *
  go_loopg [4] es.length (fun k s4 wr => ∃ (i : Nat) (l : List Bool), s4 = .int .i64 i ∧ i ≤ es.length ∧ k = es.length - i ∧ Below w.heap.size w wr ∧ Blk wr (w.heap.size + 1) 4 (boolCells l).toArray ∧ l.length = es.length ∧ ∀ j, j < i → l.getD j false = true)
  case atStart => exact ⟨0, _, rfl, Nat.zero_le _, rfl, hbw, b0, by simp, fun j hj => absurd hj (by omega)⟩
  case round =>
    obtain ⟨i, l, rfl, hi, hk, hb, hblk, hl, hf⟩ := hrel
    have Hk := Lib.hid hk; clear hk
    have Hf := Lib.hid hf; clear hf
    have HL := Lib.hid hl; clear hl
    by_cases hlt : i < es.length
    · have c0 := hblk.bool (k := i) (by rw [HL.out]; exact hlt)
      have f0 := hblk.frozen i
      go_wp2_with fail
      clear c0 f0
      go_roundg (es.length - (i + 1))
      case measure => rw [Hk.out]; omega
      case rel => exact ⟨i + 1, l.set i true, by go_num, by omega, rfl, hb.setCell (by simp) _, hblk.setBool i true, by simp [HL.out], fun j hj => by
        by_cases h : j = i
        · subst h; simp [HL.out, hlt]
        · have := Hf.out j (by omega)
          simp only [List.getD_eq_getElem?_getD, List.getElem?_set] at this ⊢
          rw [if_neg (fun e => h e.symm)]; exact this⟩
    · go_wp2_with fail
      go_ret
      have e : l = List.replicate es.length true := by
        refine List.ext_getElem (by simp [HL.out]) (fun j h1 h2 => ?_)
        have := Hf.out j (by have := HL.out; omega)
        simpa [h1] using this
      subst e
      exact ⟨_, rfl, hb, by simpa [boolCells] using own_of_blk hblk (by omega) (by simp [boolCells]) (by omega)⟩
end Go.Proofs.YtnjikhhegebkiaaDoor
