/-
  slices.Grow of nil, slices.Concat, slices.Equal, at lists of ints. Written by an AI agent.
-/
import Derived.Test.YthdifhfmgmmljaaRot
import Derived.Lib.AppendZerosOnto
namespace Go.Proofs.Ythdifhfmgmmljaa
open Go.RowKit

set_option maxHeartbeats 1000000 in
theorem growNil_any (k : Nat) (hk : k ≤ 1000000) (w : World) :
    Calls Try.prog 54 #[.slice none 0 0, .int .i64 k] w fun e w' => ∃ A c, e = .returned (.slice A 0 c) ∧ Below w.heap.size w w' ∧ w'.ownsRow w.heap.size 3 1 (.slice A 0 c) 0 [] := by
  rcases Nat.eq_zero_or_pos k with h0 | h0
  · subst h0
    go_enter Try.func54, Try.ntmps54
    go_wp2
    go_ret
    exact ⟨none, 0, rfl, Below.refl _ _, World.ownsRow_nil _ _ _ _⟩
  · obtain ⟨i, ht, hi, hz, hsize, hby, hzs, hsz⟩ := elemInt
    have hrz : ∀ ty, (Builtin.append_ #[27, 3] ty #[.slice none 0 0, .int .i64 (k : Int)]).run Try.prog w =
        .ok (.slice (some ⟨w.heap.size, 0, none⟩) k (grownCap w k 0 3)) (w.drew.alloc (.cells (#[] ++ Builtin.zeroCells (Value.int .i64 0).cells k ++ Builtin.zeroCells (Value.int .i64 0).cells (grownCap w k 0 3 - k)) 3)) := fun ty => by
      have h := Lib.run_append_grow_zeros (P := Try.prog) w 27 3 ty 3 i (.int .i64 0) .i64 .i64 ht Try.underlying3 hi hz none 0 0 [] (run_firstCells_none w.drew i.size 0 0 0) k h0 (by rw [hsize]; exact hsz) (by omega) (by omega) (by rw [hby]; omega)
        (by rw [Nat.zero_add]; exact growslice_fits h0 (by rw [hby]; omega))
      simpa only [Nat.zero_add] using h
    have hGn : k ≤ grownCap w k 0 3 := grownCap_ge w _ _ _
    have hGm := grownCap_le_maxLen w k 0 3 (by unfold maxLen; omega)
    have hsz2 : (#[] ++ Builtin.zeroCells (Value.int .i64 0).cells k ++ Builtin.zeroCells (Value.int .i64 0).cells (grownCap w k 0 3 - k)).size = grownCap w k 0 3 * 1 := by
      simp only [Array.size_append, size_zeroCells]
      simp [Value.cells]
      omega
    generalize grownCap w k 0 3 = G at *
    generalize #[] ++ Builtin.zeroCells (Value.int .i64 0).cells k ++ Builtin.zeroCells (Value.int .i64 0).cells (G - k) = cs at *
    have hG0 : ¬ G = 0 := by omega
    have hk1 : (k : Int) > 0 := by omega
    have hm : maxLen = 9223372036854775807 := rfl
    have hb := ((Below.refl w.heap.size w).drew).alloc (Nat.le_refl _) (.cells cs 3)
    have ho : (w.drew.alloc (.cells cs 3)).ownsRow w.heap.size 3 1 (.slice (some ⟨w.heap.size, 0, none⟩) 0 G) 0 [] :=
      ⟨by simp, .inr ⟨w.heap.size, G, cs, rfl, Nat.le_refl _, heap_alloc_new w.drew _, Nat.zero_le _, hGm, hsz2, by simp⟩⟩
    go_enter Try.func54, Try.ntmps54
    go_wp2_with (at_builtin; refine Lib.wpList_append_run _ rfl _ _ _ _ rfl _ _ rfl rfl _ _ (hrz _) ?_)
    go_ret
    exact ⟨_, _, rfl, hb, ho⟩
set_option maxHeartbeats 400000 in
theorem equal_any (A B : Option Addr) (c d : Nat) (a b : List Int) (w : World) (N : Nat) (ha : Cells w N A (intCells a)) (hb : Cells w N B (intCells b)) (hla : a.length ≤ 100000) (hlb : b.length ≤ 100000) :
    Calls Try.prog 48 #[.slice A a.length c, .slice B b.length d] w (QuietB (decide (a = b)) w) := by
  by_cases hl : a.length = b.length
  · have H1 : ((a.length : Int) != (b.length : Int)) = false := by rw [int_bne]; simp [hl]
    have HL := Lib.hid hl
    have hl1 : a.length ≤ b.length := by omega
    clear hl
    go_enter Try.func48, Try.ntmps48
    go_wp2
    go_loopg [13] a.length (fun k s13 wr => ∃ i m : Nat, s13 = .int .i64 i ∧ i ≤ a.length ∧ k = a.length - i ∧ wr = w.drewN m ∧ a.take i = b.take i)
    case atStart => exact ⟨0, 0, rfl, Nat.zero_le _, rfl, rfl, by simp⟩
    case round =>
      obtain ⟨i, m, rfl, hi, hk, rfl, ht⟩ := hrel
      have Hk := Lib.hid hk; clear hk
      have Ht := Lib.hid ht; clear ht
      by_cases hlt : i < a.length
      · obtain ⟨b1, o1, rfl, _, hc1⟩ := ha.ints (by omega)
        obtain ⟨b2, o2, rfl, _, hc2⟩ := hb.ints (by omega)
        have c1 := hc1 i hlt
        have c2 := hc2 i (by omega)
        have h2 : (i : Int) < b.length := by omega
        have h1 : (i : Int) < a.length := by omega
        clear hc1 hc2 ha hb
        have T1 := Lib.hid (take_step hlt (show i < b.length by omega) Ht.out)
        have T2 := Lib.hid (show a = b → a[i] = b[i]'(by omega) by intro h; subst h; rfl)
        generalize a[i] = x at *
        generalize b[i]'(by omega) = y at *
        go_wp2_with fail
        by_cases hxy : x = y
        · have hd : (x != y) = false := by simp [hxy]
          have Hxy := Lib.hid hxy
          clear hxy
          go_quiet (fail)
          go_wp2_with fail
          go_roundg (a.length - (i + 1))
          case measure => rw [Hk.out]; omega
          case rel => exact ⟨i + 1, _, by go_num, by omega, rfl, rfl, T1.out.2 Hxy.out⟩
        · have hd : (x != y) = true := by simp [hxy]
          have Hxy := Lib.hid hxy
          clear hxy
          go_quiet (fail)
          go_wp2_with fail
          go_ret
          exact ⟨ret_bool (by rw [eq_comm, decide_eq_false_iff_not]; exact fun h => Hxy.out (T2.out h)), _, World.drewN_drewN _ _ _⟩
      · go_wp2_with fail
        go_ret
        refine ⟨ret_bool ?_, _, rfl⟩
        have e := Ht.out
        rw [List.take_of_length_le (by omega), List.take_of_length_le (by have := HL.out; omega)] at e
        simp [e]
  · have H1 : ((a.length : Int) != (b.length : Int)) = true := by rw [int_bne]; simp [hl]
    have HL := Lib.hid hl; clear hl
    go_enter Try.func48, Try.ntmps48
    go_wp2
    go_ret
    exact ⟨ret_bool (by rw [eq_comm, decide_eq_false_iff_not]; intro h; exact HL.out (by rw [h])), 0, rfl⟩


theorem intCells_one (l : List Int) : (intCells l).all (fun u => u.oneCell') = true := by
  rw [List.all_eq_true]
  intro u hu
  obtain ⟨z, _, rfl⟩ := List.mem_map.1 hu
  rfl
theorem flat_succ {rs : List (List Int)} {i : Nat} (h : i < rs.length) : (rs.take (i + 1)).flatten = (rs.take i).flatten ++ rs[i] := by
  rw [List.take_succ_eq_append_getElem h, List.flatten_append]; simp
theorem flat_le (rs : List (List Int)) (i : Nat) : (rs.take i).flatten.length ≤ rs.flatten.length := by
  conv => rhs; rw [← List.take_append_drop i rs, List.flatten_append, List.length_append]
  omega

set_option maxHeartbeats 1000000 in
theorem concat_any (C : Option Addr) (cap : Nat) (rs : List (List Int)) (w : World) (hrs : RowsAt w w.heap.size C rs) (h1 : rs.length ≤ 1000) (h2 : rs.flatten.length ≤ 100000) :
    Calls Try.prog 49 #[.slice C rs.length cap] w fun e w' => ∃ A c, e = .returned (.slice A rs.flatten.length c) ∧ Below w.heap.size w w' ∧ Cells w' w'.heap.size A (intCells rs.flatten) := by
  go_enter Try.func49, Try.ntmps49
  go_wp2_with fail
  go_loopg [3, 11] rs.length (fun k s3 s11 wr => ∃ i : Nat, s11 = .int .i64 i ∧ i ≤ rs.length ∧ k = rs.length - i ∧ wr = w ∧ s3 = .int .i64 ((rs.take i).flatten.length : Nat))
  case atStart => exact ⟨0, rfl, Nat.zero_le _, rfl, rfl, rfl⟩
  case round =>
    obtain ⟨i, rfl, hi, hk, hwr, rfl⟩ := hrel
    have Hk := Lib.hid hk; clear hk
    have hfl := flat_le rs i
    by_cases hlt : i < rs.length
    · have hlt' : (i : Int) < rs.length := by omega
      obtain ⟨b, off, rfl, hbb, hc⟩ := hrs (by omega)
      obtain ⟨Ai, ci, e0, _⟩ := hc i hlt
      have e0 : wr.cell? ⟨b, off + i, none⟩ = some (.slice Ai rs[i].length ci) := by rw [hwr]; exact e0
      have HL := Lib.hid (show ((rs.take (i + 1)).flatten.length : Int) = (rs.take i).flatten.length + rs[i].length by rw [flat_succ hlt, List.length_append]; omega)
      have hfl2 := flat_le rs (i + 1)
      rw [flat_succ hlt, List.length_append] at hfl2
      have Hwr := Lib.hid hwr
      clear hc hwr
      generalize (rs.take i).flatten.length = t at *
      generalize rs[i] = l at *
      go_wp2_with fail
      go_roundg (rs.length - (i + 1))
      case measure => rw [Hk.out]; omega
      case rel => exact ⟨i + 1, by go_num, by omega, rfl, Hwr.out, by rw [HL.out]⟩
    · have hie : i = rs.length := by omega
      subst hie
      subst hwr
      rw [List.take_length]
      obtain ⟨t, ht⟩ : ∃ t, t = rs.flatten.length := ⟨_, rfl⟩
      rw [← ht]
      have ht2 : t ≤ 100000 := by omega
      have Ht := Lib.hid ht
      clear ht hfl h2
      have Hh2 := Lib.hid (show rs.flatten.length ≤ 100000 by rw [← Ht.out]; exact ht2)
      go_wp2_with fail
      refine (growNil_any t (by omega) wr).mono ?_
      rintro e w1 ⟨A1, c1, rfl, hb1, ho1⟩
      have Hrs := Lib.hid hrs
      clear hrs hlt hi
      obtain ⟨w, rfl⟩ : ∃ x, x = wr := ⟨_, rfl⟩
      go_wp2_with fail
      go_loopg [6, 27] rs.length (fun k s6 s27 wr => ∃ (i : Nat) (A : Option Addr) (c : Nat), s27 = .int .i64 i ∧ i ≤ rs.length ∧ k = rs.length - i ∧ s6 = .slice A (rs.take i).flatten.length c ∧ Below w.heap.size w wr ∧ wr.ownsRow w.heap.size 3 1 (.slice A (rs.take i).flatten.length c) (rs.take i).flatten.length (intCells (rs.take i).flatten))
      case atStart => exact ⟨0, A1, c1, rfl, Nat.zero_le _, rfl, rfl, hb1, ho1⟩
      case round =>
        clear hb1 ho1
        obtain ⟨i, A, c, rfl, hi, hk, rfl, hb, hown⟩ := hrel
        have Hk := Lib.hid hk; clear hk
        have hfl := Nat.le_trans (flat_le rs i) Hh2.out
        by_cases hlt : i < rs.length
        · have hlt' : (i : Int) < rs.length := by omega
          obtain ⟨b, off, rfl, hbb, hc⟩ := Hrs.out (by omega)
          obtain ⟨Ai, ci, e0, hCi⟩ := hc i hlt
          have e0 := (hb.cell (p := ⟨b, off + i, none⟩) hbb).trans e0
          have hCi := hCi.below hb
          have HL := Lib.hid (flat_succ hlt)
          have hfl2 := Nat.le_trans (flat_le rs (i + 1)) Hh2.out
          rw [flat_succ hlt, List.length_append] at hfl2
          have hs := hb.size
          clear hc
          generalize (rs.take i).flatten = t at *
          generalize rs[i] = l at *
          go_wp2_with (at_builtin; refine wp_app_any elemInt rfl _ _ rfl rfl hown rfl hCi (show (intCells l).length = l.length * 1 by simp [intCells]) (intCells_one l) ?h2 ?h3 ?h4 ?_)
          case h2 => omega
          case h3 => omega
          case h4 => omega
          intro v' w' hown' hg' _
          have hb' := below_app hb hown hg' hs (Nat.le_refl _)
          obtain ⟨A', c', rfl⟩ := own_slice hown'
          clear hown hg' hb hCi
          go_wp2_with fail
          go_roundg (rs.length - (i + 1))
          case measure => rw [Hk.out]; omega
          case rel => exact ⟨i + 1, A', c', by go_num, by omega, rfl, by rw [HL.out, List.length_append], hb', by rw [HL.out, List.length_append]; simpa [intCells] using hown'⟩
        · have hie : i = rs.length := by omega
          subst hie
          rw [List.take_length] at hown ⊢
          have HC := Lib.hid (Cells.of_own hown)
          rw [← Ht.out]
          clear hown hfl
          go_wp2_with fail
          go_ret
          exact ⟨A, c, by rw [← Ht.out]; rfl, hb, HC.out⟩
end Go.Proofs.Ythdifhfmgmmljaa
