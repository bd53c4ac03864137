import Derived.Test.YthdifhfmgmmljaaGo
import Derived.Deep.RegionHeld3
namespace Go.Proofs.Ythdifhfmgmmljaa
open Go.RowKit

/-- the document's answer: beside edge i there is another way -/
def rtransB (n : Nat) (es : List (Int × Int)) (i : Nat) : Bool :=
  (goAll false ((List.replicate es.length true).set i false) es n (es.getD i (0, 0)).1.toNat).getD (es.getD i (0, 0)).2.toNat false
def rtransL (n : Nat) (es : List (Int × Int)) (k : Nat) : List Int := ((List.range k).filter (rtransB n es)).map Int.ofNat
theorem rtransL_length (n : Nat) (es : List (Int × Int)) (k : Nat) : (rtransL n es k).length ≤ k := by
  have := List.length_filter_le (rtransB n es) (List.range k)
  simpa [rtransL] using this
theorem rtransL_succ (n : Nat) (es : List (Int × Int)) (k : Nat) : rtransL n es (k + 1) = rtransL n es k ++ if rtransB n es k then [(k : Int)] else [] := by
  unfold rtransL
  rw [List.range_succ, List.filter_append, List.map_append]
  by_cases hE : rtransB n es k = true <;> simp [hE]

theorem goAll_length (both : Bool) (cnts : List Bool) (es : List (Int × Int)) (n f : Nat) : (goAll both cnts es n f).length = n := by
  unfold goAll; rw [goN_length]; simp [goInit]
theorem own_bool {w : World} {base n : Nat} {t : TypeId} {v : Value} {l : List Bool} (h : w.ownsRow base t 1 v (boolCells l).length (boolCells l)) (hn : l.length = n) (h0 : 0 < n) :
    ∃ g cap, v = .slice (some ⟨g, 0, none⟩) n cap ∧ base ≤ g ∧ ∀ k, k < n → w.cell? ⟨g, k, none⟩ = some (.bool (l.getD k false)) := by
  rw [boolCells_length, hn] at h
  obtain ⟨g, cap, R, hv, hg, hb, _⟩ := own_blk h h0
  exact ⟨g, cap, hv, hg, fun k hk => hb.boolR (by omega)⟩

theorem below_undrew {B : Nat} {w w' : World} (h : Below B w.drew w') : Below B w w' := ⟨h.os, h.tape, h.output, h.size, h.block⟩
theorem below_undrewN {B n : Nat} {w w' : World} (h : Below B (w.drewN n) w') : Below B w w' := ⟨h.os, h.tape, h.output, h.size, h.block⟩

set_option maxHeartbeats 1000000 in
theorem reftrans_any (n : Nat) (A : Option Addr) (cap : Nat) (es : List (Int × Int)) (w : World) (hes : Cells w w.heap.size A (edgeCells es)) (hin : InN n es) (hn : n ≤ 64) (hlen : es.length ≤ 128) :
    Calls Try.prog 17 #[.agg #[.int .i64 n, .slice A es.length cap]] w (OwnPost 3 (intCells (rtransL n es es.length)) w) := by
  have Hin := Lib.hid hin; clear hin
  go_enter Try.func17, Try.ntmps17
  go_wp2_with fail
  have x0 : Blk ((w.alloc (.cells #[.int .i64 n, .slice A es.length cap] 24)).alloc (.cells #[] 3)) w.heap.size 24 #[.int .i64 n, .slice A es.length cap] := (Blk.new _ _ _).alloc _
  have o0 : ((w.alloc (.cells #[.int .i64 n, .slice A es.length cap] 24)).alloc (.cells #[] 3)).ownsRow (w.heap.size + 1) 3 1 (.slice (some ⟨w.heap.size + 1, 0, none⟩) 0 0) 0 [] := by
    have := Blk.new (w.alloc (.cells #[.int .i64 n, .slice A es.length cap] 24)) 3 #[]
    rw [World.size_alloc] at this
    exact own_of_blk this (Nat.le_refl _) rfl (by omega)
  have hbw := ((Below.refl w.heap.size w).alloc (Nat.le_refl _) (.cells #[.int .i64 n, .slice A es.length cap] 24)).alloc (by simp) (.cells #[] 3)
  generalize ((w.alloc (.cells #[.int .i64 n, .slice A es.length cap] 24)).alloc (.cells #[] 3)) = w1 at *
  go_loopg [3, 4] es.length (fun k s3 s4 wr => ∃ i : Nat, s4 = .int .i64 i ∧ i ≤ es.length ∧ k = es.length - i ∧ Below w.heap.size w wr ∧ Blk wr w.heap.size 24 #[.int .i64 n, .slice A es.length cap] ∧
    wr.ownsRow (w.heap.size + 1) 3 1 s3 (rtransL n es i).length (intCells (rtransL n es i)))
  case atStart => exact ⟨0, rfl, Nat.zero_le _, rfl, hbw, x0, o0⟩
  case round =>
    obtain ⟨i, rfl, hi, hk, hb, hx, hown⟩ := hrel
    have Hk := Lib.hid hk; clear hk
    have b0 := hx.cell 0
    have b1 := hx.cell 1
    simp only [List.getElem?_toArray, List.getElem?_cons_zero, List.getElem?_cons_succ] at b0 b1
    have l3 := hx.lt
    by_cases hlt : i < es.length
    · obtain ⟨b, off, rfl, hbb, hcc⟩ := hes.edges (by omega)
      obtain ⟨c0, c1⟩ := hcc i hlt
      clear hcc
      obtain ⟨t, u, e, ht, hu⟩ := Hin.out.at_ hlt
      rw [e] at c0 c1
      have e0 : es.getD i (0, 0) = ((t : Int), (u : Int)) := by simp [hlt, e]
      have RS := Lib.hid (rtransL_succ n es i)
      have RB := Lib.hid (show rtransB n es i = (goAll false ((List.replicate es.length true).set i false) es n t).getD u false by unfold rtransB; rw [e0]; rfl)
      clear e e0
      have ht' : (t : Int) < n := by omega
      have hu' : (u : Int) < n := by omega
      go_wp2_with fail
      refine (every_any n _ cap es _ (by omega)).mono ?_
      rintro e w2 ⟨v, rfl, hb2, hv⟩
      rw [boolCells_length, List.length_replicate] at hv
      obtain ⟨g, cap2, R, rfl, hg, hblk, hR, hc1, hc2, hc3⟩ := own_blk hv (by omega)
      clear hv hR hc1 hc2 hc3
      have hs2 := hb2.size
      have f0 := hblk.frozen i
      have d0 := hblk.boolR (k := i) (by simp; exact hlt)
      have S1 := hblk.setBoolR i false (by simp; exact hlt)
      have b0' := (hb2.cell (p := ⟨w.heap.size, 0, none⟩) l3).trans b0
      have b1' := (hb2.cell (p := ⟨w.heap.size, 1, none⟩) l3).trans b1
      have c0' := ((hb.trans (hb2.mono hb.size)).cell (p := ⟨b, off + i * 2, none⟩) hbb).trans c0
      have c1' := ((hb.trans (hb2.mono hb.size)).cell (p := ⟨b, off + i * 2 + 1, none⟩) hbb).trans c1
      have hb3 := (hb2.setCell (p := ⟨g, i, none⟩) hg (.bool false))
      have hgl := hblk.lt
      clear b0 b1 c0 c1
      go_upto_region 8 with fail
      have l4 : w.heap.size < w2.heap.size := by omega
      have x1 : Blk ((w2.setCell ⟨g, i, none⟩ (.bool false)).alloc (.cells #[.int .i64 t, .int .i64 u] 34)) w.heap.size 24 #[.int .i64 n, .slice (some ⟨b, off, none⟩) es.length cap] := ((hx.below hb2 l3).far (by simp; omega) _).alloc _
      have x2 : Blk ((w2.setCell ⟨g, i, none⟩ (.bool false)).alloc (.cells #[.int .i64 t, .int .i64 u] 34)) w2.heap.size 34 #[.int .i64 t, .int .i64 u] := by
        have := Blk.new (w2.setCell ⟨g, i, none⟩ (.bool false)) 34 #[.int .i64 t, .int .i64 u]
        simpa [World.setCell] using this
      have x3 : Cells ((w2.setCell ⟨g, i, none⟩ (.bool false)).alloc (.cells #[.int .i64 t, .int .i64 u] 34)) w2.heap.size (some ⟨g, 0, none⟩) (boolCells ((List.replicate es.length true).set i false)) := ((Cells.of_blk S1).more (by omega)).alloc (by simp [World.setCell]) _
      have x4 : Cells ((w2.setCell ⟨g, i, none⟩ (.bool false)).alloc (.cells #[.int .i64 t, .int .i64 u] 34)) w2.heap.size (some ⟨b, off, none⟩) (edgeCells es) := (((hes.below (hb.trans (hb2.mono hb.size))).setCell (by simp; have := hb.size; omega) _).alloc (by simp [World.setCell]; have := hb.size; omega) _).more (by have := hb.size; omega)
      have hb4 : Below wr.heap.size wr ((w2.setCell ⟨g, i, none⟩ (.bool false)).alloc (.cells #[.int .i64 t, .int .i64 u] 34)) := hb3.alloc (by simp [World.setCell]; omega) _
      have s4 : w2.heap.size < ((w2.setCell ⟨g, i, none⟩ (.bool false)).alloc (.cells #[.int .i64 t, .int .i64 u] 34)).heap.size := by simp [World.setCell]
      clear b0' b1' c0' c1' d0 f0 S1 hb3 hx
      generalize ((w2.setCell ⟨g, i, none⟩ (.bool false)).alloc (.cells #[.int .i64 t, .int .i64 u] 34)) = w4 at *
      have b0 := x1.cell 0
      have b1 := x1.cell 1
      have e0 := x2.cell 0
      have e1 := x2.cell 1
      simp only [List.getElem?_toArray, List.getElem?_cons_zero, List.getElem?_cons_succ] at b0 b1 e0 e1
      go_cut [33] (fun s33 wc => s33 = .bool (rtransB n es i) ∧ Below w4.heap.size w4 wc)
      case first =>
        have b0' : ∀ w5, Below w4.heap.size w4 w5 → w5.cell? ⟨w.heap.size, 0, none⟩ = some (.int .i64 n) := fun w5 h => (h.cell (p := ⟨w.heap.size, 0, none⟩) (Nat.lt_trans l4 s4)).trans b0
        have e0' : ∀ w5, Below w4.heap.size w4 w5 → w5.cell? ⟨w2.heap.size, 1, none⟩ = some (.int .i64 u) := fun w5 h => (h.cell (p := ⟨w2.heap.size, 1, none⟩) s4).trans e1
        have B0' := Lib.hid b0'
        have E0' := Lib.hid e0'
        clear b0' e0'
        go_region_with (go_at_call 18; refine (go_any n t _ _ cap cap2 es false ((List.replicate es.length true).set i false) _ w2.heap.size (by exact Nat.le_of_lt s4) (by exact x4) (by exact x3) Hin.out (by omega) (by omega) ht (by simp)).mono ?_; rintro e w5 ⟨v, rfl, hb5, hv⟩; obtain ⟨g5, cap5, rfl, hg5, hc5⟩ := own_bool hv (goAll_length _ _ _ _ _) (by omega); have d5 := hc5 u hu; have e5 := E0'.out w5 (below_undrew hb5); clear hc5 hv)
        all_goals
          go_wp2_with fail
          go_meet
          exact ⟨by rw [RB.out, List.getD_eq_getElem?_getD], below_undrew (by assumption)⟩
      obtain ⟨rfl, hb6⟩ := hcut
      have hb7 := hb4.trans (hb6.mono (by omega))
      have hown7 := own_below hown hb7 (Nat.le_refl _)
      have hs7 := hb7.size
      have hx7 := (x1.below hb6 (Nat.lt_trans l4 s4))
      have hlr := rtransL_length n es i
      clear hb6 x1 x2 x3 x4 b0 b1 e0 e1 hb4 hb2 hblk hown s4 l4 hs2 hg hgl
      cases hB : rtransB n es i with
      | true =>
        rw [hB] at RS
        clear hB
        go_wp2_with (at_builtin; refine wp_app elemInt rfl _ _ rfl (w.heap.size + 1) u3 _ _ rfl wc.heap.size [.int .i64 (i : Int)] rfl rfl hown7 rfl rfl ?h2 ?h3 ?h4 ?_)
        case h2 => omega
        case h3 => omega
        case h4 => omega
        intro v' w' hown' hg' _
        have hb' := below_app (hb.trans (hb7.mono (by omega))) hown7 hg' (by omega) (by omega)
        have hx8 : Blk w' w.heap.size 24 #[.int .i64 n, .slice (some ⟨b, off, none⟩) es.length cap] := (hx7.grown hg' (fun e => by have := (hown7.lt _ e.symm).1; omega))
        clear hown7 hg' hb7 hx7
        go_wp2_with fail
        go_roundg (es.length - (i + 1))
        case measure => rw [Hk.out]; omega
        case rel => exact ⟨i + 1, by go_num, by omega, rfl, hb', hx8, by
          rw [RS.out]; simpa [intCells] using hown'⟩
      | false =>
        rw [hB] at RS
        clear hB
        go_wp2_with fail
        go_roundg (es.length - (i + 1))
        case measure => rw [Hk.out]; omega
        case rel => exact ⟨i + 1, by go_num, by omega, rfl, hb.trans (hb7.mono (by omega)), hx7, by
          rw [RS.out]; simpa [intCells] using hown7⟩
    · have hie : i = es.length := by omega
      subst hie
      go_wp2_with fail
      go_ret
      exact ⟨_, rfl, hb, by simpa [intCells] using own_mono hown (by omega)⟩
end Go.Proofs.Ythdifhfmgmmljaa
