import Derived.Test.YthdifhfmgmmljaaWays
namespace Go.Proofs.Ythdifhfmgmmljaa
open Go.RowKit

open Classical in
/-- is there another way beside edge i? -/
noncomputable def transB (es : List (Int × Int)) (i : Nat) : Bool := decide (Star (Edge1 false (fun k => k != i) es) (es.getD i (0, 0)).1.toNat (es.getD i (0, 0)).2.toNat)
noncomputable def transL (es : List (Int × Int)) (k : Nat) : List Int := ((List.range k).filter (transB es)).map Int.ofNat
theorem transL_length (es : List (Int × Int)) (k : Nat) : (transL es k).length ≤ k := by
  have := List.length_filter_le (transB es) (List.range k)
  simpa [transL] using this

def TransPost (n : Int) (es : List (Int × Int)) (w : World) (e : Ending) (w' : World) : Prop :=
  ∃ v, e = .returned v ∧ Below w.heap.size w w' ∧ (mayB n es = true → w'.ownsRow w.heap.size 3 1 v (transL es es.length).length (intCells (transL es es.length))) ∧ (mayB n es = false → v = .slice none 0 0)

set_option maxHeartbeats 400000 in
theorem trans_no (n : Int) (A : Option Addr) (cap : Nat) (es : List (Int × Int)) (w : World) (hes : Cells w w.heap.size A (edgeCells es)) (hm : mayB n es = false) :
    Calls Try.prog 12 #[.agg #[.int .i64 n, .slice A es.length cap]] w (TransPost n es w) := by
  have Hm := Lib.hid hm; clear hm
  go_enter Try.func12, Try.ntmps12
  go_wp2_with fail
  go_loopg [2, 9] 0 (fun k s2 s9 wr => s9 = .int .i64 0 ∧ s2 = .slice none 0 0 ∧ wr = w.alloc (.cells #[.int .i64 n, .slice A es.length cap] 24))
  case atStart => exact ⟨rfl, rfl, rfl⟩
  case round =>
    obtain ⟨rfl, rfl, rfl⟩ := hrel
    by_cases hlt : 0 < es.length
    · obtain ⟨b, off, rfl, hb, hc⟩ := hes.edges hlt
      obtain ⟨c0, c1⟩ := hc 0 hlt
      clear hc
      simp only [Nat.zero_mul, Nat.add_zero] at c0 c1
      go_wp2_with fail
      refine (each_any n _ cap es _ (((hes.alloc (Nat.le_refl _) _).alloc (by simp) _).alloc (by simp; omega) _ |>.more (by simp; omega))).mono ?_
      rintro e w' ⟨v, rfl, hb, _, hv⟩
      rw [hv Hm.out]
      clear hv
      go_wp2_with fail
      go_ret
      exact ⟨_, rfl, ((((Below.refl _ _).alloc (Nat.le_refl _) _).alloc (by simp) _).alloc (by simp; omega) _).trans (hb.mono (by simp; omega)), no_may Hm.out, fun _ => rfl⟩
    · go_wp2_with fail
      go_ret
      exact ⟨_, rfl, (Below.refl _ _).alloc (Nat.le_refl _) _, no_may Hm.out, fun _ => rfl⟩

set_option maxHeartbeats 1000000 in
theorem trans_yes (n : Nat) (A : Option Addr) (cap : Nat) (es : List (Int × Int)) (w : World) (hes : Cells w w.heap.size A (edgeCells es)) (hm : mayB n es = true) :
    Calls Try.prog 12 #[.agg #[.int .i64 n, .slice A es.length cap]] w (TransPost n es w) := by
  obtain ⟨hn0, hn1, hn2⟩ := may_parts hm
  have Hin := Lib.hid (badE_in hm)
  have Hm := Lib.hid hm; clear hm
  go_enter Try.func12, Try.ntmps12
  go_wp2_with fail
  have b0 := World.cell?_alloc_new w #[.int .i64 n, .slice A es.length cap] 24 0
  have b1 := World.cell?_alloc_new w #[.int .i64 n, .slice A es.length cap] 24 1
  have hbw := (Below.refl w.heap.size w).alloc (Nat.le_refl _) (.cells #[.int .i64 n, .slice A es.length cap] 24)
  have s1 := World.size_alloc w (.cells #[.int .i64 n, .slice A es.length cap] 24)
  generalize w.alloc (.cells #[.int .i64 n, .slice A es.length cap] 24) = w1 at *
  simp only [List.getElem?_toArray, List.getElem?_cons_zero, List.getElem?_cons_succ] at b0 b1
  have hes1 := hes.below hbw
  have S1 := Lib.hid s1
  have l1 : w.heap.size < w1.heap.size := by omega
  have l2 : w1.heap.size ≤ w.heap.size + 1 := by omega
  clear s1
  go_loopg [2, 9] es.length (fun k s2 s9 wr => ∃ i : Nat, s9 = .int .i64 i ∧ i ≤ es.length ∧ k = es.length - i ∧ Below w1.heap.size w1 wr ∧ wr.ownsRow w1.heap.size 3 1 s2 (transL es i).length (intCells (transL es i)))
  case atStart => exact ⟨0, rfl, Nat.zero_le _, rfl, Below.refl _ _, World.ownsRow_nil _ _ _ _⟩
  case round =>
    obtain ⟨i, rfl, hi, hk, hb, hown⟩ := hrel
    have Hk := Lib.hid hk; clear hk
    have b0' := (hb.cell (p := ⟨w.heap.size, 0, none⟩) l1).trans b0
    have b1' := (hb.cell (p := ⟨w.heap.size, 1, none⟩) l1).trans b1
    have hbs := hb.size
    have l3 : w.heap.size < wr.heap.size := by omega
    have l4 : w.heap.size < wr.heap.size + 1 := by omega
    by_cases hlt : i < es.length
    · obtain ⟨b, off, rfl, hbb, hc⟩ := hes1.edges (by omega)
      obtain ⟨c0, c1⟩ := hc i hlt
      clear hc
      have c0' := (hb.cell (p := ⟨b, off + i * 2, none⟩) (Nat.lt_trans hbb l1)).trans c0
      have c1' := (hb.cell (p := ⟨b, off + i * 2 + 1, none⟩) (Nat.lt_trans hbb l1)).trans c1
      clear c0 c1
      have hesr := hes1.keep (w' := wr) (fun p hp => hb.cell (Nat.lt_trans hp l1))
      obtain ⟨q0, q1, q2, q3⟩ := Hin.out es[i] (List.getElem_mem hlt)
      obtain ⟨t, ht⟩ := Int.eq_ofNat_of_zero_le q0
      obtain ⟨h, hh⟩ := Int.eq_ofNat_of_zero_le q2
      rw [ht] at c0' q1
      rw [hh] at c1' q3
      have Ht := Lib.hid ht; clear ht q0
      have Hh := Lib.hid hh; clear hh q2
      go_wp2_with fail
      refine (each_any n _ cap es _ ((hesr.alloc (by omega) _).alloc (by simp; omega) _ |>.more (by simp; omega))).mono ?_
      rintro e w2 ⟨v, rfl, hb2, hv, _⟩
      obtain ⟨g, cap2, R, rfl, hg, hblk, hR, hc1, hc2, hc3⟩ := own_blk (hv Hm.out) (by omega)
      clear hv
      simp only [World.size_alloc] at hg hb2
      have x0 := hb2.cell (p := ⟨wr.heap.size, 0, none⟩) (by simp; omega)
      have x1 := hb2.cell (p := ⟨wr.heap.size + 1, 0, none⟩) (by simp)
      have x2 := hb2.cell (p := ⟨wr.heap.size + 1, 1, none⟩) (by simp)
      simp [go_sem] at x0 x1 x2
      have hb3 : Below wr.heap.size wr w2 := (((Below.refl _ _).alloc (Nat.le_refl _) _).alloc (by simp) _).trans (hb2.mono (by omega))
      have y0 := (hb3.cell (p := ⟨w.heap.size, 0, none⟩) l3).trans b0'
      have y1 := (hb3.cell (p := ⟨w.heap.size, 1, none⟩) l3).trans b1'
      have hown2 := own_below hown hb3 (Nat.le_refl _)
      have hes3 := hesr.keep (w' := w2) (fun p hp => hb3.cell (Nat.lt_trans hp l3))
      have hs2 := hb2.size
      simp only [World.size_alloc] at hs2
      clear hR hc1 hc2 hc3
      clear c0' c1' b0' b1' l4 hb2
      go_wp2_with fail
      refine (grow_any n _ cap cap2 es false (fun k => k != i) _ _ g n (eachL n) R _ w.heap.size hes3 (by omega) (by omega) hblk Hin.out (eachL_lt n (by omega)) (eachL_length n) callFunc_butOne ?_).mono ?_
      · intro k w' h0 h1 hg2
        obtain ⟨k, rfl⟩ := Int.eq_ofNat_of_zero_le h0
        rw [show ((k : Nat) : Int).toNat = k from rfl, ← int_bne]
        exact quiet0 (butOne_any k i wr.heap.size w' ((hg2.cell_far _ (by simp; omega) (by simp; omega)).trans x0))
      rintro e w3 ⟨rfl, hgr, T, hT, hok, hto, hfix⟩
      have hTl : T.length = n := by rw [hok.len, eachL_length]
      have x0' := (hgr.cell_far ⟨wr.heap.size, 0, none⟩ (by simp; omega) (by simp; omega)).trans x0
      have x1' := (hgr.cell_far ⟨wr.heap.size + 1, 0, none⟩ (by simp; omega) (by simp; omega)).trans x1
      have x2' := (hgr.cell_far ⟨wr.heap.size + 1, 1, none⟩ (by simp; omega) (by simp; omega)).trans x2
      have ut := (hT.cell t).trans (u64s_at T R t (by omega))
      have hTb := hok.at_ t
      have HT := Lib.hid (grown_iff (both := false) (cnt := fun k => k != i) (n := n) Hin.out ⟨hok, hto, hfix⟩)
      have hown3 : w3.ownsRow w1.heap.size 3 1 u2 (transL es i).length (intCells (transL es i)) := hown2.kept hgr (by
        cases hu : u2.ownBlock with
        | none => exact .inl rfl
        | some k => have := (hown.lt k hu).2; exact .inr (by simp; omega))
      have hb4 : Below w1.heap.size w1 w3 := (hb.trans (hb3.mono hbs)).grown hgr (by omega) (fun k hk => by injection hk; omega)
      have hs3 := hgr.size
      have HR := Lib.hid (And.intro hown2 hown3); clear hown2 hown3 hown
      clear x0 x1 x2 y0 y1 hblk hT hok hto hfix hgr hb3 hes3 hesr hbs
      have hx0 : decide ((n : Int) = 0) = false := decide_eq_false (by omega)
      generalize ha : T.getD t 0 = a at *
      have Ha := Lib.hid ha; clear ha
      go_wp2_with fail
      go_quiet ((go_at_call 14; exact quiet_left (has_any _ _ _ hTb)))
      have x0'' : (w3.drewN nq).cell? ⟨wr.heap.size, 0, none⟩ = some (.int .i64 i) := x0'
      have hown4 : (w3.drewN nq).ownsRow w1.heap.size 3 1 u2 (transL es i).length (intCells (transL es i)) := HR.out.2
      have hb4' : Below w1.heap.size w1 (w3.drewN nq) := ⟨hb4.os, hb4.tape, hb4.output, hb4.size, hb4.block⟩
      have hs4 : w2.heap.size ≤ (w3.drewN nq).heap.size := hs3
      clear x0' x1' x2' ut hb4 hs3 HR
      generalize w3.drewN nq = w4 at *
      have E : transB es i = setHas a h := by
        have e0 : es.getD i (0, 0) = es[i] := by simp [hlt]
        have e1 := (HT.out.2 t (by omega) h)
        rw [Ha.out] at e1
        rw [Bool.eq_iff_iff]
        simp only [transB, decide_eq_true_eq, e0, Ht.out, Hh.out, setHas, Bool.and_eq_true]
        rw [show ((t : Nat) : Int).toNat = t from rfl, show ((h : Nat) : Int).toNat = h from rfl]
        rw [← e1]
        exact ⟨fun x => ⟨⟨by omega, by omega⟩, x⟩, fun x => x.2⟩
      have El : transL es (i + 1) = transL es i ++ if setHas a h then [(i : Int)] else [] := by
        unfold transL
        rw [List.range_succ, List.filter_append, List.map_append, ← E]
        by_cases hE : transB es i = true <;> simp [hE]
      have HE := Lib.hid El; clear E El
      have htl := transL_length es i
      cases hB : setHas a h with
      | true =>
        rw [hB] at HE
        clear hB
        go_wp2_with (at_builtin; refine wp_app elemInt rfl _ _ rfl w1.heap.size u2 _ _ rfl w4.heap.size [.int .i64 (i : Int)] rfl rfl hown4 rfl rfl ?h2 ?h3 ?h4 ?_)
        case h2 => omega
        case h3 => omega
        case h4 => omega
        intro v' w' hown' hg' _
        have hb' := below_app hb4' hown4 hg' (by omega) (Nat.le_refl _)
        clear hown4 hg' hb4'
        go_wp2_with fail
        go_roundg (es.length - (i + 1))
        case measure => rw [Hk.out]; omega
        case rel => exact ⟨i + 1, by go_num, by omega, rfl, hb', by
          rw [HE.out]; simpa [intCells] using hown'⟩
      | false =>
        rw [hB] at HE
        clear hB
        go_wp2_with fail
        go_roundg (es.length - (i + 1))
        case measure => rw [Hk.out]; omega
        case rel => exact ⟨i + 1, by go_num, by omega, rfl, hb4', by
          rw [HE.out]; simpa [intCells] using hown4⟩
    · have hie : i = es.length := by omega
      subst hie
      go_wp2_with fail
      go_ret
      exact ⟨_, rfl, hbw.trans (hb.mono (Nat.le_of_lt l1)), fun _ => own_mono hown (Nat.le_of_lt l1), no_may' Hm.out⟩
end Go.Proofs.Ythdifhfmgmmljaa
