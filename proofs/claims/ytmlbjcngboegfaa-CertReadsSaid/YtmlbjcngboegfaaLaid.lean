/-
  Laid, Told, Great, speaks. Written by an AI agent.
-/
import Derived.Test.YtmlbjcngboegfaaDec
namespace Go.Proofs.Ytmlbjcngboegfaa
open Go.RowKit

/-- no list is too long -/
structure CrtSm (x : Crt) : Prop where
  le : CrtLe x
  outs : ∀ l ∈ x.outs, l.length ≤ 3000
  turn : ∀ l ∈ x.turn, l.length ≤ 3000
  lines : ∀ l ∈ x.lines, l.length ≤ 3000

theorem blk_new' (w : World) (g : Nat) (t : TypeId) (cs : Array Value) (h : g = w.heap.size) : Blk (w.alloc (.cells cs t)) g t cs := by
  subst h; exact Blk.new w t cs
theorem evo_nil {B : Nat} {Ts : List (List TypeId)} {C : List Nat} {w w' : World} (hC : (C.all fun c => decide (c = 0)) = true) (h : Evo B (R3.typesOf ([] :: Ts) C) w w') : Below w.heap.size w w' := by
  have e : R3.typesOf ([] :: Ts) C = [] := by
    unfold R3.typesOf
    rw [List.flatMap_eq_nil_iff]
    intro c hc
    have := List.all_eq_true.1 hC c hc
    have h0 : c = 0 := by simpa using this
    subst h0
    rfl
  rw [e] at h
  exact ⟨h.os, h.tape, h.output, h.size, fun k hk => h.keep k hk (.inr fun _ _ _ _ => by simp)⟩
/-- the cells of a slice of slices -/
theorem TblAt.cells {β : Type} {cl : List β → List Value} {w : World} {B : Nat} {A : Option Addr} {rs : List (List β)} (h : TblAt cl w B A rs) :
    ∃ vs : List Value, vs.length = rs.length ∧ Cells w B A vs ∧ ∀ i (hi : i < rs.length), ∃ Ai ci, vs[i]? = some (.slice Ai rs[i].length ci) ∧ Cells w B Ai (cl rs[i]) := by
  rcases Nat.eq_zero_or_pos rs.length with h0 | h0
  · exact ⟨[], h0.symm, Cells.nil, fun i hi => absurd hi (by omega)⟩
  · obtain ⟨b, off, rfl, hb, hc⟩ := h h0
    refine ⟨(List.range rs.length).map fun i => (w.cell? ⟨b, off + i, none⟩).getD undef, by simp, fun _ => ⟨b, off, rfl, hb, fun j u hj => ?_⟩, fun i hi => ?_⟩
    · obtain ⟨hl, hu⟩ := List.getElem?_eq_some_iff.1 hj
      simp only [List.length_map, List.length_range] at hl
      obtain ⟨Ai, ci, h1, _⟩ := hc j hl
      simp only [List.getElem_map, List.getElem_range] at hu
      rw [h1] at hu
      rw [h1, ← hu]
      rfl
    · obtain ⟨Ai, ci, h1, h2⟩ := hc i hi
      refine ⟨Ai, ci, ?_, h2⟩
      simp [hi, h1]
/-- cells that are slices of these lengths -/
def LenVals (ls : List Nat) (vs : List Value) : Prop := vs.length = ls.length ∧ ∀ i (h : i < ls.length), ∃ A c, vs[i]? = some (.slice A ls[i] c)
theorem LenVals.append {l l' : List Nat} {v v' : List Value} (h : LenVals l v) (h' : LenVals l' v') : LenVals (l ++ l') (v ++ v') := by
  refine ⟨by simp [h.1, h'.1], fun i hi => ?_⟩
  by_cases hl : i < l.length
  · obtain ⟨A, c, e⟩ := h.2 i hl
    exact ⟨A, c, by rw [List.getElem?_append_left (by rw [h.1]; exact hl), e, List.getElem_append_left hl]⟩
  · have hl' : i - l.length < l'.length := by simp at hi; omega
    obtain ⟨A, c, e⟩ := h'.2 (i - l.length) hl'
    exact ⟨A, c, by rw [List.getElem?_append_right (by rw [h.1]; omega), h.1, e, List.getElem_append_right (by omega)]⟩
theorem LenVals.one {l : List Nat} {v : List Value} (h : LenVals l v) : v.all (fun u => u.oneCell') = true := by
  rw [List.all_eq_true]
  intro u hu
  obtain ⟨i, hi, e⟩ := List.getElem_of_mem hu
  obtain ⟨A, c, e'⟩ := h.2 i (by rw [← h.1]; exact hi)
  rw [List.getElem?_eq_getElem hi, e] at e'
  injection e' with e'
  rw [e']
  rfl

theorem laid_any (V : CV) (x : Crt) (w : World) : Calls Try.prog 10 #[crtVal V x] w (fun e w' => e = .returned (crtVal V x) ∧ Below w.heap.size w w') := by
  unfold crtVal crtCells
  go_enter Try.func10, Try.ntmps10
  go_wp2_with fail
  refine bodyPost_ret (results_cell_row Try.results10 _ _ (w.heap.size + 1) 39 #[.int .i64 x.k, .slice V.a1 x.ord.length V.c1, .slice V.a2 x.outs.length V.c2, .slice V.a3 x.turn.length V.c3, .int .i64 x.outer, .slice V.a5 x.pts.length V.c5, .slice V.a6 x.lines.length V.c6, .slice V.a7 x.b0.length V.c7, .slice V.a8 x.b1.length V.c8, .slice V.a9 x.b2.length V.c9, .slice V.a10 x.b3.length V.c10, .slice V.a11 x.edges.length V.c11] (0, 0) _ rfl ?_ Try.underlying39 rfl (by kernel_rfl)) rfl ⟨rfl, ((Below.refl _ _).alloc (Nat.le_refl _) _).alloc (by simp) _⟩
  exact blk_new' _ _ _ _ (by simp)

/-- Great's first worlds -/
def gW (V : CV) (x : Crt) (w : World) : World := (w.alloc (.cells (crtCells V x) 32)).alloc (.cells #[.slice V.a1 x.ord.length V.c1, .slice V.a11 x.edges.length V.c11, .slice V.a7 x.b0.length V.c7, .slice V.a8 x.b1.length V.c8, .slice V.a9 x.b2.length V.c9, .slice V.a10 x.b3.length V.c10] 22)
theorem enc_below0 (V : CV) (x : Crt) (w : World) : Below w.heap.size w (gW V x w) := ((Below.refl _ _).alloc (Nat.le_refl _) _).alloc (by simp) _
theorem enc_blk0 (V : CV) (x : Crt) (w : World) : Blk (gW V x w) w.heap.size 32 (crtCells V x) := (Blk.new w _ _).alloc _
theorem enc_size0 (V : CV) (x : Crt) (w : World) : (gW V x w).heap.size = w.heap.size + 2 := by simp [gW]
theorem enc_blk6 (V : CV) (x : Crt) (w : World) : Blk (gW V x w) (w.heap.size + 1) 22 ([.slice V.a1 x.ord.length V.c1, .slice V.a11 x.edges.length V.c11, .slice V.a7 x.b0.length V.c7, .slice V.a8 x.b1.length V.c8, .slice V.a9 x.b2.length V.c9, .slice V.a10 x.b3.length V.c10] : List Value).toArray := blk_new' _ _ _ _ (by simp)
def GreatPost (x : Crt) (w : World) (e : Ending) (w' : World) : Prop := ∃ g : Bool, e = .returned (.bool g) ∧ (g = false → CrtSm x) ∧ Below w.heap.size w w'

set_option maxRecDepth 20000 in
set_option maxHeartbeats 2000000 in
theorem great_any (V : CV) (x : Crt) (w : World) (h : CrtIs w w.heap.size V x) : Calls Try.prog 8 #[crtVal V x] w (GreatPost x w) := by
  have HT := Lib.hid (fun (w' : World) (hb : Below w.heap.size w w') => (⟨true, rfl, fun h => (by cases h), hb⟩ : GreatPost x w (.returned (.bool true)) w'))
  have HI := Lib.hid h
  clear h
  unfold crtVal crtCells
  go_enter Try.func8, Try.ntmps8
  by_cases hs : 200 < x.outs.length ∨ 200 < x.turn.length ∨ 200 < x.pts.length ∨ 200 < x.lines.length
  · by_cases h1 : (200 : Int) < x.outs.length
    · clear hs
      go_wp2
      go_ret
      exact HT.out _ (((Below.refl _ _).alloc (Nat.le_refl _) _).alloc (by simp) _)
    by_cases h2 : (200 : Int) < x.turn.length
    · clear hs
      go_wp2
      go_ret
      exact HT.out _ (((Below.refl _ _).alloc (Nat.le_refl _) _).alloc (by simp) _)
    by_cases h3 : (200 : Int) < x.pts.length
    · clear hs
      go_wp2
      go_ret
      exact HT.out _ (((Below.refl _ _).alloc (Nat.le_refl _) _).alloc (by simp) _)
    have h4 : (200 : Int) < x.lines.length := by omega
    clear hs
    go_wp2
    go_ret
    exact HT.out _ (((Below.refl _ _).alloc (Nat.le_refl _) _).alloc (by simp) _)
  have h1 : ¬ (200 : Int) < x.outs.length := by omega
  have h2 : ¬ (200 : Int) < x.turn.length := by omega
  have h3 : ¬ (200 : Int) < x.pts.length := by omega
  have h4 : ¬ (200 : Int) < x.lines.length := by omega
  clear hs
  obtain ⟨vo, ho1, ho2, ho3⟩ := HI.out.h2.cells
  obtain ⟨vt, ht1, ht2, ht3⟩ := HI.out.h3.cells
  have hLo : LenVals (x.outs.map List.length) vo := ⟨by simp [ho1], fun i hi => by
    obtain ⟨A, c, e, _⟩ := ho3 i (by simpa using hi)
    exact ⟨A, c, by rw [e]; simp⟩⟩
  have hLt : LenVals (x.turn.map List.length) vt := ⟨by simp [ht1], fun i hi => by
    obtain ⟨A, c, e, _⟩ := ht3 i (by simpa using hi)
    exact ⟨A, c, by rw [e]; simp⟩⟩
  have hL6 : LenVals [x.ord.length, x.edges.length, x.b0.length, x.b1.length, x.b2.length, x.b3.length] [.slice V.a1 x.ord.length V.c1, .slice V.a11 x.edges.length V.c11, .slice V.a7 x.b0.length V.c7, .slice V.a8 x.b1.length V.c8, .slice V.a9 x.b2.length V.c9, .slice V.a10 x.b3.length V.c10] := ⟨rfl, fun i hi => by
    have e : i = 0 ∨ i = 1 ∨ i = 2 ∨ i = 3 ∨ i = 4 ∨ i = 5 := by simp at hi; omega
    rcases e with rfl | rfl | rfl | rfl | rfl | rfl <;> exact ⟨_, _, rfl⟩⟩
  have HL := Lib.hid ((hL6.append hLo).append hLt)
  have H6 := Lib.hid hL6.one
  have HLo := Lib.hid hLo.one
  have HLt := Lib.hid hLt.one
  have Ho1 := Lib.hid ho1
  have Ho2 := Lib.hid ho2
  have Ht1 := Lib.hid ht1
  have Ht2 := Lib.hid ht2
  have HB := Lib.hid (enc_below0 V x w)
  have HB2 := Lib.hid (enc_blk6 V x w)
  have HXg := Lib.hid (enc_blk0 V x w)
  have hsz := enc_size0 V x w
  unfold gW crtCells at HB HB2 HXg hsz
  clear ho1 ho2 ho3 ht1 ht2 ht3 hLo hLt hL6
  go_upto_region 5 with fail
  generalize hw2 : (w.alloc (.cells #[.int .i64 x.k, .slice V.a1 x.ord.length V.c1, .slice V.a2 x.outs.length V.c2, .slice V.a3 x.turn.length V.c3, .int .i64 x.outer, .slice V.a5 x.pts.length V.c5, .slice V.a6 x.lines.length V.c6, .slice V.a7 x.b0.length V.c7, .slice V.a8 x.b1.length V.c8, .slice V.a9 x.b2.length V.c9, .slice V.a10 x.b3.length V.c10, .slice V.a11 x.edges.length V.c11] 32)).alloc (.cells #[.slice V.a1 x.ord.length V.c1, .slice V.a11 x.edges.length V.c11, .slice V.a7 x.b0.length V.c7, .slice V.a8 x.b1.length V.c8, .slice V.a9 x.b2.length V.c9, .slice V.a10 x.b3.length V.c10] 22) = w2 at *
  clear hw2
  have x2 : w2.cell? ⟨w.heap.size, 2, none⟩ = some (.slice V.a2 x.outs.length V.c2) := HXg.out.cell 2
  have x3 : w2.cell? ⟨w.heap.size, 3, none⟩ = some (.slice V.a3 x.turn.length V.c3) := HXg.out.cell 3
  have x6 : w2.cell? ⟨w.heap.size, 6, none⟩ = some (.slice V.a6 x.lines.length V.c6) := HXg.out.cell 6
  have hgl : w.heap.size < w2.heap.size := by omega
  have hown0 : w2.ownsRow (w.heap.size + 1) 22 1 (.slice (some ⟨w.heap.size + 1, 0, none⟩) 6 6) 6 [.slice V.a1 x.ord.length V.c1, .slice V.a11 x.edges.length V.c11, .slice V.a7 x.b0.length V.c7, .slice V.a8 x.b1.length V.c8, .slice V.a9 x.b2.length V.c9, .slice V.a10 x.b3.length V.c10] := own_of_blk HB2.out (Nat.le_refl _) rfl (by omega)
  have Hown0 := Lib.hid hown0
  clear hown0
  refine R3.wp_region_i (w.heap.size + 1) [[], [22]] [0, 0, 0, 0, 1, 0, 0, 1, 0, 0]
    [([], .val (.slice (some ⟨w.heap.size + 1, 0, none⟩) 6 6)), ([], .val (.pointer (some ⟨w.heap.size, 1, none⟩))), ([1], .val (.pointer (some ⟨w.heap.size, 2, none⟩))), ([2], .val (.slice V.a2 x.outs.length V.c2)),
     ([0, 3], .own 22 1 (6 + x.outs.length) ([.slice V.a1 x.ord.length V.c1, .slice V.a11 x.edges.length V.c11, .slice V.a7 x.b0.length V.c7, .slice V.a8 x.b1.length V.c8, .slice V.a9 x.b2.length V.c9, .slice V.a10 x.b3.length V.c10] ++ vo)), ([], .val (.pointer (some ⟨w.heap.size, 3, none⟩))), ([5], .val (.slice V.a3 x.turn.length V.c3)),
     ([4, 6], .own 22 1 (6 + x.outs.length + x.turn.length) ([.slice V.a1 x.ord.length V.c1, .slice V.a11 x.edges.length V.c11, .slice V.a7 x.b0.length V.c7, .slice V.a8 x.b1.length V.c8, .slice V.a9 x.b2.length V.c9, .slice V.a10 x.b3.length V.c10] ++ vo ++ vt)), ([7], .val (.int .i64 (6 + x.outs.length + x.turn.length : Nat))), ([], .val (.int .i64 0))] [7, 8, 9]
    (by kernel_rfl) (by kernel_rfl) (fun us => ?_) ?_
  · refine R3.pgo_pure _ rfl rfl (fun wv hw hu => ⟨.slice (some ⟨w.heap.size + 1, 0, none⟩) 6 6, ?_, rfl⟩) ?_
    · clear hw hu
      go_simp
    refine R3.pgo_pure _ rfl rfl (fun wv hw hu => ⟨.pointer (some ⟨w.heap.size, 1, none⟩), ?_, rfl⟩) ?_
    · clear hw hu
      go_simp
    refine R3.pgo_pure _ rfl rfl (fun wv hw hu => ⟨.pointer (some ⟨w.heap.size, 2, none⟩), ?_, rfl⟩) ?_
    · have h0 : us 1 = .pointer (some ⟨w.heap.size, 1, none⟩) := hu.1
      clear hw hu
      go_simp
    refine R3.pgo_pure _ rfl rfl (fun wv hw hu => ⟨.slice V.a2 x.outs.length V.c2, ?_, rfl⟩) ?_
    · have h0 : us 2 = .pointer (some ⟨w.heap.size, 2, none⟩) := hu.1
      have y2 := ((evo_nil (by kernel_rfl) hw).cell (p := ⟨w.heap.size, 2, none⟩) hgl).trans x2
      clear hw hu
      go_simp
    refine R3.pgo_op _ rfl rfl (fun K wv hw hu hK => ?_) ?_
    · have h0 : us 0 = .slice (some ⟨w.heap.size + 1, 0, none⟩) 6 6 := hu.1
      have h3 : us 3 = .slice V.a2 x.outs.length V.c2 := hu.2.1
      have hbv := below_undrew (evo_nil (by kernel_rfl) hw)
      have hov := own_below Hown0.out hbv (Nat.le_refl _)
      refine wpo_app_any elemRow _ _ rfl (by repeat (first | (with_reducible exact (put_eval_same _ _ _ (by simp [put_size])).trans h0) | (with_reducible refine put_eval _ _ _ _ _ (by decide) ?_))) hov (by repeat (first | (with_reducible exact (put_eval_same _ _ _ (by simp [put_size])).trans h3) | (with_reducible refine put_eval _ _ _ _ _ (by decide) ?_))) ((Ho2.out.below HB.out).below (hbv.mono (Nat.le_of_lt hgl))) (Ho1.out.trans (Nat.mul_one _).symm) HLo.out (by omega) (by omega) (Nat.le_trans (Nat.succ_le_of_lt hgl) hbv.size) (fun v' w' ho hgr _ => ?_)
      obtain ⟨A', c', rfl⟩ := own_slice ho
      exact hK _ _ (Evo.of_grown hov hgr (by simp) (Nat.le_refl _)) ⟨_, _, rfl, ho⟩
    refine R3.pgo_pure _ rfl rfl (fun wv hw hu => ⟨.pointer (some ⟨w.heap.size, 3, none⟩), ?_, rfl⟩) ?_
    · clear hw hu
      go_simp
    refine R3.pgo_pure _ rfl rfl (fun wv hw hu => ⟨.slice V.a3 x.turn.length V.c3, ?_, rfl⟩) ?_
    · have h0 : us 5 = .pointer (some ⟨w.heap.size, 3, none⟩) := hu.1
      have y2 := ((hw.below (by show w.heap.size + 1 ≤ w2.heap.size; omega)).cell (p := ⟨w.heap.size, 3, none⟩) (Nat.lt_succ_self _)).trans x3
      clear hw hu
      go_simp
    refine R3.pgo_op _ rfl rfl (fun K wv hw hu hK => ?_) ?_
    · obtain ⟨A4, c4, h4, ho4⟩ := hu.1
      have h6 : us 6 = .slice V.a3 x.turn.length V.c3 := hu.2.1
      rw [h4] at ho4
      have hbv := below_undrew (hw.below (by show w.heap.size + 1 ≤ w2.heap.size; omega))
      refine wpo_app_any elemRow _ _ rfl (by repeat (first | (with_reducible exact (put_eval_same _ _ _ (by simp [put_size])).trans h4) | (with_reducible refine put_eval _ _ _ _ _ (by decide) ?_))) ho4 (by repeat (first | (with_reducible exact (put_eval_same _ _ _ (by simp [put_size])).trans h6) | (with_reducible refine put_eval _ _ _ _ _ (by decide) ?_))) ((Ht2.out.below HB.out).below (hbv.mono (Nat.le_succ _))) (Ht1.out.trans (Nat.mul_one _).symm) HLt.out (by omega) (by omega) (Nat.le_trans (Nat.succ_le_of_lt hgl) hw.size) (fun v' w' ho hgr _ => ?_)
      obtain ⟨A', c', rfl⟩ := own_slice ho
      exact hK _ _ (Evo.of_grown ho4 hgr (by simp) (Nat.le_refl _)) ⟨_, _, rfl, ho⟩
    refine R3.pgo_pure _ rfl rfl (fun wv hw hu => ⟨.int .i64 (6 + x.outs.length + x.turn.length : Nat), ?_, rfl⟩) ?_
    · obtain ⟨A4, c4, h4, ho4⟩ := hu.1
      clear hw hu ho4
      go_simp
    refine R3.pgo_pure _ rfl rfl (fun wv hw hu => ⟨.int .i64 0, ?_, rfl⟩) ?_
    · clear hw hu
      go_simp
    trivial
  · intro us w' hw hu
    obtain ⟨⟨A7, c7, h7, ho7⟩, hq8, hq9, _⟩ := hu
    have h8 : us 8 = .int .i64 (6 + x.outs.length + x.turn.length : Nat) := hq8
    have h9 : us 9 = .int .i64 0 := hq9
    clear hq8 hq9
    have hbl := below_undrew (hw.below (by show w.heap.size + 1 ≤ w2.heap.size; omega))
    have HB7 := Lib.hid (HB.out.trans (hbl.mono (Nat.le_succ _)))
    have z6 := (hbl.cell (p := ⟨w.heap.size, 6, none⟩) (Nat.lt_succ_self _)).trans x6
    have hsz7 := hbl.size
    rw [h7] at ho7
    have Hc7 := Lib.hid (Cells.of_own ho7)
    obtain ⟨N, hN⟩ : ∃ N, N = 6 + x.outs.length + x.turn.length := ⟨_, rfl⟩
    have HN := Lib.hid (show ([x.ord.length, x.edges.length, x.b0.length, x.b1.length, x.b2.length, x.b3.length] ++ x.outs.map List.length ++ x.turn.map List.length).length = N by rw [hN]; simp; omega)
    have hNle : N ≤ 406 := by omega
    rw [← hN] at h7 h8
    have HL8 := Lib.hid HL.out
    generalize [.slice V.a1 x.ord.length V.c1, .slice V.a11 x.edges.length V.c11, .slice V.a7 x.b0.length V.c7, .slice V.a8 x.b1.length V.c8, .slice V.a9 x.b2.length V.c9, .slice V.a10 x.b3.length V.c10] ++ vo ++ vt = xs at *
    generalize hls : [x.ord.length, x.edges.length, x.b0.length, x.b1.length, x.b2.length, x.b3.length] ++ x.outs.map List.length ++ x.turn.map List.length = ls at *
    have Hls := Lib.hid hls
    clear hls hN ho7 hbl hw HL Hown0 HB2 HXg x2 x3 x6 H6 HLo HLt Ho1 Ho2 Ht1 Ht2
    simp only [lexL]
    go_simp
    go_wp2_with fail
    go_loopg [4, 61] N (fun k s4 s61 wr => ∃ (i n : Nat), s61 = .int .i64 i ∧ i ≤ N ∧ k = N - i ∧ s4 = .int .i64 n ∧ n ≤ 2000 ∧ wr = w' ∧ ∀ j (h : j < ls.length), j < i → ls[j] ≤ 3000)
    case atStart => exact ⟨0, 0, rfl, by omega, rfl, rfl, by omega, rfl, fun j _ hj => absurd hj (by omega)⟩
    case round =>
      obtain ⟨i, n, rfl, hi, hk, rfl, hn, rfl, hls⟩ := hrel
      have Hk := Lib.hid hk
      have Hls2 := Lib.hid hls
      clear hk hls
      by_cases hlt : i < N
      · have hlt' : (i : Int) < N := by omega
        have hil : i < ls.length := by rw [HN.out]; exact hlt
        obtain ⟨Ai, ci, e0⟩ := HL8.out.2 i hil
        obtain ⟨b, off, rfl, hbb, hcc⟩ := Hc7.out (by rw [HL8.out.1]; omega)
        have e0 := hcc i _ e0
        have HS := Lib.hid (fun (h : ls[i] ≤ 3000) (j : Nat) (hj : j < ls.length) (hji : j < i + 1) => (by
          by_cases e : j = i
          · subst e; exact h
          · exact Hls2.out j hj (by omega) : ls[j] ≤ 3000))
        clear hcc
        generalize ls[i] = l at *
        by_cases hl : l ≤ 3000
        · have hl' : (l : Int) ≤ 3000 := by omega
          by_cases h2k : 2000 < n + l
          · have h2k' : (2000 : Int) < n + l := by omega
            clear h2k
            go_wp2_with fail
            go_ret
            exact HT.out _ HB7.out
          · have h2k' : ¬ (2000 : Int) < n + l := by omega
            have HS2 := Lib.hid (HS.out hl)
            go_wp2_with fail
            go_roundg (N - (i + 1))
            case measure => rw [Hk.out]; omega
            case rel => exact ⟨i + 1, n + l, by go_num, by omega, rfl, by go_num, by omega, rfl, HS2.out⟩
        · have hl' : ¬ (l : Int) ≤ 3000 := by omega
          clear hl
          go_wp2_with fail
          go_ret
          exact HT.out _ HB7.out
      · have hie : i = N := by omega
        subst hie
        have HLe := Lib.hid (show CrtLe x ∧ (∀ l ∈ x.outs, l.length ≤ 3000) ∧ (∀ l ∈ x.turn, l.length ≤ 3000) from by
          have hall : ∀ l ∈ ls, l ≤ 3000 := fun l hl => by
            obtain ⟨j, hj, e⟩ := List.getElem_of_mem hl
            rw [← e]
            exact Hls2.out j hj (by rw [← HN.out]; exact hj)
          rw [← Hls.out] at hall
          have hm : ∀ l ∈ [x.ord.length, x.edges.length, x.b0.length, x.b1.length, x.b2.length, x.b3.length], l ≤ 3000 := fun l hl => hall l (List.mem_append_left _ (List.mem_append_left _ hl))
          refine ⟨⟨hm _ (by simp), by omega, by omega, by omega, by omega, hm _ (by simp), hm _ (by simp), hm _ (by simp), hm _ (by simp), hm _ (by simp)⟩, fun l hl => hall _ (List.mem_append_left _ (List.mem_append_right _ (List.mem_map.2 ⟨l, hl, rfl⟩))), fun l hl => hall _ (List.mem_append_right _ (List.mem_map.2 ⟨l, hl, rfl⟩))⟩)
        have HLn := Lib.hid (HI.out.h6.below HB7.out)
        clear Hls Hls2 HL8 HN Hc7 h7
        obtain ⟨w', rfl⟩ : ∃ x, x = wr := ⟨_, rfl⟩
        generalize V.a6 = A6 at *
        go_wp2_with fail
        go_loopg [4, 77] x.lines.length (fun k s4 s77 wr => ∃ (i n : Nat), s77 = .int .i64 i ∧ i ≤ x.lines.length ∧ k = x.lines.length - i ∧ s4 = .int .i64 n ∧ n ≤ 2000 ∧ wr = w' ∧ ∀ j (h : j < x.lines.length), j < i → x.lines[j].length ≤ 3000)
        case atStart => exact ⟨0, n, rfl, by omega, rfl, rfl, by omega, rfl, fun j _ hj => absurd hj (by omega)⟩
        case round =>
          clear hi hn hlt hNle
          obtain ⟨i, n, rfl, hi, hk, rfl, hn, rfl, hls⟩ := hrel
          have Hk := Lib.hid hk
          have Hls2 := Lib.hid hls
          clear hk hls
          by_cases hlt : i < x.lines.length
          · have hlt' : (i : Int) < x.lines.length := by omega
            obtain ⟨b, off, rfl, hbb, hcc⟩ := HLn.out (by omega)
            obtain ⟨Ai, ci, e0, _⟩ := hcc i hlt
            have HS := Lib.hid (fun (h : x.lines[i].length ≤ 3000) (j : Nat) (hj : j < x.lines.length) (hji : j < i + 1) => (by
              by_cases e : j = i
              · subst e; exact h
              · exact Hls2.out j hj (by omega) : x.lines[j].length ≤ 3000))
            clear hcc
            generalize x.lines[i].length = l at *
            by_cases hl : l ≤ 3000
            · have hl' : (l : Int) ≤ 3000 := by omega
              by_cases h2k : 2000 < n + l
              · have h2k' : (2000 : Int) < n + l := by omega
                clear h2k
                go_wp2_with fail
                go_ret
                exact HT.out _ HB7.out
              · have h2k' : ¬ (2000 : Int) < n + l := by omega
                have HS2 := Lib.hid (HS.out hl)
                go_wp2_with fail
                go_roundg (x.lines.length - (i + 1))
                case measure => rw [Hk.out]; omega
                case rel => exact ⟨i + 1, n + l, by go_num, by omega, rfl, by go_num, by omega, rfl, HS2.out⟩
            · have hl' : ¬ (l : Int) ≤ 3000 := by omega
              clear hl
              go_wp2_with fail
              go_ret
              exact HT.out _ HB7.out
          · have hie : i = x.lines.length := by omega
            subst hie
            have HSm := Lib.hid (show CrtSm x from ⟨HLe.out.1, HLe.out.2.1, HLe.out.2.2, fun l hl => by
              obtain ⟨j, hj, e⟩ := List.getElem_of_mem hl
              rw [← e]
              exact Hls2.out j hj hj⟩)
            clear Hls2 HLe
            go_wp2_with fail
            go_ret
            exact ⟨false, rfl, fun _ => HSm.out, HB7.out⟩
end Go.Proofs.Ytmlbjcngboegfaa
