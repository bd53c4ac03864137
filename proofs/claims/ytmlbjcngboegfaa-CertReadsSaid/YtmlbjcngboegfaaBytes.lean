/-
  Law CertBytes: walked. Printed by wip/C/bytesgen.py. Written by an AI agent.
-/
import Derived.Test.YtmlbjcngboegfaaUnlike
import Derived.Test.YtmlbjcngboegfaaRefQ
namespace Go.Proofs.Ytmlbjcngboegfaa
open Go.RowKit

theorem told_any (V : CV) (x : Crt) (w : World) : Calls Try.prog 14 #[crtVal V x] w (fun e w' => e = .returned (crtVal V x) ∧ Below w.heap.size w w') := by
  unfold crtVal crtCells
  go_enter Try.func14, Try.ntmps14
  go_wp2_with fail
  refine bodyPost_ret (results_cell_row Try.results14 _ _ (w.heap.size + 1) 32 #[.int .i64 x.k, .slice V.a1 x.ord.length V.c1, .slice V.a2 x.outs.length V.c2, .slice V.a3 x.turn.length V.c3, .int .i64 x.outer, .slice V.a5 x.pts.length V.c5, .slice V.a6 x.lines.length V.c6, .slice V.a7 x.b0.length V.c7, .slice V.a8 x.b1.length V.c8, .slice V.a9 x.b2.length V.c9, .slice V.a10 x.b3.length V.c10, .slice V.a11 x.edges.length V.c11] (0, 0) _ rfl ?_ Try.underlying32 rfl (by kernel_rfl)) rfl ⟨rfl, ((Below.refl _ _).alloc (Nat.le_refl _) _).alloc (by simp) _⟩
  exact blk_new' _ _ _ _ (by simp)
theorem cert_info {cs : Array Value} (h : cs.size = 12) : (Try.prog.info? 39).map (·.size) = some cs.size := by rw [h]; kernel_rfl

set_option maxRecDepth 20000 in
set_option maxHeartbeats 2000000 in
theorem bytes_any (ca : Array Value) (x : Crt) (w : World) (h : CallsC ca x w) (hr : CrtSm x → ∀ w1, Below w.heap.size w w1 → Calls Try.prog 11 #[.agg ca] w1 (RefEncPost x w1))
    (hs : CrtSm x → ∀ V w1, Below w.heap.size w w1 → CrtIs w1 w1.heap.size V x → Calls Try.prog 13 #[crtVal V x, .agg ca] w1 (SamePost x x w1)) :
    Calls Try.prog 3 #[.agg ca] w (fun e w' => e = .returned (.bool true) ∧ Below w.heap.size w w') := by
  have H := Lib.hid h
  have HR := Lib.hid hr
  have HS := Lib.hid hs
  have Hs := Lib.hid h.size
  clear h hr hs
  go_enter Try.func3, Try.ntmps3
  have hb0 := (Below.refl w.heap.size w).alloc (Nat.le_refl _) (.cells ca 32)
  have hx0 := Blk.new w 32 ca
  have hz0 : (w.alloc (.cells ca 32)).heap.size = w.heap.size + 1 := by simp
  go_wp2_with fail
  generalize w.alloc (.cells ca 32) = w0 at *
  refine (speaks_any _).mono ?_
  rintro e w1 ⟨rfl, hb1⟩
  have hx1 := hx0.below hb1 (by omega)
  have HB1 := Lib.hid (hb0.trans (hb1.mono (by omega)))
  have hz1 := hb1.size
  rw [hz0] at hz1
  clear hb0 hx0 hz0 hb1
  go_wp2_with (refine wpl_load rfl _ _ rfl w.heap.size rfl 32 ca _ hx1 Try.underlying32 rfl (crt_info Hs.out) ?_)
  refine (H.out.great w1 HB1.out).mono ?_
  rintro e w2 ⟨g, rfl, hg, hb2⟩
  cases g with
  | true =>
    go_wp2_with fail
    go_ret
    exact ⟨rfl, HB1.out.trans (hb2.mono (by omega))⟩
  | false =>
  have HSm := Lib.hid (hg rfl)
  clear hg
  have hx3 := hx1.below hb2 hx1.lt
  have HB3 := Lib.hid (HB1.out.trans (hb2.mono (by omega)))
  have hz3 := hb2.size
  clear hx1 HB1 hb2
  go_wp2_with (refine wpl_load rfl _ _ rfl w.heap.size rfl 32 ca _ hx3 Try.underlying32 rfl (crt_info Hs.out) ?_)
  refine (H.out.laid w2).mono ?_
  rintro e w4 ⟨rfl, hb4⟩
  have hx4 := hx3.below hb4 hx3.lt
  have HB4 := Lib.hid (HB3.out.trans (hb4.mono (by omega)))
  have hz4 := hb4.size
  clear hx3 HB3 hb4
  go_wp2_with fail
  refine (H.out.enc HSm.out.le w4 HB4.out).mono ?_
  rintro e w5 ⟨hb5, hn5, hs5⟩
  have hx5 := hx4.below hb5 hx4.lt
  have HB5 := Lib.hid (HB4.out.trans (hb5.mono (by omega)))
  have hz5 := hb5.size
  clear hx4 HB4 hb5
  have HQ0 := Lib.hid (refE_encF x)
  cases hE : encF x with
  | none =>
    obtain rfl := hn5 hE
    have HN := Lib.hid (HQ0.out.trans hE)
    clear hn5 hs5 hE
    go_wp2_with (refine wpl_load rfl _ _ rfl w.heap.size rfl 32 ca _ hx5 Try.underlying32 rfl (crt_info Hs.out) ?_)
    refine (HR.out HSm.out w5 HB5.out).mono ?_
    rintro e w6 ⟨hb6, hn6, _⟩
    obtain ⟨A6, m6, c6, rfl⟩ := hn6 HN.out
    have HB6 := Lib.hid (HB5.out.trans (hb6.mono (by omega)))
    clear hb6 hn6 hx5
    go_wp2_with fail
    go_ret
    exact ⟨rfl, HB6.out⟩
  | some b =>
  obtain ⟨A5, c5, rfl, hl5, hC5⟩ := hs5 b hE
  have HE := Lib.hid hE
  have HN := Lib.hid (HQ0.out.trans hE)
  have HC5 := Lib.hid hC5
  have HL5 := Lib.hid hl5
  clear hn5 hs5 hE hC5 hl5
  go_wp2_with (refine wpl_load rfl _ _ rfl w.heap.size rfl 32 ca _ hx5 Try.underlying32 rfl (crt_info Hs.out) ?_)
  refine (HR.out HSm.out w5 HB5.out).mono ?_
  rintro e w6 ⟨hb6, _, hs6⟩
  obtain ⟨A6, c6, rfl, hC6⟩ := hs6 b HN.out
  have hx6 := hx5.below hb6 hx5.lt
  have HB6 := Lib.hid (HB5.out.trans (hb6.mono (by omega)))
  have HC56 := Lib.hid ((HC5.out.below hb6).more hb6.size)
  have HC6 := Lib.hid hC6
  have hz6 := hb6.size
  have HL := Lib.hid (encF_len HE.out)
  clear hx5 HB5 hb6 hs6 hC6
  go_wp2_with fail
  refine (decode_any A5 b c5 w6 (encF_bytes HE.out) HL5.out HC56.out (by have := HL.out; omega)).mono ?_
  rintro e w7 ⟨hb7, _, hs7⟩
  obtain ⟨V, rfl, hV⟩ := hs7 x (dec_enc HE.out)
  have hx7 := hx6.below hb7 hx6.lt
  have HB7 := Lib.hid (HB6.out.trans (hb7.mono (by omega)))
  have HC57 := Lib.hid (HC56.out.below hb7)
  have HC67 := Lib.hid (HC6.out.below hb7)
  have HV7 := Lib.hid hV
  have hz7 := hb7.size
  clear hx6 HB6 hb7 hs7 hV HC56 HC6
  unfold crtVal crtCells
  go_wp2_with fail
  generalize hcells : #[Value.int .i64 x.k, .slice V.a1 x.ord.length V.c1, .slice V.a2 x.outs.length V.c2, .slice V.a3 x.turn.length V.c3, .int .i64 x.outer, .slice V.a5 x.pts.length V.c5, .slice V.a6 x.lines.length V.c6, .slice V.a7 x.b0.length V.c7, .slice V.a8 x.b1.length V.c8, .slice V.a9 x.b2.length V.c9, .slice V.a10 x.b3.length V.c10, .slice V.a11 x.edges.length V.c11] = cells at *
  have Hcells := Lib.hid (show crtCells V x = cells from hcells)
  clear hcells
  have hb8 := (Below.refl w7.heap.size w7).alloc (Nat.le_refl _) (.cells cells 39)
  have hy8 := Lib.hid (blk_new' w7 w7.heap.size 39 cells rfl)
  have hx8 := hx7.below hb8 hx7.lt
  have hz8 : (w7.alloc (.cells cells 39)).heap.size = w7.heap.size + 1 := by simp
  have HB8 := Lib.hid (HB7.out.trans (hb8.mono HB7.out.size))
  have HC58 := Lib.hid ((HC57.out.more (show w6.heap.size ≤ w7.heap.size from hz7)).below hb8)
  have HC68 := Lib.hid ((HC67.out.more (show w6.heap.size ≤ w7.heap.size from hz7)).below hb8)
  have HV8 := Lib.hid (HV7.out.below hb8)
  generalize hw8 : w7.alloc (.cells cells 39) = w8 at *
  have Hy8 := hy8
  have HHx8 := Lib.hid hx8
  clear hy8 hx8 hw8 hb8 HB7 HC57 HC67 HV7 hx7
  have Hz86 := Lib.hid (show w6.heap.size ≤ w8.drew.heap.size from (show w6.heap.size ≤ w8.heap.size by omega))
  have Hz87 := Lib.hid (show w7.heap.size ≤ w8.drew.heap.size from (show w7.heap.size ≤ w8.heap.size by omega))
  obtain ⟨S, hS⟩ : ∃ S, S = strOfNums b := ⟨_, rfl⟩
  have HSS := Lib.hid hS
  clear hS
  refine R3.wp_region_i 0 [[]] [0, 0, 0, 0, 0, 0, 0, 0, 0, 0, 0, 0, 0, 0, 0, 0, 0, 0, 0, 0]
    [([], .val (.int .i64 0)), ([0], .val (.bool true)), ([1], .val (.bool true)), ([2], .val (.slice A5 b.length c5)), ([2, 3], .val (.string S)), ([2], .val (.slice A6 b.length c6)), ([2, 5], .val (.string S)), ([2, 4, 6], .val (.bool true)), ([2, 7], .val (.bool true)), ([8], .val (.bool true)), ([9], .val (.int .i64 0)), ([9, 10], .val (.bool true)), ([9, 11], .val (.bool true)), ([12], .val (.bool true)), ([13], .val (.agg cells)), ([13, 14], .val (.agg cells)), ([13], .val (.agg ca)), ([13, 15, 16], .val (.bool (decide (x = x)))), ([13, 17], .val (.bool true)), ([18], .val (.bool true))] [19] (by kernel_rfl) (by kernel_rfl) (fun us => ?_) ?_
  · refine R3.pgo_pure _ rfl rfl (fun wv hw hu => ⟨.int .i64 0, ?_, rfl⟩) ?_
    · have tok := True.intro
      clear hw hu
      go_simp
    refine R3.pgo_pure _ rfl rfl (fun wv hw hu => ⟨.bool true, ?_, rfl⟩) ?_
    · have tok := True.intro
      have h0 : us 0 = .int .i64 0 := hu.1
      clear hw hu
      go_simp
    refine R3.pgo_pure _ rfl rfl (fun wv hw hu => ⟨.bool true, ?_, rfl⟩) ?_
    · have tok := True.intro
      have h1 : us 1 = .bool true := hu.1
      clear hw hu
      go_simp
    refine pgo_gval _ 2 40 true rfl rfl rfl (by simp [put_size]) (fun wv hu => by
        have hg : us 2 = .bool true := hu.1
        exact (by repeat (first | (with_reducible exact (put_eval_same _ _ _ (by simp [put_size])).trans hg) | (with_reducible refine put_eval _ _ _ _ _ (by decide) ?_)))) (fun wv hw hu => ⟨.slice A5 b.length c5, wv, ?_, Evo.refl _ _ _, rfl⟩) ?_
    · have tok := True.intro
      have h2 : us 2 = .bool true := hu.1
      clear hw hu
      go_simp
    refine pgo_gval _ 2 40 true rfl rfl rfl (by simp [put_size]) (fun wv hu => by
        have hg : us 2 = .bool true := hu.1
        exact (by repeat (first | (with_reducible exact (put_eval_same _ _ _ (by simp [put_size])).trans hg) | (with_reducible refine put_eval _ _ _ _ _ (by decide) ?_)))) (fun wv hw hu => ⟨.string S, wv, ?_, Evo.refl _ _ _, rfl⟩) ?_
    · have tok := True.intro
      have h2 : us 2 = .bool true := hu.1
      have h3 : us 3 = .slice A5 b.length c5 := hu.2.1
      have hcv := conv_bytes wv (HC58.out.below (below_undrew (evo_nil (by kernel_rfl) hw)|>.mono Hz87.out)) b.length c5 rfl
      rw [← HSS.out] at hcv
      clear hw hu
      go_simp
    refine pgo_gval _ 2 40 true rfl rfl rfl (by simp [put_size]) (fun wv hu => by
        have hg : us 2 = .bool true := hu.1
        exact (by repeat (first | (with_reducible exact (put_eval_same _ _ _ (by simp [put_size])).trans hg) | (with_reducible refine put_eval _ _ _ _ _ (by decide) ?_)))) (fun wv hw hu => ⟨.slice A6 b.length c6, wv, ?_, Evo.refl _ _ _, rfl⟩) ?_
    · have tok := True.intro
      have h2 : us 2 = .bool true := hu.1
      clear hw hu
      go_simp
    refine pgo_gval _ 2 40 true rfl rfl rfl (by simp [put_size]) (fun wv hu => by
        have hg : us 2 = .bool true := hu.1
        exact (by repeat (first | (with_reducible exact (put_eval_same _ _ _ (by simp [put_size])).trans hg) | (with_reducible refine put_eval _ _ _ _ _ (by decide) ?_)))) (fun wv hw hu => ⟨.string S, wv, ?_, Evo.refl _ _ _, rfl⟩) ?_
    · have tok := True.intro
      have h2 : us 2 = .bool true := hu.1
      have h5 : us 5 = .slice A6 b.length c6 := hu.2.1
      have hcv := conv_bytes wv (HC68.out.below (below_undrew (evo_nil (by kernel_rfl) hw)|>.mono Hz87.out)) b.length c6 rfl
      rw [← HSS.out] at hcv
      clear hw hu
      go_simp
    refine pgo_gval _ 2 40 true rfl rfl rfl (by simp [put_size]) (fun wv hu => by
        have hg : us 2 = .bool true := hu.1
        exact (by repeat (first | (with_reducible exact (put_eval_same _ _ _ (by simp [put_size])).trans hg) | (with_reducible refine put_eval _ _ _ _ _ (by decide) ?_)))) (fun wv hw hu => ⟨.bool true, wv, ?_, Evo.refl _ _ _, rfl⟩) ?_
    · have tok := True.intro
      have h2 : us 2 = .bool true := hu.1
      have h4 : us 4 = .string S := hu.2.1
      have h6 : us 6 = .string S := hu.2.2.1
      clear hw hu
      go_simp
    refine R3.pgo_pure _ rfl rfl (fun wv hw hu => ⟨.bool true, ?_, rfl⟩) ?_
    · have tok := True.intro
      have h2 : us 2 = .bool true := hu.1
      have h7 : us 7 = .bool true := hu.2.1
      clear hw hu
      go_simp
    refine R3.pgo_pure _ rfl rfl (fun wv hw hu => ⟨.bool true, ?_, rfl⟩) ?_
    · have tok := True.intro
      have h8 : us 8 = .bool true := hu.1
      clear hw hu
      go_simp
    refine pgo_gval _ 9 47 true rfl rfl rfl (by simp [put_size]) (fun wv hu => by
        have hg : us 9 = .bool true := hu.1
        exact (by repeat (first | (with_reducible exact (put_eval_same _ _ _ (by simp [put_size])).trans hg) | (with_reducible refine put_eval _ _ _ _ _ (by decide) ?_)))) (fun wv hw hu => ⟨.int .i64 0, wv, ?_, Evo.refl _ _ _, rfl⟩) ?_
    · have tok := True.intro
      have h9 : us 9 = .bool true := hu.1
      clear hw hu
      go_simp
    refine pgo_gval _ 9 47 true rfl rfl rfl (by simp [put_size]) (fun wv hu => by
        have hg : us 9 = .bool true := hu.1
        exact (by repeat (first | (with_reducible exact (put_eval_same _ _ _ (by simp [put_size])).trans hg) | (with_reducible refine put_eval _ _ _ _ _ (by decide) ?_)))) (fun wv hw hu => ⟨.bool true, wv, ?_, Evo.refl _ _ _, rfl⟩) ?_
    · have tok := True.intro
      have h9 : us 9 = .bool true := hu.1
      have h10 : us 10 = .int .i64 0 := hu.2.1
      clear hw hu
      go_simp
    refine R3.pgo_pure _ rfl rfl (fun wv hw hu => ⟨.bool true, ?_, rfl⟩) ?_
    · have tok := True.intro
      have h9 : us 9 = .bool true := hu.1
      have h11 : us 11 = .bool true := hu.2.1
      clear hw hu
      go_simp
    refine R3.pgo_pure _ rfl rfl (fun wv hw hu => ⟨.bool true, ?_, rfl⟩) ?_
    · have tok := True.intro
      have h12 : us 12 = .bool true := hu.1
      clear hw hu
      go_simp
    refine pgo_gval _ 13 51 true rfl rfl rfl (by simp [put_size]) (fun wv hu => by
        have hg : us 13 = .bool true := hu.1
        exact (by repeat (first | (with_reducible exact (put_eval_same _ _ _ (by simp [put_size])).trans hg) | (with_reducible refine put_eval _ _ _ _ _ (by decide) ?_)))) (fun wv hw hu => ⟨.agg cells, wv, ?_, Evo.refl _ _ _, rfl⟩) ?_
    · have tok := True.intro
      have h13 : us 13 = .bool true := hu.1
      have hbv := Hy8.out.below (below_undrew (evo_nil (by kernel_rfl) hw)) Hy8.out.lt
      exact run_load_row _ _ rfl w7.heap.size (by (repeat (with_reducible refine put_eval _ _ _ _ _ (by decide) ?_)); rfl) 39 cells _ hbv Try.underlying39 rfl (cert_info (by rw [← Hcells.out]; rfl))
    refine pgo_gcall _ 13 51 true rfl rfl rfl (by simp [put_size]) (fun wv hu => by
        have hg : us 13 = .bool true := hu.1
        exact (by repeat (first | (with_reducible exact (put_eval_same _ _ _ (by simp [put_size])).trans hg) | (with_reducible refine put_eval _ _ _ _ _ (by decide) ?_)))) 14 #[.agg cells] (fun wv hw hu => ?_) ?_
    · have tok := True.intro
      have h13 : us 13 = .bool true := hu.1
      have h14 : us 14 = .agg cells := hu.2.1
      have hbv := evo_nil (by kernel_rfl) hw
      refine ⟨?_, (by rw [← Hcells.out]; exact (told_any V x wv).mono fun e w'' he => ⟨_, he.1, Evo.of_below he.2, rfl⟩)⟩
      clear hw hu hbv
      go_simp
    refine pgo_gval _ 13 51 true rfl rfl rfl (by simp [put_size]) (fun wv hu => by
        have hg : us 13 = .bool true := hu.1
        exact (by repeat (first | (with_reducible exact (put_eval_same _ _ _ (by simp [put_size])).trans hg) | (with_reducible refine put_eval _ _ _ _ _ (by decide) ?_)))) (fun wv hw hu => ⟨.agg ca, wv, ?_, Evo.refl _ _ _, rfl⟩) ?_
    · have tok := True.intro
      have h13 : us 13 = .bool true := hu.1
      have hbv := HHx8.out.below (below_undrew (evo_nil (by kernel_rfl) hw)) HHx8.out.lt
      exact run_load_row _ _ rfl w.heap.size (by (repeat (with_reducible refine put_eval _ _ _ _ _ (by decide) ?_)); rfl) 32 ca _ hbv Try.underlying32 rfl (crt_info Hs.out)
    refine pgo_gcall _ 13 51 true rfl rfl rfl (by simp [put_size]) (fun wv hu => by
        have hg : us 13 = .bool true := hu.1
        exact (by repeat (first | (with_reducible exact (put_eval_same _ _ _ (by simp [put_size])).trans hg) | (with_reducible refine put_eval _ _ _ _ _ (by decide) ?_)))) 13 #[.agg cells, .agg ca] (fun wv hw hu => ?_) ?_
    · have tok := True.intro
      have h13 : us 13 = .bool true := hu.1
      have h15 : us 15 = .agg cells := hu.2.1
      have h16 : us 16 = .agg ca := hu.2.2.1
      have hbv := evo_nil (by kernel_rfl) hw
      refine ⟨?_, (by rw [← Hcells.out]; exact (HS.out HSm.out V wv (HB8.out.trans (below_undrew (hbv.mono HB8.out.size))) ((HV8.out.below (below_undrew (hbv.mono Hz87.out))).more (by have := hbv.size; have e : w8.drew.heap.size = w8.heap.size := rfl; omega))).mono fun e w'' he => ⟨_, he.1, Evo.of_below he.2, rfl⟩)⟩
      clear hw hu hbv
      go_simp
    refine R3.pgo_pure _ rfl rfl (fun wv hw hu => ⟨.bool true, ?_, rfl⟩) ?_
    · have tok := True.intro
      have h13 : us 13 = .bool true := hu.1
      have h17 : us 17 = .bool (decide (x = x)) := hu.2.1
      rw [decide_eq_true rfl] at h17
      clear hw hu
      go_simp
    refine R3.pgo_pure _ rfl rfl (fun wv hw hu => ⟨.bool true, ?_, rfl⟩) ?_
    · have tok := True.intro
      have h18 : us 18 = .bool true := hu.1
      clear hw hu
      go_simp
    trivial
  · intro us w' hw hu
    have h19 : us 19 = .bool true := hu.1
    have hbl := HB8.out.trans (below_undrew ((evo_nil (by kernel_rfl) hw).mono HB8.out.size))
    have HBL := Lib.hid hbl
    clear hw hu hbl
    simp only [lexL]
    go_simp
    go_wp2_with fail
    go_ret
    exact ⟨rfl, HBL.out⟩
end Go.Proofs.Ytmlbjcngboegfaa
