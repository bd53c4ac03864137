/-
  Law PosetGrows: walked. (Its region 5 printed by a program.) Written by an AI agent.
-/
import Derived.Test.YtnjikhhegebkiaaDoorGrwLaw
import Derived.Test.YtnjikhhegebkiaaDoorDilw
namespace Go.Proofs.YtnjikhhegebkiaaDoor
open Go.RowKit

/-- the graph with an edge more, while the law goes -/
structure StX (w wc : World) (n : Int) (gx : Nat) (A : Option Addr) (cap : Nat) (es : List (Int × Int)) : Prop where
  b : Blk wc gx 24 #[.int .i64 n, .slice A es.length cap]
  es : Cells wc wc.heap.size A (edgeCells es)
theorem StX.next {w wc w' : World} {n : Int} {gx : Nat} {A : Option Addr} {cap : Nat} {es : List (Int × Int)} (h : StX w wc n gx A cap es) (hb : Below wc.heap.size wc w') : StX w w' n gx A cap es :=
  ⟨h.b.below hb h.b.lt, (h.es.below hb).more hb.size⟩
set_option maxRecDepth 20000 in
set_option maxHeartbeats 8000000 in
theorem grows_any (n : Int) (A : Option Addr) (cap : Nat) (es : List (Int × Int)) (a b : Int) (w : World) (hes : Cells w w.heap.size A (edgeCells es)) (hT : Tab w) (hp : 0 < w.heap.size) :
    Calls Tryd.prog 5 #[.agg #[.int .i64 n, .slice A es.length cap], .int .i64 a, .int .i64 b] w (fun e w' => e = .returned (.bool true) ∧ Below w.heap.size w w') := by
  have S1 := Lib.hid (St0.start n cap hes hT hp)
  clear hes hT hp
  go_enter Tryd.func5, Tryd.ntmps5
  go_upto_region 1 with fail
  generalize w.alloc (.cells #[.int .i64 n, .slice A es.length cap] 24) = w1 at *
  go_wp2_with fail
  refine (speaks_any w1 S1.out.tab S1.out.pos).mono ?_
  rintro e w2 ⟨rfl, hb⟩
  have S2 := Lib.hid (S1.out.next hb)
  have g0 := S2.out.g0
  have g1 := S2.out.g1
  clear hb S1
  by_cases hl : (es.length : Int) > 100
  · go_wp2_with fail
    go_ret
    exact ⟨rfl, S2.out.below⟩
  · have hl2 : es.length ≤ 1000 := by omega
    have hl' : ¬ (100 : Int) < es.length := by omega
    go_wp2_with fail
    refine (asked_ref n A cap es w2 S2.out.es hl2).mono ?_
    rintro e w3 ⟨rfl, hb⟩
    have S3 := Lib.hid (S2.out.next hb)
    have g0 := S3.out.g0
    have g1 := S3.out.g1
    clear hb S2
    cases ha : askB n es with
    | false =>
      clear ha
      go_wp2_with fail
      go_ret
      exact ⟨rfl, S3.out.below⟩
    | true =>
      obtain ⟨n, rfl, hn0, hn1, hn2, hin, hord⟩ := ask_parts ha
      have HIN := Lib.hid (show EdgesIn n es from hin)
      have HOR := Lib.hid hord
      have HA := Lib.hid ha
      clear hin hord ha g0 g1
      obtain ⟨pa0, pa1⟩ := mask_bd a
      obtain ⟨pb0, pb1⟩ := mask_bd b
      have hnz : ¬ ((n : Int) = 0) := by omega
      have hpa : 0 ≤ bits .and .i64 a 65535 % (n : Int) ∧ bits .and .i64 a 65535 % (n : Int) < n := ⟨Int.emod_nonneg _ hnz, Int.emod_lt_of_pos _ (by omega)⟩
      have hpb : 0 ≤ bits .and .i64 b 65535 % (n : Int) ∧ bits .and .i64 b 65535 % (n : Int) < n := ⟨Int.emod_nonneg _ hnz, Int.emod_lt_of_pos _ (by omega)⟩
      obtain ⟨p, hp⟩ := Int.eq_ofNat_of_zero_le hpa.1
      obtain ⟨q, hq⟩ := Int.eq_ofNat_of_zero_le hpb.1
      have hp1 : p < n := by omega
      have hq1 : q < n := by omega
      have Hp := Lib.hid hp
      have Hq := Lib.hid hq
      clear hp hq hpa hpb
      go_upto_region 5 with fail
      have b0 := S3.out.g0
      have b1 := S3.out.g1
      have l3 := S3.out.lt
      have hes3 := S3.out.es
      go_cut [7] (fun s7 wc => ∃ (gx : Nat) (A2 : Option Addr) (cap2 : Nat), s7 = .pointer (some ⟨gx, 0, none⟩) ∧ w3.heap.size ≤ gx ∧ Blk wc gx 24 #[.int .i64 n, .slice A2 (es.length + 1) cap2] ∧
        Cells wc wc.heap.size A2 (edgeCells (es ++ [((p : Int), (q : Int))])) ∧ Below w3.heap.size w3 wc)
      case first =>
        refine wp_region_q w3.heap.size [[], [40], [24]] [0, 0, 0, 0, 0, 0, 0, 0, 0, 0, 0, 0, 0, 0, 0, 0, 0, 0, 1, 0, 0, 2]
          [([], .val (.pointer (some ⟨w.heap.size, 0, none⟩))), ([0], .val (.int .i64 n)), ([], .row 40 #[] 0 0), ([], .val (.pointer (some ⟨w.heap.size, 1, none⟩))), ([3], .val (.slice A es.length cap)),
           ([2, 4], .own 40 2 es.length (edgeCells es)), ([], .val (.int .i64 a)), ([6], .val (.int .i64 (bits .and .i64 a 65535))), ([], .val (.pointer (some ⟨w.heap.size, 0, none⟩))), ([8], .val (.int .i64 n)), ([7, 9], .val (.int .i64 p)),
           ([], .val (.int .i64 b)), ([11], .val (.int .i64 (bits .and .i64 b 65535))), ([], .val (.pointer (some ⟨w.heap.size, 0, none⟩))), ([13], .val (.int .i64 n)), ([12, 14], .val (.int .i64 q)), ([10, 15], .val (.agg #[.int .i64 p, .int .i64 q])),
           ([16], .row 40 #[.int .i64 p, .int .i64 q] 1 1), ([5, 17], .own 40 2 (es.length + 1) (edgeCells es ++ [.int .i64 p, .int .i64 q])),
           ([1, 18], .owned 40 2 (es.length + 1) (edgeCells es ++ [.int .i64 p, .int .i64 q]) (fun v => .agg #[.int .i64 n, v])),
           ([], .blk 24 #[.int .i64 0, .slice none 0 0]), ([19, 20], .stored 20 24 40 2 (es.length + 1) (edgeCells es ++ [.int .i64 p, .int .i64 q]) (fun v => #[.int .i64 n, v]))]
          [21] (by kernel_rfl) (by kernel_rfl) (fun us => ?_) ?_
        · have hbB : ∀ wv : World, Evo w3.heap.size (allT [[], [40], [24]]) w3.drew wv → Below w3.heap.size w3 wv := fun _ h => below_undrew' (h.below (Nat.le_refl _))
          have HbB := Lib.hid hbB
          clear hbB
          refine pgo_pure _ rfl rfl (fun wv hw hu => ⟨.pointer (some ⟨w.heap.size, 0, none⟩), ?_, rfl⟩) ?_
          · go_simp
          refine pgo_pure _ rfl rfl (fun wv hw hu => ⟨.int .i64 n, ?_, rfl⟩) ?_
          · have h0 : us 0 = .pointer (some ⟨w.heap.size, 0, none⟩) := hu.1
            have c0 := ((HbB.out _ hw).cell (p := ⟨w.heap.size, 0, none⟩) l3).trans b0
            clear hw hu
            go_simp
          refine pgo_val _ rfl rfl (fun wv hw hu => ⟨.slice (some ⟨wv.heap.size, 0, none⟩) 0 0, wv.alloc (.cells #[] 40), ?_, Evo.of_below ((Below.refl _ _).alloc (Nat.le_refl _) _), ⟨_, rfl, (HbB.out _ hw).size, Blk.new _ _ _⟩⟩) ?_
          · clear hw hu
            go_simp
          refine pgo_pure _ rfl rfl (fun wv hw hu => ⟨.pointer (some ⟨w.heap.size, 1, none⟩), ?_, rfl⟩) ?_
          · go_simp
          refine pgo_pure _ rfl rfl (fun wv hw hu => ⟨.slice A es.length cap, ?_, rfl⟩) ?_
          · have h3 : us 3 = .pointer (some ⟨w.heap.size, 1, none⟩) := hu.1
            have c0 := ((HbB.out _ hw).cell (p := ⟨w.heap.size, 1, none⟩) l3).trans b1
            clear hw hu
            go_simp
          refine pgo_op _ rfl rfl (fun K wv hw hu hK => ?_) ?_
          · obtain ⟨g, h2, hg, hgb⟩ := hu.1
            have h4 : us 4 = .slice A es.length cap := hu.2.1
            refine wpo_app_fresh elemEdge _ _ rfl (by repeat (first | (with_reducible exact (put_eval_same _ _ _ (by simp [put_size])).trans h2) | (with_reducible refine put_eval _ _ _ _ _ (by decide) ?_))) hgb hg (by repeat (first | (with_reducible exact (put_eval_same _ _ _ (by simp [put_size])).trans h4) | (with_reducible refine put_eval _ _ _ _ _ (by decide) ?_))) (hes3.keep (w' := wv) (fun p hp => (HbB.out _ hw).cell (by omega))) (edgeCells_length es |>.trans (Nat.mul_comm _ _)) (by omega) (by omega) ((HbB.out _ hw).size) (fun A' c' w' ho hb => ?_)
            exact hK _ _ (Evo.of_below hb) ⟨_, _, rfl, ho⟩
          refine pgo_pure _ rfl rfl (fun wv hw hu => ⟨.int .i64 a, ?_, rfl⟩) ?_
          · go_simp
          refine pgo_pure _ rfl rfl (fun wv hw hu => ⟨.int .i64 (bits .and .i64 a 65535), ?_, rfl⟩) ?_
          · have h6 : us 6 = .int .i64 a := hu.1
            clear hw hu
            go_simp
          refine pgo_pure _ rfl rfl (fun wv hw hu => ⟨.pointer (some ⟨w.heap.size, 0, none⟩), ?_, rfl⟩) ?_
          · go_simp
          refine pgo_pure _ rfl rfl (fun wv hw hu => ⟨.int .i64 n, ?_, rfl⟩) ?_
          · have h8 : us 8 = .pointer (some ⟨w.heap.size, 0, none⟩) := hu.1
            have c0 := ((HbB.out _ hw).cell (p := ⟨w.heap.size, 0, none⟩) l3).trans b0
            clear hw hu
            go_simp
          refine pgo_pure _ rfl rfl (fun wv hw hu => ⟨.int .i64 p, ?_, rfl⟩) ?_
          · have h7 : us 7 = .int .i64 (bits .and .i64 a 65535) := hu.1
            have h9 : us 9 = .int .i64 n := hu.2.1
            have hmod : (bits .and .i64 a 65535).tmod (n : Int) = p := by rw [Int.tmod_eq_emod_of_nonneg (by omega)]; exact Hp.out
            clear hw hu
            go_simp
            omega
          refine pgo_pure _ rfl rfl (fun wv hw hu => ⟨.int .i64 b, ?_, rfl⟩) ?_
          · go_simp
          refine pgo_pure _ rfl rfl (fun wv hw hu => ⟨.int .i64 (bits .and .i64 b 65535), ?_, rfl⟩) ?_
          · have h11 : us 11 = .int .i64 b := hu.1
            clear hw hu
            go_simp
          refine pgo_pure _ rfl rfl (fun wv hw hu => ⟨.pointer (some ⟨w.heap.size, 0, none⟩), ?_, rfl⟩) ?_
          · go_simp
          refine pgo_pure _ rfl rfl (fun wv hw hu => ⟨.int .i64 n, ?_, rfl⟩) ?_
          · have h13 : us 13 = .pointer (some ⟨w.heap.size, 0, none⟩) := hu.1
            have c0 := ((HbB.out _ hw).cell (p := ⟨w.heap.size, 0, none⟩) l3).trans b0
            clear hw hu
            go_simp
          refine pgo_pure _ rfl rfl (fun wv hw hu => ⟨.int .i64 q, ?_, rfl⟩) ?_
          · have h12 : us 12 = .int .i64 (bits .and .i64 b 65535) := hu.1
            have h14 : us 14 = .int .i64 n := hu.2.1
            have hmod : (bits .and .i64 b 65535).tmod (n : Int) = q := by rw [Int.tmod_eq_emod_of_nonneg (by omega)]; exact Hq.out
            clear hw hu
            go_simp
            omega
          refine pgo_pure _ rfl rfl (fun wv hw hu => ⟨.agg #[.int .i64 p, .int .i64 q], ?_, rfl⟩) ?_
          · have h10 : us 10 = .int .i64 p := hu.1
            have h15 : us 15 = .int .i64 q := hu.2.1
            clear hw hu
            go_simp
          refine pgo_val _ rfl rfl (fun wv hw hu => ⟨.slice (some ⟨wv.heap.size, 0, none⟩) 1 1, wv.alloc (.cells #[.int .i64 p, .int .i64 q] 40), ?_, Evo.of_below ((Below.refl _ _).alloc (Nat.le_refl _) _), ⟨_, rfl, (HbB.out _ hw).size, Blk.new _ _ _⟩⟩) ?_
          · have h16 : us 16 = .agg #[.int .i64 p, .int .i64 q] := hu.1
            clear hw hu
            go_simp
          refine pgo_op _ rfl rfl (fun K wv hw hu hK => ?_) ?_
          · obtain ⟨A1, c1, h5, ho5⟩ := hu.1
            rw [h5] at ho5
            obtain ⟨g, h17, hg, hgb⟩ := hu.2.1
            have hgc : Cells wv (g + 1) (some ⟨g, 0, none⟩) [.int .i64 p, .int .i64 q] := Cells.of_blk (R := #[]) (by simpa using hgb)
            refine wpo_app_any elemEdge _ _ rfl (by repeat (first | (with_reducible exact (put_eval_same _ _ _ (by simp [put_size])).trans h5) | (with_reducible refine put_eval _ _ _ _ _ (by decide) ?_))) ho5 (by repeat (first | (with_reducible exact (put_eval_same _ _ _ (by simp [put_size])).trans h17) | (with_reducible refine put_eval _ _ _ _ _ (by decide) ?_))) hgc rfl rfl (by omega) (by omega) ((HbB.out _ hw).size) (fun v' w' ho hgr _ => ?_)
            obtain ⟨A2, c2, rfl⟩ := own_slice ho
            exact hK _ _ (Evo.of_grown ho5 hgr (by simp) (Nat.le_refl _)) ⟨_, _, rfl, ho⟩
          refine pgo_pure _ rfl rfl (fun wv hw hu => ?_) ?_
          · have h1 : us 1 = .int .i64 n := hu.1
            obtain ⟨A1, c1, h18, ho18⟩ := hu.2.1
            rw [h18] at ho18
            refine ⟨.agg #[.int .i64 n, .slice A1 (es.length + 1) c1], ?_, A1, c1, rfl, ho18⟩
            clear hw hu ho18
            go_simp
          refine pgo_val _ rfl rfl (fun wv hw hu => ⟨.pointer (some ⟨wv.heap.size, 0, none⟩), wv.alloc (.cells #[.int .i64 0, .slice none 0 0] 24), ?_, Evo.of_below ((Below.refl _ _).alloc (Nat.le_refl _) _), ⟨_, rfl, (HbB.out _ hw).size, Blk.new _ _ _⟩⟩) ?_
          · clear hw hu
            go_simp
          refine pgo_skip _ rfl rfl (fun wv hw hu => ?_) ?_
          · obtain ⟨A1, c1, h19, ho⟩ := hu.1
            obtain ⟨g, h20, hg, hgb⟩ := hu.2.1
            have z0 := hgb.cell 0
            have z1 := (hgb.set_ 0 (.int .i64 n)).cell 1
            have f0 := hgb.frozen 0
            have f1 := (hgb.set_ 0 (.int .i64 n)).frozen 1
            refine ⟨(wv.setCell ⟨g, 0, none⟩ (.int .i64 n)).setCell ⟨g, 1, none⟩ (.slice A1 (es.length + 1) c1), ?_, (Evo.set_ hgb (by simp) hg 0 _).trans (Evo.set_ (hgb.set_ 0 (.int .i64 n)) (by simp) hg 1 _), g, A1, c1, h20, hg, (hgb.set_ 0 (.int .i64 n)).set_ 1 (.slice A1 (es.length + 1) c1), ?_⟩
            · clear hw hu ho hgb
              simp only [List.getElem?_toArray, List.getElem?_cons_zero] at z0 z1
              go_simp
            · exact own_set (own_set ho hgb (by decide) _ _) (hgb.set_ 0 (.int .i64 n)) (by decide) _ _
          trivial
        · intro us w' hw hu
          obtain ⟨g, A1, c1, h20, hg, hgb, ho⟩ := hu.1
          have hcs := Cells.of_own ho
          have hbl := below_undrew' (hw.below (Nat.le_refl _))
          have e1 : edgeCells (es ++ [((p : Int), (q : Int))]) = edgeCells es ++ [.int .i64 p, .int .i64 q] := by simp [edgeCells]
          clear hw hu
          simp only [lexL]
          go_simp
          go_wp2_with fail
          go_meet
          exact ⟨g, A1, c1, rfl, hg, hgb, by rw [e1]; exact hcs, hbl⟩
      obtain ⟨gx, A2, cap2, rfl, hgx, hbx, hcx, hbc⟩ := hcut
      have S4 := Lib.hid (S3.out.next hbc)
      obtain ⟨fs, hfs⟩ : ∃ fs, fs = es ++ [((p : Int), (q : Int))] := ⟨_, rfl⟩
      have hfl : fs.length = es.length + 1 := by rw [hfs]; simp
      rw [← hfl] at hbx
      rw [← hfs] at hcx
      have X4 := Lib.hid (show StX w wc n gx A2 cap2 fs from ⟨hbx, hcx⟩)
      have HFS := Lib.hid hfs
      have hf1 : fs.length ≤ 1000 := by omega
      have HINX := Lib.hid (show EdgesIn n fs by rw [hfs]; exact (show InN n es from HIN.out).snoc hp1 hq1)
      have x0 : wc.cell? ⟨gx, 0, none⟩ = some (.int .i64 n) := hbx.cell 0
      have x1 : wc.cell? ⟨gx, 1, none⟩ = some (.slice A2 fs.length cap2) := hbx.cell 1
      clear hgx hbx hcx hbc hfs S3 b0 b1 l3 hes3 hfl
      go_wp2_with fail
      refine (asked_ref n A2 cap2 fs wc X4.out.es hf1).mono ?_
      rintro e w5 ⟨rfl, hb⟩
      have S5 := Lib.hid (S4.out.next hb)
      have X5 := Lib.hid (X4.out.next hb)
      have x0 : w5.cell? ⟨gx, 0, none⟩ = some (.int .i64 n) := X5.out.b.cell 0
      have x1 : w5.cell? ⟨gx, 1, none⟩ = some (.slice A2 fs.length cap2) := X5.out.b.cell 1
      clear hb S4 X4
      cases hax : askB n fs with
      | false =>
        have HAX := Lib.hid hax
        clear hax
        go_wp2_with fail
        refine (levels_any n A2 cap2 fs w5 X5.out.es).mono ?_
        rintro e w6 ⟨v6, rfl, hb, _, hn6⟩
        have hv6 := hn6 HAX.out
        subst hv6
        rw [show errOf (askB n fs) = 1 by rw [HAX.out]; rfl]
        have S6 := Lib.hid (S5.out.next hb)
        clear hb hn6
        go_wp2_with fail
        go_ret
        exact ⟨rfl, S6.out.below⟩
      | true =>
        have HAX := Lib.hid hax
        obtain ⟨n', hnn, _, _, _, _, hordx⟩ := ask_parts hax
        have hnn : n = n' := by omega
        subst hnn
        have HORX := Lib.hid hordx
        have g0 := S5.out.g0
        have g1 := S5.out.g1
        clear hax hordx
        go_wp2_with fail
        refine (levels_any n A cap es w5 S5.out.es).mono ?_
        rintro e w6 ⟨v6, rfl, hb6, hy, _⟩
        have ho6 := hy HA.out
        simp only [Int.toNat_natCast] at ho6
        obtain ⟨A6, c6, rfl⟩ := own_slice ho6
        have HLV := Lib.hid (levF_lev HIN.out HOR.out)
        have hLl := levF_length n es
        obtain ⟨L, hL⟩ : ∃ L, L = levF n es := ⟨_, rfl⟩
        rw [← hL] at ho6 HLV hLl
        have HC6 := Lib.hid (show Cells w6 w6.heap.size A6 (intCells L) by rw [← hLl] at ho6; exact Cells.of_own ho6)
        have S6 := Lib.hid (S5.out.next hb6)
        have X6 := Lib.hid (X5.out.next hb6)
        have x0 : w6.cell? ⟨gx, 0, none⟩ = some (.int .i64 n) := X6.out.b.cell 0
        have x1 : w6.cell? ⟨gx, 1, none⟩ = some (.slice A2 fs.length cap2) := X6.out.b.cell 1
        rw [show errOf (askB (n : Int) es) = 0 by rw [HA.out]; rfl]
        clear hy ho6 hb6 hL S5 X5
        go_wp2_with fail
        refine (levels_any n A2 cap2 fs w6 X6.out.es).mono ?_
        rintro e w7 ⟨v7, rfl, hb7, hy, _⟩
        have ho7 := hy HAX.out
        simp only [Int.toNat_natCast] at ho7
        obtain ⟨A7, c7, rfl⟩ := own_slice ho7
        have HLX := Lib.hid (levF_lev HINX.out HORX.out)
        have hMl := levF_length n fs
        obtain ⟨M, hM⟩ : ∃ M, M = levF n fs := ⟨_, rfl⟩
        rw [← hM] at ho7 HLX hMl
        have HC7 := Lib.hid (show Cells w7 w7.heap.size A7 (intCells M) by rw [← hMl] at ho7; exact Cells.of_own ho7)
        have HC67 := Lib.hid ((HC6.out.below hb7).more hb7.size)
        have HLE := Lib.hid (fun v (hv : v < n) => lev_grows HIN.out HLV.out (by have := HLX.out; rw [HFS.out] at this; exact this) (L.getD v 0).toNat v hv (show L.getD v 0 ≤ ((L.getD v 0).toNat : Int) from by have h0 : 0 ≤ L.getD v 0 := HLV.out.nn v; omega))
        have S7 := Lib.hid (S6.out.next hb7)
        have X7 := Lib.hid (X6.out.next hb7)
        have g0 := S7.out.g0
        have g1 := S7.out.g1
        rw [show errOf (askB (n : Int) fs) = 0 by rw [HAX.out]; rfl]
        clear hy ho7 hb7 hM S6 X6 HC6
        go_wp2_with fail
        refine (apart_any n A cap es w7 S7.out.es S7.out.tab S7.out.pos).mono ?_
        rintro e w8 ⟨v8, rfl, hb8, _, hy⟩
        obtain ⟨T, B, Q, hgr, halt, hov⟩ := hy HA.out
        simp only [Int.toNat_natCast] at hgr halt hov
        have HD := Lib.hid (dilworth HIN.out HOR.out hn1 hgr halt)
        have HGR := Lib.hid hgr
        obtain ⟨u, hu⟩ : ∃ u, u = apartF B Q n := ⟨_, rfl⟩
        rw [← hu] at hov HD
        obtain ⟨A8, c8, rfl⟩ := own_slice hov
        have S8 := Lib.hid (S7.out.next hb8)
        have X8 := Lib.hid (X7.out.next hb8)
        have HC8 := Lib.hid ((HC7.out.below hb8).more hb8.size)
        have HC68 := Lib.hid ((HC67.out.below hb8).more hb8.size)
        have x0 : w8.cell? ⟨gx, 0, none⟩ = some (.int .i64 n) := X8.out.b.cell 0
        have x1 : w8.cell? ⟨gx, 1, none⟩ = some (.slice A2 fs.length cap2) := X8.out.b.cell 1
        rw [show errOf (askB (n : Int) es) = 0 by rw [HA.out]; rfl]
        clear hy hgr halt hov hu hb8 S7 X7 HC7 HC67
        go_wp2_with fail
        refine (apart_any n A2 cap2 fs w8 X8.out.es S8.out.tab S8.out.pos).mono ?_
        rintro e w9 ⟨v9, rfl, hb9, _, hy⟩
        obtain ⟨T', B', Q', hgr', halt', hov⟩ := hy HAX.out
        simp only [Int.toNat_natCast] at hgr' halt' hov
        have HDX := Lib.hid (dilworth HINX.out HORX.out hn1 hgr' halt')
        have HGX := Lib.hid hgr'
        obtain ⟨u', hu⟩ : ∃ u', u' = apartF B' Q' n := ⟨_, rfl⟩
        rw [← hu] at hov HDX
        obtain ⟨A9, c9, rfl⟩ := own_slice hov
        have S9 := Lib.hid (S8.out.next hb9)
        have X9 := Lib.hid (X8.out.next hb9)
        have HC9 := Lib.hid ((HC8.out.below hb9).more hb9.size)
        have HC69 := Lib.hid ((HC68.out.below hb9).more hb9.size)
        have x0 : w9.cell? ⟨gx, 0, none⟩ = some (.int .i64 n) := X9.out.b.cell 0
        have x1 : w9.cell? ⟨gx, 1, none⟩ = some (.slice A2 fs.length cap2) := X9.out.b.cell 1
        rw [show errOf (askB (n : Int) fs) = 0 by rw [HAX.out]; rfl]
        clear hy hgr' halt' hov hu hb9 S8 X8 HC8 HC68
        go_wp2_with fail
        refine (chains_any n A2 cap2 fs w9 X9.out.es S9.out.tab S9.out.pos).mono ?_
        rintro e w10 ⟨v10, rfl, hb10, _, hy⟩
        obtain ⟨T2, vs, hgr2, hov, hrows⟩ := hy HAX.out
        simp only [Int.toNat_natCast] at hgr2 hrows
        have hTT : T2 = T' := grown_unique (show InN n fs from HINX.out) hgr2 HGX.out
        subst hTT
        have hvl := hrows.len
        rw [HDX.out.len] at hvl
        obtain ⟨A10, c10, rfl⟩ := own_slice hov
        have S10 := Lib.hid (S9.out.next hb10)
        have HC10 := Lib.hid ((HC9.out.below hb10).more hb10.size)
        have HC610 := Lib.hid ((HC69.out.below hb10).more hb10.size)
        have hle : u'.length ≤ u.length := by
          have e := HFS.out
          subst e
          exact grown_le HIN.out HINX.out HOR.out hn1 HGR.out hgr2 HD.out HDX.out
        rw [show errOf (askB (n : Int) fs) = 0 by rw [HAX.out]; rfl, hvl]
        have hnn : ((n : Int) != (n : Int)) = false := by simp
        clear hy hgr2 hov hrows hb10 S9 X9 HC9 HC69 x0 x1 g0 g1 hvl
        go_wp2_with fail
        go_loopg [114] n (fun gk s114 wr => ∃ i m : Nat, s114 = .int .i64 i ∧ i ≤ n ∧ gk = n - i ∧ wr = w10.drewN m)
        case atStart => exact ⟨0, 0, rfl, Nat.zero_le _, rfl, rfl⟩
        case round =>
          obtain ⟨i, m, rfl, hi, hk, hwr⟩ := hrel
          have Hk := Lib.hid hk
          have Hwr := Lib.hid hwr
          clear hk
          by_cases hin2 : i < n
          · have hin' : (i : Int) < n := by omega
            obtain ⟨b1, o1, rfl, _, hc1⟩ := HC610.out.ints (by omega)
            obtain ⟨b2, o2, rfl, _, hc2⟩ := HC10.out.ints (by omega)
            have y1 : wr.cell? ⟨b1, o1 + i, none⟩ = some (.int .i64 (L.getD i 0)) := by
              rw [hwr, List.getD_eq_getElem?_getD, List.getElem?_eq_getElem (by omega)]; exact hc1 i (by omega)
            have y2 : wr.cell? ⟨b2, o2 + i, none⟩ = some (.int .i64 (M.getD i 0)) := by
              rw [hwr, List.getD_eq_getElem?_getD, List.getElem?_eq_getElem (by omega)]; exact hc2 i (by omega)
            have hle2 : L.getD i 0 ≤ M.getD i 0 := HLE.out i hin2
            generalize L.getD i 0 = x at *
            generalize M.getD i 0 = y at *
            have hle3 : ¬ y < x := by omega
            clear hc1 hc2 hwr hle2
            go_wp2_with fail
            go_quiet (fail)
            go_wp2_with fail
            go_roundg (n - (i + 1))
            case measure => rw [Hk.out]; omega
            case rel => exact ⟨i + 1, m + nq, by go_num, by omega, rfl, by rw [Hwr.out]; simp⟩
          · have hin' : ¬ (i : Int) < n := by omega
            have hle2 : (u'.length : Int) ≤ u.length := by omega
            have HSF := Lib.hid (show Below w.heap.size w wr by rw [hwr]; exact below_drewN S10.out.below m)
            clear hwr
            go_wp2_with fail
            go_ret
            exact ⟨rfl, HSF.out⟩
end Go.Proofs.YtnjikhhegebkiaaDoor
