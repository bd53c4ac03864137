import Derived.Test.YthdifhfmgmmljaaSpeaks
import Derived.Test.YthdifhfmgmmljaaApp
import Derived.Test.YthdifhfmgmmljaaRegion2
import Derived.Test.YthdifhfmgmmljaaReachLaw
namespace Go.Proofs.Ythdifhfmgmmljaa
open Go.RowKit

theorem mask_bd (a : Int) : 0 ≤ bits .and .i64 a 65535 ∧ bits .and .i64 a 65535 ≤ 65535 := by
  show 0 ≤ IntKind.i64.wrap ((BitVec.ofInt 64 a &&& BitVec.ofInt 64 65535).toNat : Int) ∧ IntKind.i64.wrap ((BitVec.ofInt 64 a &&& BitVec.ofInt 64 65535).toNat : Int) ≤ 65535
  have h : (BitVec.ofInt 64 a &&& BitVec.ofInt 64 65535).toNat ≤ 65535 := by
    rw [BitVec.toNat_and]
    exact Nat.le_trans Nat.and_le_right (by decide)
  rw [IntKind.wrap_i64]
  omega

def BoolPost (b : Bool) (w : World) (e : Ending) (w' : World) : Prop := e = .returned (.bool b) ∧ Below w.heap.size w w'

theorem from_len (n : Int) (A : Option Addr) (cap L : Nat) (es : List (Int × Int)) (w : World) (hL : es.length = L) (hes : Cells w w.heap.size A (edgeCells es)) :
    Calls Try.prog 13 #[.agg #[.int .i64 n, .slice A L cap]] w (SetsPost (Grown1 false (fun _ => true) n.toNat es) n es w) := by
  subst hL; exact from_any n A cap es w hes
set_option maxHeartbeats 1000000 in
theorem grows_no (n a b : Int) (A : Option Addr) (cap : Nat) (es : List (Int × Int)) (w : World) (hes : Cells w w.heap.size A (edgeCells es)) (h : mayB n es = false ∨ 100 < es.length) :
    Calls Try.prog 4 #[.agg #[.int .i64 n, .slice A es.length cap], .int .i64 a, .int .i64 b] w (BoolPost true w) := by
  go_enter Try.func4, Try.ntmps4
  go_wp2_with fail
  refine (speaks_any _).mono ?_
  rintro e w1 ⟨rfl, hb1⟩
  have b0 := hb1.cell (p := ⟨w.heap.size, 0, none⟩) (by simp)
  have b1 := hb1.cell (p := ⟨w.heap.size, 1, none⟩) (by simp)
  simp only [World.cell?_alloc_new, List.getElem?_toArray, List.getElem?_cons_zero, List.getElem?_cons_succ] at b0 b1
  have hbw := ((Below.refl w.heap.size w).alloc (Nat.le_refl _) (.cells #[.int .i64 n, .slice A es.length cap] 24)).trans (hb1.mono (by simp))
  have l1 : w.heap.size < w1.heap.size := by have := hb1.size; simp at this; omega
  clear hb1
  go_wp2_with fail
  refine (refmay_any n A cap es w1 ((hes.below hbw).more (by omega))).mono ?_
  rintro e w2 ⟨rfl, hb2⟩
  have b1' := (hb2.cell (p := ⟨w.heap.size, 1, none⟩) l1).trans b1
  cases hm : mayB n es with
  | false =>
    clear hm h
    go_wp2_with fail
    go_ret
    exact ⟨rfl, hbw.trans (hb2.mono (by omega))⟩
  | true =>
    have hl : 100 < es.length := h.resolve_left (by rw [hm]; simp)
    clear hm h
    go_wp2_with fail
    go_ret
    exact ⟨rfl, hbw.trans (hb2.mono (by omega))⟩

set_option maxRecDepth 20000 in
set_option maxHeartbeats 4000000 in
theorem grows_yes (n : Nat) (a b : Int) (A : Option Addr) (cap : Nat) (es : List (Int × Int)) (w : World) (hes : Cells w w.heap.size A (edgeCells es)) (hm : mayB n es = true) (hl : es.length ≤ 100) :
    Calls Try.prog 4 #[.agg #[.int .i64 n, .slice A es.length cap], .int .i64 a, .int .i64 b] w (BoolPost true w) := by
  obtain ⟨hn0, hn1, hn2⟩ := may_parts hm
  have Hm := Lib.hid hm; clear hm
  obtain ⟨pa0, pa1⟩ := mask_bd a
  obtain ⟨pb0, pb1⟩ := mask_bd b
  have hnz : ¬ ((n : Int) = 0) := by omega
  go_enter Try.func4, Try.ntmps4
  go_wp2_with fail
  refine (speaks_any _).mono ?_
  rintro e w1 ⟨rfl, hb1⟩
  have b0 := hb1.cell (p := ⟨w.heap.size, 0, none⟩) (by simp)
  have b1 := hb1.cell (p := ⟨w.heap.size, 1, none⟩) (by simp)
  simp only [World.cell?_alloc_new, List.getElem?_toArray, List.getElem?_cons_zero, List.getElem?_cons_succ] at b0 b1
  have hbw := ((Below.refl w.heap.size w).alloc (Nat.le_refl _) (.cells #[.int .i64 n, .slice A es.length cap] 24)).trans (hb1.mono (by simp))
  have l1 : w.heap.size < w1.heap.size := by have := hb1.size; simp at this; omega
  clear hb1
  go_wp2_with fail
  refine (refmay_any n A cap es w1 ((hes.below hbw).more (by omega))).mono ?_
  rintro e w2 ⟨rfl, hb2⟩
  have b0' := (hb2.cell (p := ⟨w.heap.size, 0, none⟩) l1).trans b0
  have b1' := (hb2.cell (p := ⟨w.heap.size, 1, none⟩) l1).trans b1
  have hbw2 := hbw.trans (hb2.mono (Nat.le_of_lt l1))
  have l2 : w.heap.size < w2.heap.size := by have := hb2.size; omega
  rw [Hm.out]
  clear b0 b1 hb2
  go_wp2_with fail
  go_quiet (fail)
  have hpa : 0 ≤ bits .and .i64 a 65535 % (n : Int) ∧ bits .and .i64 a 65535 % (n : Int) < n := ⟨Int.emod_nonneg _ hnz, Int.emod_lt_of_pos _ hn0⟩
  have hpb : 0 ≤ bits .and .i64 b 65535 % (n : Int) ∧ bits .and .i64 b 65535 % (n : Int) < n := ⟨Int.emod_nonneg _ hnz, Int.emod_lt_of_pos _ hn0⟩
  go_upto_region 6 with fail
  have b0 : (w2.drewN nq).cell? ⟨w.heap.size, 0, none⟩ = some (.int .i64 n) := b0'
  have b1 : (w2.drewN nq).cell? ⟨w.heap.size, 1, none⟩ = some (.slice A es.length cap) := b1'
  have hbw3 : Below w.heap.size w (w2.drewN nq) := ⟨hbw2.os, hbw2.tape, hbw2.output, hbw2.size, hbw2.block⟩
  have l3 : w.heap.size < (w2.drewN nq).heap.size := l2
  clear b0' b1' hbw2 l2 hbw l1
  generalize w2.drewN nq = w3 at *
  obtain ⟨p, hp⟩ := Int.eq_ofNat_of_zero_le hpa.1
  obtain ⟨q, hq⟩ := Int.eq_ofNat_of_zero_le hpb.1
  rw [hp] at hpa
  rw [hq] at hpb
  rw [hp, hq]
  have hp1 := hpa.2
  have hq1 := hpb.2
  clear hp hq hpa hpb pa0 pa1 pb0 pb1
  have hes3 := hes.below hbw3
  go_cut [7] (fun s7 wc => ∃ (gx : Nat) (A2 : Option Addr) (cap2 : Nat), s7 = .pointer (some ⟨gx, 0, none⟩) ∧ w3.heap.size ≤ gx ∧ gx < wc.heap.size ∧ wc.cell? ⟨gx, 0, none⟩ = some (.int .i64 n) ∧ wc.cell? ⟨gx, 1, none⟩ = some (.slice A2 (es.length + 1) cap2) ∧
    Cells wc wc.heap.size A2 (edgeCells (es ++ [((p : Int), (q : Int))])) ∧ Below w3.heap.size w3 wc)
  case first =>
    refine wp_region_q w3.heap.size [[], [34], [24]] [0, 0, 0, 0, 0, 0, 0, 0, 0, 0, 1, 0, 0, 2]
      [([], .val (.pointer (some ⟨w.heap.size, 0, none⟩))), ([0], .val (.int .i64 n)), ([], .row 34 #[] 0 0), ([], .val (.pointer (some ⟨w.heap.size, 1, none⟩))), ([3], .val (.slice A es.length cap)),
       ([2, 4], .own 34 2 es.length (edgeCells es)), ([], .val (.int .i64 p)), ([], .val (.int .i64 q)), ([6, 7], .val (.agg #[.int .i64 p, .int .i64 q])),
       ([8], .row 34 #[.int .i64 p, .int .i64 q] 1 1), ([5, 9], .own 34 2 (es.length + 1) (edgeCells es ++ [.int .i64 p, .int .i64 q])),
       ([1, 10], .owned 34 2 (es.length + 1) (edgeCells es ++ [.int .i64 p, .int .i64 q]) (fun v => .agg #[.int .i64 n, v])),
       ([], .blk 24 #[.int .i64 0, .slice none 0 0]), ([11, 12], .stored 12 24 34 2 (es.length + 1) (edgeCells es ++ [.int .i64 p, .int .i64 q]) (fun v => #[.int .i64 n, v]))]
      [13] (by kernel_rfl) (by kernel_rfl) (fun us => ?_) ?_
    · have hbB : ∀ wv : World, Evo w3.heap.size (allT [[], [34], [24]]) w3.drew wv → Below w3.heap.size w3 wv := fun _ h => below_undrew (h.below (Nat.le_refl _))
      have HbB := Lib.hid hbB
      clear hbB
      refine pgo_pure _ rfl rfl (fun wv hw hu => ⟨.pointer (some ⟨w.heap.size, 0, none⟩), ?_, rfl⟩) ?_
      · go_simp
      refine pgo_pure _ rfl rfl (fun wv hw hu => ⟨.int .i64 n, ?_, rfl⟩) ?_
      · have h0 : us 0 = .pointer (some ⟨w.heap.size, 0, none⟩) := hu.1
        have c0 := ((HbB.out _ hw).cell (p := ⟨w.heap.size, 0, none⟩) l3).trans b0
        clear hw hu
        go_simp
      refine pgo_val _ rfl rfl (fun wv hw hu => ⟨.slice (some ⟨wv.heap.size, 0, none⟩) 0 0, wv.alloc (.cells #[] 34), ?_, Evo.of_below ((Below.refl _ _).alloc (Nat.le_refl _) _), ⟨_, rfl, (HbB.out _ hw).size, Blk.new _ _ _⟩⟩) ?_
      · clear hw hu
        go_simp
      refine pgo_pure _ rfl rfl (fun wv hw hu => ⟨.pointer (some ⟨w.heap.size, 1, none⟩), ?_, rfl⟩) ?_
      · go_simp
      refine pgo_pure _ rfl rfl (fun wv hw hu => ⟨.slice A es.length cap, ?_, rfl⟩) ?_
      · have h0 : us 3 = .pointer (some ⟨w.heap.size, 1, none⟩) := hu.1
        have c0 := ((HbB.out _ hw).cell (p := ⟨w.heap.size, 1, none⟩) l3).trans b1
        clear hw hu
        go_simp
      refine pgo_op _ rfl rfl (fun K wv hw hu hK => ?_) ?_
      · obtain ⟨g, h2, hg, hgb⟩ := hu.1
        have h4 : us 4 = .slice A es.length cap := hu.2.1
        refine wpo_app_fresh elemEdge _ _ rfl h2 hgb hg h4 (hes3.keep (w' := wv) (fun p hp => (HbB.out _ hw).cell (by omega))) (edgeCells_length es |>.trans (Nat.mul_comm _ _)) (by omega) (by omega) ((HbB.out _ hw).size) (fun A' c' w' ho hb => ?_)
        exact hK _ _ (Evo.of_below hb) ⟨_, _, rfl, ho⟩
      refine pgo_pure _ rfl rfl (fun wv hw hu => ⟨.int .i64 p, ?_, rfl⟩) ?_
      · go_simp
      refine pgo_pure _ rfl rfl (fun wv hw hu => ⟨.int .i64 q, ?_, rfl⟩) ?_
      · go_simp
      refine pgo_pure _ rfl rfl (fun wv hw hu => ⟨.agg #[.int .i64 p, .int .i64 q], ?_, rfl⟩) ?_
      · have h6 : us 6 = .int .i64 p := hu.1
        have h7 : us 7 = .int .i64 q := hu.2.1
        clear hw hu
        go_simp
      refine pgo_val _ rfl rfl (fun wv hw hu => ⟨.slice (some ⟨wv.heap.size, 0, none⟩) 1 1, wv.alloc (.cells #[.int .i64 p, .int .i64 q] 34), ?_, Evo.of_below ((Below.refl _ _).alloc (Nat.le_refl _) _), ⟨_, rfl, (HbB.out _ hw).size, Blk.new _ _ _⟩⟩) ?_
      · have h8 : us 8 = .agg #[.int .i64 p, .int .i64 q] := hu.1
        clear hw hu
        go_simp
      refine pgo_op _ rfl rfl (fun K wv hw hu hK => ?_) ?_
      · obtain ⟨A1, c1, h5, ho5⟩ := hu.1
        rw [h5] at ho5
        obtain ⟨g, h9, hg, hgb⟩ := hu.2.1
        have hgc : Cells wv (g + 1) (some ⟨g, 0, none⟩) [.int .i64 p, .int .i64 q] := Cells.of_blk (R := #[]) (by simpa using hgb)
        refine wpo_app_any elemEdge _ _ rfl (by repeat (first | (with_reducible exact (put_eval_same _ _ _ (by simp [put_size])).trans h5) | (with_reducible refine put_eval _ _ _ _ _ (by decide) ?_))) ho5 (by repeat (first | (with_reducible exact (put_eval_same _ _ _ (by simp [put_size])).trans h9) | (with_reducible refine put_eval _ _ _ _ _ (by decide) ?_))) hgc rfl rfl (by omega) (by omega) ((HbB.out _ hw).size) (fun v' w' ho hgr _ => ?_)
        obtain ⟨A2, c2, rfl⟩ := own_slice ho
        exact hK _ _ (Evo.of_grown ho5 hgr (by simp) (Nat.le_refl _)) ⟨_, _, rfl, ho⟩
      refine pgo_pure _ rfl rfl (fun wv hw hu => ?_) ?_
      · have h1 : us 1 = .int .i64 n := hu.1
        obtain ⟨A1, c1, h10, ho10⟩ := hu.2.1
        rw [h10] at ho10
        refine ⟨.agg #[.int .i64 n, .slice A1 (es.length + 1) c1], ?_, A1, c1, rfl, ho10⟩
        clear hw hu ho10
        go_simp
      refine pgo_val _ rfl rfl (fun wv hw hu => ⟨.pointer (some ⟨wv.heap.size, 0, none⟩), wv.alloc (.cells #[.int .i64 0, .slice none 0 0] 24), ?_, Evo.of_below ((Below.refl _ _).alloc (Nat.le_refl _) _), ⟨_, rfl, (HbB.out _ hw).size, Blk.new _ _ _⟩⟩) ?_
      · clear hw hu
        go_simp
      refine pgo_skip _ rfl rfl (fun wv hw hu => ?_) ?_
      · obtain ⟨A1, c1, h11, ho⟩ := hu.1
        obtain ⟨g, h12, hg, hgb⟩ := hu.2.1
        have z0 := hgb.cell 0
        have z1 := (hgb.set_ 0 (.int .i64 n)).cell 1
        have f0 := hgb.frozen 0
        have f1 := (hgb.set_ 0 (.int .i64 n)).frozen 1
        refine ⟨(wv.setCell ⟨g, 0, none⟩ (.int .i64 n)).setCell ⟨g, 1, none⟩ (.slice A1 (es.length + 1) c1), ?_, (Evo.set_ hgb (by simp) hg 0 _).trans (Evo.set_ (hgb.set_ 0 (.int .i64 n)) (by simp) hg 1 _), g, A1, c1, h12, hg, (hgb.set_ 0 (.int .i64 n)).set_ 1 (.slice A1 (es.length + 1) c1), ?_⟩
        · clear hw hu ho hgb
          simp only [List.getElem?_toArray, List.getElem?_cons_zero] at z0 z1
          go_simp
        · exact own_set (own_set ho hgb (by decide) _ _) (hgb.set_ 0 (.int .i64 n)) (by decide) _ _
      trivial
    · intro us w' hw hu
      obtain ⟨g, A1, c1, h12, hg, hgb, ho⟩ := hu.1
      have hcs := Cells.of_own ho
      have hbl := below_undrew (hw.below (Nat.le_refl _))
      have e1 : edgeCells (es ++ [((p : Int), (q : Int))]) = edgeCells es ++ [.int .i64 p, .int .i64 q] := by simp [edgeCells]
      clear hw hu
      simp only [lexL]
      go_simp
      go_wp2_with fail
      go_meet
      exact ⟨g, A1, c1, rfl, hg, hgb.lt, by simpa using hgb.cell 0, by simpa using hgb.cell 1, by rw [e1]; exact hcs, hbl⟩
  obtain ⟨gx, A2, cap2, rfl, hgx, hgl, x0, x1, hcs2, hb3⟩ := hcut
  have hsz := hb3.size
  have y0 := (hb3.cell (p := ⟨w.heap.size, 0, none⟩) l3).trans b0
  have y1 := (hb3.cell (p := ⟨w.heap.size, 1, none⟩) l3).trans b1
  have hes4 := hes3.keep (w' := wc) (fun p hp => hb3.cell (by omega))
  have hl4 : w.heap.size < wc.heap.size := by omega
  have hbwc := hbw3.trans (hb3.mono (by omega))
  have Hes4 := Lib.hid hes4
  have Hcs2 := Lib.hid hcs2
  clear b0 b1 hes4 hcs2 hes3 hb3 hgx
  have ks : ∀ w', Below wc.heap.size wc w' → w'.cell? ⟨w.heap.size, 0, none⟩ = some (.int .i64 n) ∧ w'.cell? ⟨w.heap.size, 1, none⟩ = some (.slice A es.length cap) ∧ w'.cell? ⟨gx, 0, none⟩ = some (.int .i64 n) ∧ w'.cell? ⟨gx, 1, none⟩ = some (.slice A2 (es.length + 1) cap2) :=
    fun w' h => ⟨(h.cell (p := ⟨w.heap.size, 0, none⟩) hl4).trans y0, (h.cell (p := ⟨w.heap.size, 1, none⟩) hl4).trans y1, (h.cell (p := ⟨gx, 0, none⟩) hgl).trans x0, (h.cell (p := ⟨gx, 1, none⟩) hgl).trans x1⟩
  have Ks := Lib.hid ks
  clear ks
  go_wp2_with fail
  have tok1 : True := trivial
  go_region_held3 (fun w' => w'.cell? ⟨w.heap.size, 0, none⟩ = some (.int .i64 n) ∧ w'.cell? ⟨w.heap.size, 1, none⟩ = some (.slice A es.length cap) ∧ w'.cell? ⟨gx, 0, none⟩ = some (.int .i64 n) ∧ w'.cell? ⟨gx, 1, none⟩ = some (.slice A2 (es.length + 1) cap2))
    (first | exact ⟨y0, y1, x0, x1⟩ | exact Ks.out _ hb7 | exact Ks.out _ hb5)
    (first
      | (go_at_call 13; have _t := tok1; refine (from_any n A cap es _ (by exact Hes4.out.more (Nat.le_of_lt hl4))).mono ?_; rintro e w5 ⟨v5, rfl, hb5', hv5, _⟩; have hb5 := below_undrew hb5'; clear tok1)
      | (go_at_call 13; refine (from_len n A2 cap2 (es.length + 1) (es ++ [((p : Int), (q : Int))]) _ (by simp) (by exact (Hcs2.out.below hb5).more hb5.size)).mono ?_; rintro e w6 ⟨v6, rfl, hb6, hv6, _⟩; have hb7 := hb5.trans (hb6.mono hb5.size)))
  have Hin := badE_in Hm.out
  obtain ⟨T, hT, ho5⟩ := hv5 Hm.out
  obtain ⟨T2, hT2, ho6⟩ := hv6 (InN.may (InN.snoc Hin (by omega) (by omega)) (by omega) (by omega) (by simp; omega))
  have GL := Lib.hid (fun (i : Nat) (hi : i < n) => grows_law Hin (by omega) (show p < n by omega) (show q < n by omega) hT hT2 hi)
  have hl5 : T.length = n := by rw [hT.1.len, eachL_length]; rfl
  have hl6 : T2.length = n := by rw [hT2.1.len, eachL_length]; rfl
  have Hok5 := Lib.hid hT.1
  have Hok6 := Lib.hid hT2.1
  rw [hl5] at ho5
  rw [hl6] at ho6
  have ho5' := own_below ho5 hb6 (Nat.le_refl _)
  obtain ⟨g5, cap5, R5, rfl, hg5, hk5, _⟩ := own_blk ho5' (by omega)
  obtain ⟨g6, cap6, R6, rfl, hg6, hk6, _⟩ := own_blk ho6 (by omega)
  have z0 := (Ks.out _ hb7).1
  have hb8 := hbwc.trans (hb7.mono (by exact Nat.le_of_lt hl4))
  have Hl5 := Lib.hid hl5
  have Hl6 := Lib.hid hl6
  have hc5 : ∀ k, k < n → w6.cell? ⟨g5, k, none⟩ = some (.int .u64 (T.getD k 0 : Nat)) := fun k hk => (hk5.cell k).trans (u64s_at T R5 k (by omega))
  have hc6 : ∀ k, k < n → w6.cell? ⟨g6, k, none⟩ = some (.int .u64 (T2.getD k 0 : Nat)) := fun k hk => (hk6.cell k).trans (u64s_at T2 R6 k (by omega))
  have Hc5 := Lib.hid hc5
  have Hc6 := Lib.hid hc6
  have hne : ((n : Int) != (n : Int)) = false := by simp
  clear Hin hv5 hv6 hT hT2 hl5 hl6 ho5 ho5' ho6 hk5 hk6 hc5 hc6 hb5' hb5 hb6 hb7 hbwc Hes4 Hcs2 Ks x0 x1 y0 y1
  go_wp2_with fail
  go_loopg [63] n (fun k s63 wr => ∃ i : Nat, s63 = .int .i64 i ∧ i ≤ n ∧ k = n - i ∧ wr = w6)
  case atStart => exact ⟨0, rfl, Nat.zero_le _, rfl, rfl⟩
  case round =>
    obtain ⟨i, rfl, hi, hk, rfl⟩ := hrel
    have Hk := Lib.hid hk; clear hk
    by_cases hlt : i < n
    · have ci := Hc5.out i hlt
      have cq := Hc5.out q (by omega)
      have c6 := Hc6.out i hlt
      obtain ⟨G1, G2⟩ := GL.out i hlt
      have ua := Hok5.out.at_ i
      have uq := Hok5.out.at_ q
      have hlt' : (i : Int) < n := by omega
      generalize T.getD i 0 = x at *
      generalize T.getD q 0 = y at *
      generalize T2.getD i 0 = z at *
      have G2' := Lib.hid G2
      clear G2
      cases hB : setHas x p with
      | true =>
        rw [hB] at G1
        obtain rfl : z = x ||| y := G1
        have eo := u64_or_nat x y ua uq
        have en : (((x ||| y : Nat) : Int) != ((x ||| y : Nat) : Int)) = false := by simp
        go_wp2_with fail
        refine (has_is _ hB ua).mono ?_
        rintro e w' ⟨rfl, rfl⟩
        clear hB
        go_wp2_with fail
        refine (has_is _ G2'.out ua).mono ?_
        rintro e w' ⟨rfl, rfl⟩
        go_wp2_with fail
        go_roundg (n - (i + 1))
        case measure => rw [Hk.out]; omega
        case rel => exact ⟨i + 1, by go_num, by omega, rfl, rfl⟩
      | false =>
        rw [hB] at G1
        obtain rfl : z = x := G1
        have en : ((z : Int) != (z : Int)) = false := by simp
        go_wp2_with fail
        refine (has_is _ hB ua).mono ?_
        rintro e w' ⟨rfl, rfl⟩
        clear hB
        go_wp2_with fail
        refine (has_is _ G2'.out ua).mono ?_
        rintro e w' ⟨rfl, rfl⟩
        go_wp2_with fail
        go_roundg (n - (i + 1))
        case measure => rw [Hk.out]; omega
        case rel => exact ⟨i + 1, by go_num, by omega, rfl, rfl⟩
    · go_wp2_with fail
      go_ret
      exact ⟨rfl, hb8⟩

theorem grows_any (n a b : Int) (A : Option Addr) (cap : Nat) (es : List (Int × Int)) (w : World) (hes : Cells w w.heap.size A (edgeCells es)) :
    Calls Try.prog 4 #[.agg #[.int .i64 n, .slice A es.length cap], .int .i64 a, .int .i64 b] w (BoolPost true w) := by
  by_cases h : mayB n es = true ∧ es.length ≤ 100
  · obtain ⟨n, rfl⟩ := Int.eq_ofNat_of_zero_le (Int.le_of_lt (may_parts h.1).1)
    exact grows_yes n a b A cap es w hes h.1 h.2
  · refine grows_no n a b A cap es w hes ?_
    cases hm : mayB n es with
    | false => exact .inl rfl
    | true => exact .inr (Nat.lt_of_not_le fun hl => h ⟨hm, hl⟩)
end Go.Proofs.Ythdifhfmgmmljaa
