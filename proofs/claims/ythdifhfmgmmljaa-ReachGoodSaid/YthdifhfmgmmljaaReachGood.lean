/-
  Law ReachGood: walked. Written by an AI agent.
-/
import Derived.Test.YthdifhfmgmmljaaSpeaks
import Derived.Test.YthdifhfmgmmljaaApp
import Derived.Test.YthdifhfmgmmljaaRegion3
import Derived.Test.YthdifhfmgmmljaaGoodLaw
import Derived.Test.YthdifhfmgmmljaaReachLaw
namespace Go.Proofs.Ythdifhfmgmmljaa
open Go.RowKit

set_option maxHeartbeats 1000000 in
theorem good_no (n : Int) (A : Option Addr) (cap : Nat) (es : List (Int × Int)) (w : World) (hes : Cells w w.heap.size A (edgeCells es)) (h : mayB n es = false ∨ 40 < es.length) :
    Calls Try.prog 3 #[.agg #[.int .i64 n, .slice A es.length cap]] w (fun e w' => e = .returned (.bool true) ∧ Below w.heap.size w w') := by
  go_enter Try.func3, Try.ntmps3
  go_wp2_with fail
  refine (speaks_any _).mono ?_
  rintro e w1 ⟨rfl, hb1⟩
  have b0 := hb1.cell (p := ⟨w.heap.size, 0, none⟩) (by simp)
  have b1 := hb1.cell (p := ⟨w.heap.size, 1, none⟩) (by simp)
  simp only [World.cell?_alloc_new, List.getElem?_toArray, List.getElem?_cons_zero, List.getElem?_cons_succ] at b0 b1
  have hbw := ((Below.refl w.heap.size w).alloc (Nat.le_refl _) (.cells #[.int .i64 n, .slice A es.length cap] 24)).trans (hb1.mono (by simp))
  have l1 : w.heap.size < w1.heap.size := by have := hb1.size; simp at this; omega
  clear hb1
  go_wp2_with fail
  refine (refmay_any n A cap es w1 ((hes.below hbw).more (by omega))).mono ?_
  rintro e w2 ⟨rfl, hb2⟩
  have b1' := (hb2.cell (p := ⟨w.heap.size, 1, none⟩) l1).trans b1
  cases hm : mayB n es with
  | false =>
    clear hm h
    go_wp2_with fail
    go_ret
    exact ⟨rfl, hbw.trans (hb2.mono (by omega))⟩
  | true =>
    have hl : 40 < es.length := h.resolve_left (by rw [hm]; simp)
    clear hm h
    go_wp2_with fail
    go_ret
    exact ⟨rfl, hbw.trans (hb2.mono (by omega))⟩

def RowPost (R : List Int) (w : World) (e : Ending) (w' : World) : Prop := ∃ A c, e = .returned (.slice A R.length c) ∧ Below w.heap.size w w' ∧ Cells w' w'.heap.size A (intCells R)
theorem trans_is (n : Int) (A : Option Addr) (cap : Nat) (es : List (Int × Int)) (R : List Int) (w : World) (hes : Cells w w.heap.size A (edgeCells es)) (hm : mayB n es = true) (hR : transL es es.length = R) :
    Calls Try.prog 12 #[.agg #[.int .i64 n, .slice A es.length cap]] w (RowPost R w) := by
  refine (trans_any n A cap es w hes).mono ?_
  rintro e w' ⟨v, rfl, hb, hv, _⟩
  have h := hv hm
  rw [hR] at h
  obtain ⟨A', c, rfl⟩ := own_slice h
  exact ⟨A', c, rfl, hb, Cells.of_own h⟩

theorem evo_nil {B : Nat} {T : List TypeId} {w w' : World} (h : T = []) (hw : Evo B T w w') : Below w.heap.size w w' := by
  subst h
  exact ⟨hw.os, hw.tape, hw.output, hw.size, fun k hk => hw.keep k hk (.inr fun _ _ _ _ ht => by cases ht)⟩
theorem from_is (n : Nat) (A : Option Addr) (cap : Nat) (es : List (Int × Int)) (w : World) (hes : Cells w w.heap.size A (edgeCells es)) (hm : mayB n es = true) :
    Calls Try.prog 13 #[.agg #[.int .i64 n, .slice A es.length cap]] w (fun e w' => ∃ g c T, e = .returned (.slice (some ⟨g, 0, none⟩) n c) ∧ Below w.heap.size w w' ∧ g < w'.heap.size ∧ Grown1 false (fun _ => true) n es T ∧
      ∀ k, k < n → w'.cell? ⟨g, k, none⟩ = some (.int .u64 (T.getD k 0 : Nat))) := by
  obtain ⟨hn0, hn1, hn2⟩ := may_parts hm
  refine (from_any n A cap es w hes).mono ?_
  rintro e w2 ⟨v, rfl, hb2, hv, _⟩
  obtain ⟨T, hT, hown⟩ := hv hm
  have hlT : T.length = n := by rw [hT.1.len, eachL_length]; rfl
  rw [hlT] at hown
  obtain ⟨gT, capT, RT, rfl, hgT, hkT, _⟩ := own_blk hown (by omega)
  exact ⟨gT, capT, T, rfl, hb2, hkT.lt, hT, fun k hk => (hkT.cell k).trans (u64s_at T RT k (by omega))⟩
/-- the block at g holds a value built of a row of the call's own -/
def storedAt {B : Nat} (g : Nat) (t e : TypeId) (size n : Nat) (xs : List Value) (f : Value → Array Value) : PFact B :=
  ⟨[t, e], [], fun _ _ w => ∃ A c, Blk w g t (f (.slice A n c)) ∧ w.ownsRow B e size (.slice A n c) n xs,
    fun _ hT _ _ _ _ he ⟨A, c, hb, ho⟩ => ⟨A, c, hb.evo he (.inr (hT t (by simp))), own_evo ho he (hT e (by simp))⟩,
    fun _ _ _ _ _ h => h⟩

theorem edgeCells_take (es : List (Int × Int)) (k : Nat) : edgeCells (es.take k) = (edgeCells es).take (2 * k) := by
  induction es generalizing k with
  | nil => simp [edgeCells]
  | cons e r ih =>
    cases k with
    | zero => simp [edgeCells]
    | succ k =>
      have e0 : edgeCells (e :: r) = .int .i64 e.1 :: .int .i64 e.2 :: edgeCells r := rfl
      have e1 : edgeCells ((e :: r).take (k + 1)) = .int .i64 e.1 :: .int .i64 e.2 :: edgeCells (r.take k) := rfl
      rw [e0, e1, ih, show 2 * (k + 1) = 2 * k + 1 + 1 by omega, List.take_succ_cons, List.take_succ_cons]
theorem edgeCells_drop (es : List (Int × Int)) (k : Nat) : edgeCells (es.drop k) = (edgeCells es).drop (2 * k) := by
  induction es generalizing k with
  | nil => simp [edgeCells]
  | cons e r ih =>
    cases k with
    | zero => rfl
    | succ k =>
      have e0 : edgeCells (e :: r) = .int .i64 e.1 :: .int .i64 e.2 :: edgeCells r := rfl
      rw [e0, show 2 * (k + 1) = 2 * k + 1 + 1 by omega, List.drop_succ_cons, List.drop_succ_cons]
      exact ih k
theorem edgeCells_append (a b : List (Int × Int)) : edgeCells a ++ edgeCells b = edgeCells (a ++ b) := by simp [edgeCells]
/-- the beginning of a slice -/
theorem slice_take {w : World} {B : Nat} {A : Option Addr} {es : List (Int × Int)} (k : Nat) (h : Cells w B A (edgeCells es)) : Cells w B A (edgeCells (es.take k)) := by
  intro hp
  rw [edgeCells_take] at hp ⊢
  obtain ⟨b, off, he, hb, hc⟩ := h (by simp at hp; omega)
  refine ⟨b, off, he, hb, fun j u hu => hc j u ?_⟩
  rw [List.getElem?_take] at hu
  split at hu
  · exact hu
  · cases hu
/-- the end of a slice -/
theorem slice_drop (g k n c : Nat) (hc : n ≤ c) (es : List (Int × Int)) (hn : es.length = n) : ∃ A', (if c = k then some (⟨g, 0, none⟩ : Addr) else some ⟨g, k * 2, none⟩) = A' ∧ ∀ w B, Cells w B (some ⟨g, 0, none⟩) (edgeCells es) → Cells w B A' (edgeCells (es.drop k)) := by
  refine ⟨_, rfl, fun w B h hp => ?_⟩
  have hk : c ≠ k := by
    intro e
    rw [edgeCells_length] at hp
    simp at hp
    omega
  rw [if_neg hk]
  rw [edgeCells_drop] at hp ⊢
  obtain ⟨b, off, he, hb, hc⟩ := h (by simp at hp; omega)
  injection he with he
  injection he with h1 h2
  subst h1 h2
  refine ⟨_, _, rfl, hb, fun j u hu => ?_⟩
  rw [List.getElem?_drop] at hu
  have := hc _ _ hu
  rw [show 0 + (2 * k + j) = k * 2 + j by omega] at this
  exact this

set_option maxRecDepth 20000 in
set_option maxHeartbeats 16000000 in
theorem good_yes (n : Nat) (A : Option Addr) (cap : Nat) (es : List (Int × Int)) (w : World) (hes : Cells w w.heap.size A (edgeCells es)) (hm : mayB n es = true) (hl : es.length ≤ 40) :
    Calls Try.prog 3 #[.agg #[.int .i64 n, .slice A es.length cap]] w (fun e w' => e = .returned (.bool true) ∧ Below w.heap.size w w') := by
  obtain ⟨hn0, hn1, hn2⟩ := may_parts hm
  have Hm := Lib.hid hm; clear hm
  have Hin := Lib.hid (show InN n es from badE_in Hm.out)
  go_enter Try.func3, Try.ntmps3
  go_wp2_with fail
  refine (speaks_any _).mono ?_
  rintro e w1 ⟨rfl, hb1⟩
  have b0 := hb1.cell (p := ⟨w.heap.size, 0, none⟩) (by simp)
  have b1 := hb1.cell (p := ⟨w.heap.size, 1, none⟩) (by simp)
  simp only [World.cell?_alloc_new, List.getElem?_toArray, List.getElem?_cons_zero, List.getElem?_cons_succ] at b0 b1
  have hbw := ((Below.refl w.heap.size w).alloc (Nat.le_refl _) (.cells #[.int .i64 n, .slice A es.length cap] 24)).trans (hb1.mono (by simp))
  have l1 : w.heap.size < w1.heap.size := by have := hb1.size; simp at this; omega
  clear hb1
  go_wp2_with fail
  refine (refmay_any n A cap es w1 ((hes.below hbw).more (by omega))).mono ?_
  rintro e w3 ⟨rfl, hb2⟩
  have b0' := (hb2.cell (p := ⟨w.heap.size, 0, none⟩) l1).trans b0
  have b1' := (hb2.cell (p := ⟨w.heap.size, 1, none⟩) l1).trans b1
  have hbw3 := hbw.trans (hb2.mono (Nat.le_of_lt l1))
  have l3 : w.heap.size < w3.heap.size := by have := hb2.size; omega
  rw [Hm.out]
  clear b0 b1 hb2 hbw l1
  go_upto_region 5 with fail
  have b0 := b0'
  have b1 := b1'
  clear b0' b1'
  have hes3 := hes.below hbw3
  go_cut [3] (fun s3 wc => ∃ (gx : Nat) (A2 : Option Addr) (cap2 : Nat), s3 = .pointer (some ⟨gx, 0, none⟩) ∧ w3.heap.size ≤ gx ∧ Blk wc gx 24 #[.int .i64 n, .slice A2 es.length cap2] ∧
    wc.ownsRow w3.heap.size 34 2 (.slice A2 es.length cap2) es.length (edgeCells es) ∧ Below w3.heap.size w3 wc)
  case first =>
    refine wp_region_q w3.heap.size [[], [24]] [0, 0, 0, 0, 0, 0, 0, 0, 1]
      [([], .val (.pointer (some ⟨w.heap.size, 0, none⟩))), ([0], .val (.int .i64 n)), ([], .row 34 #[] 0 0), ([], .val (.pointer (some ⟨w.heap.size, 1, none⟩))), ([3], .val (.slice A es.length cap)),
       ([2, 4], .own 34 2 es.length (edgeCells es)),
       ([1, 5], .owned 34 2 es.length (edgeCells es) (fun v => .agg #[.int .i64 n, v])),
       ([], .blk 24 #[.int .i64 0, .slice none 0 0]), ([6, 7], .stored 7 24 34 2 es.length (edgeCells es) (fun v => #[.int .i64 n, v]))]
      [8] (by kernel_rfl) (by kernel_rfl) (fun us => ?_) ?_
    · have hbB : ∀ wv : World, Evo w3.heap.size (allT [[], [24]]) w3.drew wv → Below w3.heap.size w3 wv := fun _ h => below_undrew (h.below (Nat.le_refl _))
      have HbB := Lib.hid hbB
      clear hbB
      refine pgo_pure _ rfl rfl (fun wv hw hu => ⟨.pointer (some ⟨w.heap.size, 0, none⟩), ?_, rfl⟩) ?_
      · go_simp
      refine pgo_pure _ rfl rfl (fun wv hw hu => ⟨.int .i64 n, ?_, rfl⟩) ?_
      · have h0 : us 0 = .pointer (some ⟨w.heap.size, 0, none⟩) := hu.1
        have c0 := ((HbB.out _ hw).cell (p := ⟨w.heap.size, 0, none⟩) l3).trans b0
        clear hw hu
        go_simp
      refine pgo_val _ rfl rfl (fun wv hw hu => ⟨.slice (some ⟨wv.heap.size, 0, none⟩) 0 0, wv.alloc (.cells #[] 34), ?_, Evo.of_below ((Below.refl _ _).alloc (Nat.le_refl _) _), ⟨_, rfl, (HbB.out _ hw).size, Blk.new _ _ _⟩⟩) ?_
      · clear hw hu
        go_simp
      refine pgo_pure _ rfl rfl (fun wv hw hu => ⟨.pointer (some ⟨w.heap.size, 1, none⟩), ?_, rfl⟩) ?_
      · go_simp
      refine pgo_pure _ rfl rfl (fun wv hw hu => ⟨.slice A es.length cap, ?_, rfl⟩) ?_
      · have h0 : us 3 = .pointer (some ⟨w.heap.size, 1, none⟩) := hu.1
        have c0 := ((HbB.out _ hw).cell (p := ⟨w.heap.size, 1, none⟩) l3).trans b1
        clear hw hu
        go_simp
      refine pgo_op _ rfl rfl (fun K wv hw hu hK => ?_) ?_
      · obtain ⟨g, h2, hg, hgb⟩ := hu.1
        have h4 : us 4 = .slice A es.length cap := hu.2.1
        refine wpo_app_fresh elemEdge _ _ rfl h2 hgb hg h4 (hes3.keep (w' := wv) (fun p hp => (HbB.out _ hw).cell (by omega))) (edgeCells_length es |>.trans (Nat.mul_comm _ _)) (by omega) (by omega) ((HbB.out _ hw).size) (fun A' c' w' ho hb => ?_)
        exact hK _ _ (Evo.of_below hb) ⟨_, _, rfl, ho⟩
      refine pgo_pure _ rfl rfl (fun wv hw hu => ?_) ?_
      · have h1 : us 1 = .int .i64 n := hu.1
        obtain ⟨A1, c1, h10, ho10⟩ := hu.2.1
        rw [h10] at ho10
        refine ⟨.agg #[.int .i64 n, .slice A1 es.length c1], ?_, A1, c1, rfl, ho10⟩
        clear hw hu ho10
        go_simp
      refine pgo_val _ rfl rfl (fun wv hw hu => ⟨.pointer (some ⟨wv.heap.size, 0, none⟩), wv.alloc (.cells #[.int .i64 0, .slice none 0 0] 24), ?_, Evo.of_below ((Below.refl _ _).alloc (Nat.le_refl _) _), ⟨_, rfl, (HbB.out _ hw).size, Blk.new _ _ _⟩⟩) ?_
      · clear hw hu
        go_simp
      refine pgo_skip _ rfl rfl (fun wv hw hu => ?_) ?_
      · obtain ⟨A1, c1, h11, ho⟩ := hu.1
        obtain ⟨g, h12, hg, hgb⟩ := hu.2.1
        have z0 := hgb.cell 0
        have z1 := (hgb.set_ 0 (.int .i64 n)).cell 1
        have f0 := hgb.frozen 0
        have f1 := (hgb.set_ 0 (.int .i64 n)).frozen 1
        refine ⟨(wv.setCell ⟨g, 0, none⟩ (.int .i64 n)).setCell ⟨g, 1, none⟩ (.slice A1 es.length c1), ?_, (Evo.set_ hgb (by simp) hg 0 _).trans (Evo.set_ (hgb.set_ 0 (.int .i64 n)) (by simp) hg 1 _), g, A1, c1, h12, hg, (hgb.set_ 0 (.int .i64 n)).set_ 1 (.slice A1 es.length c1), ?_⟩
        · clear hw hu ho hgb
          simp only [List.getElem?_toArray, List.getElem?_cons_zero, List.getElem?_cons_succ] at z0 z1
          go_simp
        · exact own_set (own_set ho hgb (by decide) _ _) (hgb.set_ 0 (.int .i64 n)) (by decide) _ _
      trivial
    · intro us w' hw hu
      obtain ⟨g, A1, c1, h12, hg, hgb, ho⟩ := hu.1
      have hbl := below_undrew (hw.below (Nat.le_refl _))
      clear hw hu
      simp only [lexL]
      go_simp
      go_wp2_with fail
      go_meet
      exact ⟨g, A1, c1, rfl, hg, by simpa using hgb, ho, hbl⟩
  obtain ⟨gx, A2, cap2, rfl, hgx, hX, hO, hb3⟩ := hcut
  have x0 := hX.cell 0
  have x1 := hX.cell 1
  have hgl := hX.lt
  simp only [List.getElem?_toArray, List.getElem?_cons_zero, List.getElem?_cons_succ] at x0 x1
  go_wp2_with fail
  refine (trans_is n A2 cap2 es _ wc (Cells.of_own hO) Hm.out rfl).mono ?_
  rintro e w4 ⟨Al, cl, rfl, hb4, hCl⟩
  have hX4 := hX.below hb4 hgl
  have hO4 := own_below hO hb4 (Nat.le_refl _)
  have hb5 := hb3.trans (hb4.mono hb3.size)
  clear x0 x1 hgl hX hO hb3 hb4
  go_wp2_with fail
  go_loopg [4] es.length (fun k s4 wr => ∃ (xs : List (Int × Int)) (A3 : Option Addr) (c3 : Nat) (Al : Option Addr) (cl : Nat), s4 = .slice Al (transL xs xs.length).length cl ∧ Cells wr wr.heap.size Al (intCells (transL xs xs.length)) ∧
    Blk wr gx 24 #[.int .i64 n, .slice A3 xs.length c3] ∧ wr.ownsRow w3.heap.size 34 2 (.slice A3 xs.length c3) xs.length (edgeCells xs) ∧ InN n xs ∧ (∀ x y, Way xs x y ↔ Way es x y) ∧ xs.length ≤ 40 ∧ Below w3.heap.size w3 wr ∧ k = xs.length)
  case atStart => exact ⟨es, A2, cap2, Al, cl, rfl, hCl, hX4, hO4, Hin.out, fun _ _ => Iff.rfl, hl, hb5, rfl⟩
  case round =>
    clear hCl hX4 hO4 hb5
    obtain ⟨xs, A3, c3, Al, cl, rfl, hC, hX, hO, hin, hway, hxl, hb, hk⟩ := hrel
    have Hk := Lib.hid hk; clear hk
    have Hway := Lib.hid hway; clear hway
    have Hin2 := Lib.hid hin; clear hin
    have hR := transL_length xs xs.length
    by_cases hpos : 0 < (transL xs xs.length).length
    · obtain ⟨k, hk1, hk2, hk3⟩ := transL_pick hpos
      obtain ⟨b, off, rfl, hbb, hcc⟩ := hC.ints hpos
      have hlast := hcc ((transL xs xs.length).length - 1) (by omega)
      rw [show (transL xs xs.length)[(transL xs xs.length).length - 1] = (k : Int) from by
        have := hk1; rw [List.getElem?_eq_getElem (by omega)] at this; injection this] at hlast
      have x0 := hX.cell 0
      have x1 := hX.cell 1
      have hgl := hX.lt
      simp only [List.getElem?_toArray, List.getElem?_cons_zero, List.getElem?_cons_succ] at x0 x1
      have HK := Lib.hid (And.intro hk2 hk3)
      clear hk1 hcc hk3
      generalize (transL xs xs.length).length = L at *
      have hkl : (k : Int) < xs.length := by omega
      go_upto_region 12 with fail
      obtain ⟨g3, cap3, R3', hsl, hbg3, hB3, hsz3, hnc3, _, _⟩ := own_blk hO (by omega)
      injection hsl with hA3 hn3 hc3
      subst hA3 hc3
      have hCx := Cells.of_own hO
      obtain ⟨Ad, hd, hcd⟩ := slice_drop g3 (k + 1) xs.length c3 hnc3 xs rfl
      have Hct := Lib.hid (slice_take k hCx)
      have Hcd := Lib.hid (hcd wr _ hCx)
      have Hcl := Lib.hid (cutE_length hk2)
      clear hcd hB3 hsz3 hn3 hO hC hbb hlast x0 hR
      refine R3.wp_region_i w3.heap.size [[], [34], [24]] [0, 0, 0, 0, 0, 0, 0, 0, 0, 0, 0, 1, 0, 2]
        [([], .row 34 #[] 0 0), ([], .val (.pointer (some ⟨gx, 1, none⟩))), ([1], .val (.slice (some ⟨g3, 0, none⟩) xs.length c3)), ([], .val (.int .i64 k)), ([2, 3], .val (.slice (some ⟨g3, 0, none⟩) k c3)),
         ([0, 4], .own 34 2 k (edgeCells (xs.take k))),
         ([], .val (.pointer (some ⟨gx, 1, none⟩))), ([6], .val (.slice (some ⟨g3, 0, none⟩) xs.length c3)), ([], .val (.int .i64 k)), ([8], .val (.int .i64 (k + 1 : Nat))), ([7, 9], .val (.slice Ad (xs.length - (k + 1)) (c3 - (k + 1)))),
         ([5, 10], .own 34 2 (xs.length - 1) (edgeCells (cutE xs k))),
         ([], .val (.pointer (some ⟨gx, 1, none⟩))), ([11, 12], storedAt gx 24 34 2 (xs.length - 1) (edgeCells (cutE xs k)) (fun v => #[.int .i64 n, v]))]
        [13] (by kernel_rfl) (by kernel_rfl) (fun us => ?_) ?_
      · refine R3.pgo_val _ rfl rfl (fun wv hw hu => ⟨.slice (some ⟨wv.heap.size, 0, none⟩) 0 0, wv.alloc (.cells #[] 34), ?_, Evo.of_below ((Below.refl _ _).alloc (Nat.le_refl _) _), ⟨_, rfl, Nat.le_trans hb.size hw.size, Blk.new _ _ _⟩⟩) ?_
        · clear hw hu
          go_simp
        refine R3.pgo_pure _ rfl rfl (fun wv hw hu => ⟨.pointer (some ⟨gx, 1, none⟩), ?_, rfl⟩) ?_
        · clear hw hu
          go_simp
        refine R3.pgo_pure _ rfl rfl (fun wv hw hu => ⟨.slice (some ⟨g3, 0, none⟩) xs.length c3, ?_, rfl⟩) ?_
        · have h0 : us 1 = .pointer (some ⟨gx, 1, none⟩) := hu.1
          have c0 := ((evo_nil (by kernel_rfl) hw).cell (p := ⟨gx, 1, none⟩) hgl).trans x1
          clear hw hu
          go_simp
        refine R3.pgo_pure _ rfl rfl (fun wv hw hu => ⟨.int .i64 k, ?_, rfl⟩) ?_
        · clear hw hu
          go_simp
        refine R3.pgo_pure _ rfl rfl (fun wv hw hu => ⟨.slice (some ⟨g3, 0, none⟩) k c3, ?_, rfl⟩) ?_
        · have h0 : us 2 = .slice (some ⟨g3, 0, none⟩) xs.length c3 := hu.1
          have h1 : us 3 = .int .i64 k := hu.2.1
          have hkc : k ≤ c3 := by omega
          clear hw hu
          go_simp
        refine R3.pgo_op _ rfl rfl (fun K wv hw hu hK => ?_) ?_
        · obtain ⟨g, h0, hg, hgb⟩ := hu.1
          have h4 : us 4 = .slice (some ⟨g3, 0, none⟩) k c3 := hu.2.1
          have hkl2 : (xs.take k).length = k := by simp; omega
          refine wpo_app_fresh elemEdge _ _ rfl h0 hgb hg h4 (Hct.out.keep (w' := wv) (fun p hp => (evo_nil (by kernel_rfl) hw).cell hp)) (edgeCells_length _ |>.trans (by rw [hkl2]; exact Nat.mul_comm _ _)) (by omega) (by omega) (Nat.le_trans hb.size hw.size) (fun A' c' w' ho hb' => ?_)
          exact hK _ _ (Evo.of_below hb') ⟨_, _, rfl, ho⟩
        refine R3.pgo_pure _ rfl rfl (fun wv hw hu => ⟨.pointer (some ⟨gx, 1, none⟩), ?_, rfl⟩) ?_
        · clear hw hu
          go_simp
        refine R3.pgo_pure _ rfl rfl (fun wv hw hu => ⟨.slice (some ⟨g3, 0, none⟩) xs.length c3, ?_, rfl⟩) ?_
        · have h0 : us 6 = .pointer (some ⟨gx, 1, none⟩) := hu.1
          have c0 := ((evo_nil (by kernel_rfl) hw).cell (p := ⟨gx, 1, none⟩) hgl).trans x1
          clear hw hu
          go_simp
        refine R3.pgo_pure _ rfl rfl (fun wv hw hu => ⟨.int .i64 k, ?_, rfl⟩) ?_
        · clear hw hu
          go_simp
        refine R3.pgo_pure _ rfl rfl (fun wv hw hu => ⟨.int .i64 (k + 1 : Nat), ?_, rfl⟩) ?_
        · have h0 : us 8 = .int .i64 k := hu.1
          have hw1 : IntKind.i64.wrap ((k : Int) + 1) = (k : Int) + 1 := by rw [IntKind.wrap_i64]; omega
          clear hw hu
          go_simp
        refine R3.pgo_pure _ rfl rfl (fun wv hw hu => ⟨.slice Ad (xs.length - (k + 1)) (c3 - (k + 1)), ?_, rfl⟩) ?_
        · have h0 : us 7 = .slice (some ⟨g3, 0, none⟩) xs.length c3 := hu.1
          have h1 : us 9 = .int .i64 (k + 1 : Nat) := hu.2.1
          have hkc : 0 ≤ (k : Int) + 1 := by omega
          have hkc2 : (k : Int) + 1 ≤ xs.length := by omega
          clear hw hu
          go_simp
        refine R3.pgo_op _ rfl rfl (fun K wv hw hu hK => ?_) ?_
        · obtain ⟨A5, c5, h5, ho5⟩ := hu.1
          have h10 : us 10 = .slice Ad (xs.length - (k + 1)) (c3 - (k + 1)) := hu.2.1
          rw [h5] at ho5
          have hdl : (xs.drop (k + 1)).length = xs.length - (k + 1) := by simp
          refine wpo_app_any elemEdge _ _ rfl (by repeat (first | (with_reducible exact (put_eval_same _ _ _ (by simp [put_size])).trans h5) | (with_reducible refine put_eval _ _ _ _ _ (by decide) ?_))) ho5 (by repeat (first | (with_reducible exact (put_eval_same _ _ _ (by simp [put_size])).trans h10) | (with_reducible refine put_eval _ _ _ _ _ (by decide) ?_))) (Hcd.out.keep (w' := wv) (fun p hp => (evo_nil (by kernel_rfl) hw).cell hp)) (edgeCells_length _ |>.trans (by rw [hdl]; exact Nat.mul_comm _ _)) (edgeCells_one _) (by omega) (by omega) (Nat.le_trans hb.size hw.size) (fun v' w' ho hgr _ => ?_)
          rw [edgeCells_append, show k + (xs.length - (k + 1)) = xs.length - 1 by omega] at ho
          obtain ⟨A', c', rfl⟩ := own_slice ho
          exact hK _ _ (Evo.of_grown ho5 hgr (by simp) (Nat.le_refl _)) ⟨_, _, rfl, ho⟩
        refine R3.pgo_pure _ rfl rfl (fun wv hw hu => ⟨.pointer (some ⟨gx, 1, none⟩), ?_, rfl⟩) ?_
        · clear hw hu
          go_simp
        refine R3.pgo_skip _ rfl rfl (fun wv hw hu => ?_) ?_
        · obtain ⟨A5, c5, h11, ho⟩ := hu.1
          have h12 : us 12 = .pointer (some ⟨gx, 1, none⟩) := hu.2.1
          rw [h11] at ho
          have hXv : Blk wv gx 24 #[.int .i64 n, .slice (some ⟨g3, 0, none⟩) xs.length c3] := hX.drew.evo (hw.mono (T' := [34]) (by decide)) (.inr (by decide))
          have z1 := hXv.cell 1
          have f1 := hXv.frozen 1
          refine ⟨wv.setCell ⟨gx, 1, none⟩ (.slice A5 (xs.length - 1) c5), ?_, Evo.set_ hXv (by simp) hgx 1 _, A5, c5, by simpa using hXv.set_ 1 (.slice A5 (xs.length - 1) c5), own_set ho hXv (by decide) _ _⟩
          clear hw hu ho hXv
          simp only [List.getElem?_toArray, List.getElem?_cons_zero, List.getElem?_cons_succ] at z1
          go_simp
        trivial
      · intro us wq hw hu
        obtain ⟨A5, c5, hX5, hO5⟩ := hu.1
        have hb5 := hb.trans ((below_undrew (hw.below hb.size)).mono (Nat.le_refl _))
        clear hw hu hd Hct Hcd hCx hX x1 hgl hb
        have x0 := hX5.cell 0
        have x1 := hX5.cell 1
        have hgl := hX5.lt
        simp only [List.getElem?_toArray, List.getElem?_cons_zero, List.getElem?_cons_succ] at x0 x1
        rw [← Hcl.out] at x1 hX5 hO5
        simp only [lexL]
        go_simp
        go_wp2_with fail
        have hin5 := Lib.hid (Hin2.out.cut k)
        refine (trans_is n A5 c5 (cutE xs k) _ wq (Cells.of_own hO5) (hin5.out.may (by omega) (by omega) (by rw [Hcl.out]; omega)) rfl).mono ?_
        rintro e w6 ⟨Al6, cl6, rfl, hb6, hC6⟩
        have hX6 := hX5.below hb6 hgl
        have hO6 := own_below hO5 hb6 (Nat.le_refl _)
        have hb7 := hb5.trans (hb6.mono hb5.size)
        go_wp2_with fail
        go_roundg (xs.length - 1)
        case measure => rw [Hk.out]; omega
        case rel =>
          refine ⟨cutE xs k, A5, c5, Al6, cl6, ?_, ?_, ?_, ?_, ?_, ?_, ?_, ?_, ?_⟩
          · rfl
          · exact hC6
          · exact hX6
          · exact hO6
          · exact hin5.out
          · exact fun x y => (cut_way hk2 HK.out.2 x y).trans (Hway.out x y)
          · rw [Hcl.out]; omega
          · exact hb7
          · exact Hcl.out.symm
    · have hz0 : (transL xs xs.length).length = 0 := by omega
      have Hno := Lib.hid (fun (k : Nat) (hk : k < xs.length) => transL_none hz0 hk)
      clear hR hC Hk
      generalize (transL xs xs.length).length = L at *
      subst hz0
      have x0 := hX.cell 0
      have x1 := hX.cell 1
      have hgl := hX.lt
      simp only [List.getElem?_toArray, List.getElem?_cons_zero, List.getElem?_cons_succ] at x0 x1
      have c0 := (hb.cell (p := ⟨w.heap.size, 0, none⟩) l3).trans b0
      have c1 := (hb.cell (p := ⟨w.heap.size, 1, none⟩) l3).trans b1
      have hesr := (hes3.below (hb.mono (Nat.le_of_lt l3))).more (Nat.le_trans (Nat.le_of_lt l3) hb.size)
      have Hesr := Lib.hid hesr
      have HO := Lib.hid (Cells.of_own hO)
      have Hcap := Lib.hid (show 0 < xs.length → xs.length ≤ c3 ∧ ∃ g, A3 = some ⟨g, 0, none⟩ from fun h => by
        obtain ⟨g3, cap3, R3', hsl, _, _, _, hnc3, _⟩ := own_blk hO h
        injection hsl with hA3 _ hc3
        exact ⟨hc3 ▸ hnc3, g3, hA3⟩)
      have Hbr := Lib.hid (hbw3.trans (hb.mono (Nat.le_of_lt l3)))
      have lr : w.heap.size < wr.heap.size := Nat.lt_of_lt_of_le l3 hb.size
      have ks : ∀ w', Below wr.heap.size wr w' → w'.cell? ⟨w.heap.size, 0, none⟩ = some (.int .i64 n) ∧ w'.cell? ⟨w.heap.size, 1, none⟩ = some (.slice A es.length cap) ∧ w'.cell? ⟨gx, 0, none⟩ = some (.int .i64 n) ∧ w'.cell? ⟨gx, 1, none⟩ = some (.slice A3 xs.length c3) :=
        fun w' h => ⟨(h.cell (p := ⟨w.heap.size, 0, none⟩) lr).trans c0, (h.cell (p := ⟨w.heap.size, 1, none⟩) lr).trans c1, (h.cell (p := ⟨gx, 0, none⟩) hgl).trans x0, (h.cell (p := ⟨gx, 1, none⟩) hgl).trans x1⟩
      have Ks := Lib.hid ks
      have Hmx := Lib.hid (Hin2.out.may (by omega) (by omega) (by omega))
      clear hesr ks hb hX hO b0 b1 hes3 hbw3 l3
      go_wp2_with fail
      have hne : ((n : Int) != (n : Int)) = false := by simp
      have tok1 : True := trivial
      go_region_held3 (fun w' => w'.cell? ⟨w.heap.size, 0, none⟩ = some (.int .i64 n) ∧ w'.cell? ⟨w.heap.size, 1, none⟩ = some (.slice A es.length cap) ∧ w'.cell? ⟨gx, 0, none⟩ = some (.int .i64 n) ∧ w'.cell? ⟨gx, 1, none⟩ = some (.slice A3 xs.length c3))
        (first | exact ⟨c0, c1, x0, x1⟩ | exact Ks.out _ hb7 | exact Ks.out _ hb5)
        (first
          | (go_at_call 13; have _t := tok1; refine (from_is n A cap es _ (by exact Hesr.out) Hm.out).mono ?_; rintro e w5 ⟨g5, c5, T5, rfl, hb5', hg5, hT5, hc5⟩; have hb5 := below_undrew hb5'; clear tok1)
          | (go_at_call 13; refine (from_is n A3 c3 xs _ (by exact (HO.out.below hb5).more hb5.size) Hmx.out).mono ?_; rintro e w6 ⟨g6, c6, T6, rfl, hb6, hg6, hT6, hc6⟩; have hb7 := hb5.trans (hb6.mono hb5.size)))
      have hb8 : Below wr.heap.size wr w6 := hb7
      have HC5 := Lib.hid (fun (i : Nat) (hi : i < n) => (hb6.cell (p := ⟨g5, i, none⟩) hg5).trans (hc5 i hi))
      have HC6 := Lib.hid (fun (i : Nat) (hi : i < n) => (hc6 i hi).trans (by rw [← good_same Hin.out Hin2.out Hway.out hT5 hT6 hi]))
      obtain ⟨_, _, y0, y1⟩ := Ks.out _ hb8
      have HO6 := Lib.hid (HO.out.below hb8)
      have Hb9 := Lib.hid (Hbr.out.trans (hb8.mono (Nat.le_of_lt lr)))
      have hgx6 : gx < w6.heap.size := Nat.lt_of_lt_of_le hgl hb8.size
      have hr6 : wr.heap.size ≤ w6.heap.size := hb8.size
      clear hb7 hb5 hb5' hb6 hc5 hc6 hT6 hg5 hg6 Ks x0 x1 c0 c1 Hesr HO hgl _t Hway hb8 Hbr
      generalize wr.heap.size = N at *
      go_wp2_with fail
      go_loopg [77] n (fun k s77 wq => ∃ i m : Nat, s77 = .int .i64 i ∧ i ≤ n ∧ k = n - i ∧ wq = w6.drewN m)
      case atStart => exact ⟨0, 0, rfl, Nat.zero_le _, rfl, rfl⟩
      case round =>
        obtain ⟨i, m, rfl, hi, hk, hwq⟩ := hrel
        have Hk2 := Lib.hid hk; clear hk
        by_cases hlt : i < n
        · have hlt' : (i : Int) < n := by omega
          have e5 : wr.cell? ⟨g5, i, none⟩ = some (.int .u64 (T5.getD i 0 : Nat)) := by rw [hwq]; exact HC5.out i hlt
          have e6 : wr.cell? ⟨g6, i, none⟩ = some (.int .u64 (T5.getD i 0 : Nat)) := by rw [hwq]; exact HC6.out i hlt
          have Hwq := Lib.hid hwq; clear hwq
          generalize T5.getD i 0 = z at *
          have eb : ((z : Int) != (z : Int)) = false := by simp
          go_wp2_with fail
          go_quiet (fail)
          go_wp2_with fail
          go_roundg (n - (i + 1))
          case measure => rw [Hk2.out]; omega
          case rel => exact ⟨i + 1, m + nq, by go_num, by omega, rfl, by rw [Hwq.out]; simp⟩
        · have y0 : wr.cell? ⟨gx, 0, none⟩ = some (.int .i64 n) := by rw [hwq]; exact y0
          have y1 : wr.cell? ⟨gx, 1, none⟩ = some (.slice A3 xs.length c3) := by rw [hwq]; exact y1
          have HOq := Lib.hid (show Cells wr N A3 (edgeCells xs) by rw [hwq]; exact HO6.out)
          have Hbq := Lib.hid (show Below w.heap.size w wr by rw [hwq]; exact below_drewN Hb9.out m)
          have hgq : gx < wr.heap.size := by rw [hwq]; exact hgx6
          have hrq : N ≤ wr.heap.size := by rw [hwq]; exact hr6
          clear hwq HC5 HC6 HO6 Hb9 hgx6 hr6 hi Hk2
          obtain ⟨wq, rfl⟩ : ∃ x, x = wr := ⟨_, rfl⟩
          go_wp2_with fail
          go_loopg [93] xs.length (fun k s93 wr => ∃ j : Nat, s93 = .int .i64 j ∧ j ≤ xs.length ∧ k = xs.length - j ∧ Below wq.heap.size wq wr)
          case atStart => exact ⟨0, rfl, Nat.zero_le _, rfl, Below.refl _ _⟩
          case round =>
            obtain ⟨j, rfl, hj, hk, hbz⟩ := hrel
            have Hk2 := Lib.hid hk; clear hk
            by_cases hlt : j < xs.length
            · have hlt' : (j : Int) < xs.length := by omega
              obtain ⟨hnc3, g3, rfl⟩ := Hcap.out (by omega)
              obtain ⟨b, off, hbo, hbb, hcc⟩ := HOq.out.edges (by omega)
              injection hbo with hbo
              injection hbo with hb1 hb2
              subst hb1 hb2
              obtain ⟨q0, q1⟩ := hcc j hlt
              obtain ⟨t, h, hth, htn, hhn⟩ := Hin2.out.at_ hlt
              have HE := Lib.hid (List.getElem?_eq_some_iff.2 ⟨hlt, hth⟩)
              rw [hth] at q0 q1
              simp only [Nat.zero_add] at q0 q1
              have p0 := (hbz.cell (p := ⟨g3, j * 2, none⟩) (Nat.lt_of_lt_of_le hbb hrq)).trans q0
              have p1 := (hbz.cell (p := ⟨g3, j * 2 + 1, none⟩) (Nat.lt_of_lt_of_le hbb hrq)).trans q1
              have hbl : g3 < wr.heap.size := Nat.lt_of_lt_of_le (Nat.lt_of_lt_of_le hbb hrq) hbz.size
              have z0 := (hbz.cell (p := ⟨gx, 0, none⟩) hgq).trans y0
              have z1 := (hbz.cell (p := ⟨gx, 1, none⟩) hgq).trans y1
              have hgz : gx < wr.heap.size := Nat.lt_of_lt_of_le hgq hbz.size
              clear hcc q0 q1 hth
              obtain ⟨Ad, hd, hcd⟩ := slice_drop g3 (j + 1) xs.length c3 hnc3 xs rfl
              have hOr := HOq.out.below (hbz.mono hrq)
              have Hct := Lib.hid (slice_take j (hOr.more (Nat.le_trans hrq hbz.size)))
              have Hcd := Lib.hid (hcd _ _ (hOr.more (Nat.le_trans hrq hbz.size)))
              have Hcl := Lib.hid (cutE_length hlt)
              clear hcd hOr HOq
              go_upto_region 25 with fail
              have hb7 := (Below.refl wr.heap.size wr).alloc (Nat.le_refl _) (.cells #[.int .i64 t, .int .i64 h] 34)
              have z0 := (hb7.cell (p := ⟨gx, 0, none⟩) hgz).trans z0
              have z1 := (hb7.cell (p := ⟨gx, 1, none⟩) hgz).trans z1
              have v0 := (Blk.new wr 34 #[.int .i64 t, .int .i64 h]).cell 0
              have v1 := (Blk.new wr 34 #[.int .i64 t, .int .i64 h]).cell 1
              simp only [List.getElem?_toArray, List.getElem?_cons_zero, List.getElem?_cons_succ] at v0 v1
              have hgw : gx < (wr.alloc (.cells #[.int .i64 t, .int .i64 h] 34)).heap.size := Nat.lt_of_lt_of_le hgz hb7.size
              have hlw : wr.heap.size < (wr.alloc (.cells #[.int .i64 t, .int .i64 h] 34)).heap.size := by simp
              have Hb7 := Lib.hid (hbz.trans (hb7.mono hbz.size))
              have Hct := Lib.hid ((Hct.out.below hb7).more hb7.size)
              have Hcd := Lib.hid ((Hcd.out.below hb7).more hb7.size)
              clear hb7 hbz hgz p0 p1 hbl
              generalize wr.heap.size = g10 at *
              generalize wr.alloc (.cells #[.int .i64 t, .int .i64 h] 34) = w7 at *
              go_cut [11] (fun s11 wc => ∃ gy A c, s11 = .pointer (some ⟨gy, 0, none⟩) ∧ w7.heap.size ≤ gy ∧ Blk wc gy 24 #[.int .i64 n, .slice A (xs.length - 1 : Nat) c] ∧ wc.ownsRow w7.heap.size 34 2 (.slice A (xs.length - 1) c) (xs.length - 1) (edgeCells (cutE xs j)) ∧ Below w7.heap.size w7 wc)
              case first =>
                refine wp_region_q w7.heap.size [[], [34], [24]] [0, 0, 0, 0, 0, 0, 0, 0, 0, 0, 0, 0, 0, 1, 0, 0, 2]
                  [([], .val (.pointer (some ⟨gx, 0, none⟩))), ([0], .val (.int .i64 n)), ([], .row 34 #[] 0 0), ([], .val (.pointer (some ⟨gx, 1, none⟩))), ([3], .val (.slice (some ⟨g3, 0, none⟩) xs.length c3)), ([], .val (.int .i64 j)), ([4, 5], .val (.slice (some ⟨g3, 0, none⟩) j c3)),
                   ([2, 6], .own 34 2 j (edgeCells (xs.take j))),
                   ([], .val (.pointer (some ⟨gx, 1, none⟩))), ([8], .val (.slice (some ⟨g3, 0, none⟩) xs.length c3)), ([], .val (.int .i64 j)), ([10], .val (.int .i64 (j + 1 : Nat))), ([9, 11], .val (.slice Ad (xs.length - (j + 1)) (c3 - (j + 1)))),
                   ([7, 12], .own 34 2 (xs.length - 1) (edgeCells (cutE xs j))),
                   ([1, 13], .owned 34 2 (xs.length - 1) (edgeCells (cutE xs j)) (fun v => .agg #[.int .i64 n, v])),
                   ([], .blk 24 #[.int .i64 0, .slice none 0 0]), ([14, 15], .stored 15 24 34 2 (xs.length - 1) (edgeCells (cutE xs j)) (fun v => #[.int .i64 n, v]))]
                  [16] (by kernel_rfl) (by kernel_rfl) (fun us => ?_) ?_
                · have hbB : ∀ wv : World, Evo w7.heap.size (allT [[], [34], [24]]) w7.drew wv → Below w7.heap.size w7 wv := fun _ h => below_undrew (h.below (Nat.le_refl _))
                  have HbB := Lib.hid hbB
                  clear hbB
                  refine pgo_pure _ rfl rfl (fun wv hw hu => ⟨.pointer (some ⟨gx, 0, none⟩), ?_, rfl⟩) ?_
                  · clear hw hu
                    go_simp
                  refine pgo_pure _ rfl rfl (fun wv hw hu => ⟨.int .i64 n, ?_, rfl⟩) ?_
                  · have h0 : us 0 = .pointer (some ⟨gx, 0, none⟩) := hu.1
                    have c0 := ((HbB.out _ hw).cell (p := ⟨gx, 0, none⟩) hgw).trans z0
                    clear hw hu
                    go_simp
                  refine pgo_val _ rfl rfl (fun wv hw hu => ⟨.slice (some ⟨wv.heap.size, 0, none⟩) 0 0, wv.alloc (.cells #[] 34), ?_, Evo.of_below ((Below.refl _ _).alloc (Nat.le_refl _) _), ⟨_, rfl, (HbB.out _ hw).size, Blk.new _ _ _⟩⟩) ?_
                  · clear hw hu
                    go_simp
                  refine pgo_pure _ rfl rfl (fun wv hw hu => ⟨.pointer (some ⟨gx, 1, none⟩), ?_, rfl⟩) ?_
                  · clear hw hu
                    go_simp
                  refine pgo_pure _ rfl rfl (fun wv hw hu => ⟨.slice (some ⟨g3, 0, none⟩) xs.length c3, ?_, rfl⟩) ?_
                  · have h0 : us 3 = .pointer (some ⟨gx, 1, none⟩) := hu.1
                    have c0 := ((HbB.out _ hw).cell (p := ⟨gx, 1, none⟩) hgw).trans z1
                    clear hw hu
                    go_simp
                  refine pgo_pure _ rfl rfl (fun wv hw hu => ⟨.int .i64 j, ?_, rfl⟩) ?_
                  · clear hw hu
                    go_simp
                  refine pgo_pure _ rfl rfl (fun wv hw hu => ⟨.slice (some ⟨g3, 0, none⟩) j c3, ?_, rfl⟩) ?_
                  · have h0 : us 4 = .slice (some ⟨g3, 0, none⟩) xs.length c3 := hu.1
                    have h1 : us 5 = .int .i64 j := hu.2.1
                    have hkc : j ≤ c3 := by omega
                    clear hw hu
                    go_simp
                  refine pgo_op _ rfl rfl (fun K wv hw hu hK => ?_) ?_
                  · obtain ⟨g, h0, hg, hgb⟩ := hu.1
                    have h4 : us 6 = .slice (some ⟨g3, 0, none⟩) j c3 := hu.2.1
                    have hkl2 : (xs.take j).length = j := by simp; omega
                    refine wpo_app_fresh elemEdge _ _ rfl (by repeat (first | (with_reducible exact (put_eval_same _ _ _ (by simp [put_size])).trans h0) | (with_reducible refine put_eval _ _ _ _ _ (by decide) ?_))) hgb hg (by repeat (first | (with_reducible exact (put_eval_same _ _ _ (by simp [put_size])).trans h4) | (with_reducible refine put_eval _ _ _ _ _ (by decide) ?_))) (Hct.out.keep (w' := wv) (fun p hp => (HbB.out _ hw).cell hp)) (edgeCells_length _ |>.trans (by rw [hkl2]; exact Nat.mul_comm _ _)) (by omega) (by omega) (HbB.out _ hw).size (fun A' c' w' ho hb' => ?_)
                    exact hK _ _ (Evo.of_below hb') ⟨_, _, rfl, ho⟩
                  refine pgo_pure _ rfl rfl (fun wv hw hu => ⟨.pointer (some ⟨gx, 1, none⟩), ?_, rfl⟩) ?_
                  · clear hw hu
                    go_simp
                  refine pgo_pure _ rfl rfl (fun wv hw hu => ⟨.slice (some ⟨g3, 0, none⟩) xs.length c3, ?_, rfl⟩) ?_
                  · have h0 : us 8 = .pointer (some ⟨gx, 1, none⟩) := hu.1
                    have c0 := ((HbB.out _ hw).cell (p := ⟨gx, 1, none⟩) hgw).trans z1
                    clear hw hu
                    go_simp
                  refine pgo_pure _ rfl rfl (fun wv hw hu => ⟨.int .i64 j, ?_, rfl⟩) ?_
                  · clear hw hu
                    go_simp
                  refine pgo_pure _ rfl rfl (fun wv hw hu => ⟨.int .i64 (j + 1 : Nat), ?_, rfl⟩) ?_
                  · have h0 : us 10 = .int .i64 j := hu.1
                    have hw1 : IntKind.i64.wrap ((j : Int) + 1) = (j : Int) + 1 := by rw [IntKind.wrap_i64]; omega
                    clear hw hu
                    go_simp
                  refine pgo_pure _ rfl rfl (fun wv hw hu => ⟨.slice Ad (xs.length - (j + 1)) (c3 - (j + 1)), ?_, rfl⟩) ?_
                  · have h0 : us 9 = .slice (some ⟨g3, 0, none⟩) xs.length c3 := hu.1
                    have h1 : us 11 = .int .i64 (j + 1 : Nat) := hu.2.1
                    have hkc : 0 ≤ (j : Int) + 1 := by omega
                    have hkc2 : (j : Int) + 1 ≤ xs.length := by omega
                    clear hw hu
                    go_simp
                  refine pgo_op _ rfl rfl (fun K wv hw hu hK => ?_) ?_
                  · obtain ⟨A5, c5, h5, ho5⟩ := hu.1
                    have h10 : us 12 = .slice Ad (xs.length - (j + 1)) (c3 - (j + 1)) := hu.2.1
                    rw [h5] at ho5
                    have hdl : (xs.drop (j + 1)).length = xs.length - (j + 1) := by simp
                    refine wpo_app_any elemEdge _ _ rfl (by repeat (first | (with_reducible exact (put_eval_same _ _ _ (by simp [put_size])).trans h5) | (with_reducible refine put_eval _ _ _ _ _ (by decide) ?_))) ho5 (by repeat (first | (with_reducible exact (put_eval_same _ _ _ (by simp [put_size])).trans h10) | (with_reducible refine put_eval _ _ _ _ _ (by decide) ?_))) (Hcd.out.keep (w' := wv) (fun p hp => (HbB.out _ hw).cell hp)) (edgeCells_length _ |>.trans (by rw [hdl]; exact Nat.mul_comm _ _)) (edgeCells_one _) (by omega) (by omega) (HbB.out _ hw).size (fun v' w' ho hgr _ => ?_)
                    rw [edgeCells_append, show j + (xs.length - (j + 1)) = xs.length - 1 by omega] at ho
                    obtain ⟨A', c', rfl⟩ := own_slice ho
                    exact hK _ _ (Evo.of_grown ho5 hgr (by simp) (Nat.le_refl _)) ⟨_, _, rfl, ho⟩
                  refine pgo_pure _ rfl rfl (fun wv hw hu => ?_) ?_
                  · have h1 : us 1 = .int .i64 n := hu.1
                    obtain ⟨A1, c1, h10, ho10⟩ := hu.2.1
                    rw [h10] at ho10
                    refine ⟨.agg #[.int .i64 n, .slice A1 (xs.length - 1) c1], ?_, A1, c1, rfl, ho10⟩
                    clear hw hu ho10
                    go_simp
                  refine pgo_val _ rfl rfl (fun wv hw hu => ⟨.pointer (some ⟨wv.heap.size, 0, none⟩), wv.alloc (.cells #[.int .i64 0, .slice none 0 0] 24), ?_, Evo.of_below ((Below.refl _ _).alloc (Nat.le_refl _) _), ⟨_, rfl, (HbB.out _ hw).size, Blk.new _ _ _⟩⟩) ?_
                  · clear hw hu
                    go_simp
                  refine pgo_skip _ rfl rfl (fun wv hw hu => ?_) ?_
                  · obtain ⟨A1, c1, h11, ho⟩ := hu.1
                    obtain ⟨g, h12, hg, hgb⟩ := hu.2.1
                    have z0 := hgb.cell 0
                    have z1 := (hgb.set_ 0 (.int .i64 n)).cell 1
                    have f0 := hgb.frozen 0
                    have f1 := (hgb.set_ 0 (.int .i64 n)).frozen 1
                    refine ⟨(wv.setCell ⟨g, 0, none⟩ (.int .i64 n)).setCell ⟨g, 1, none⟩ (.slice A1 (xs.length - 1) c1), ?_, (Evo.set_ hgb (by simp) hg 0 _).trans (Evo.set_ (hgb.set_ 0 (.int .i64 n)) (by simp) hg 1 _), g, A1, c1, h12, hg, (hgb.set_ 0 (.int .i64 n)).set_ 1 (.slice A1 (xs.length - 1) c1), ?_⟩
                    · clear hw hu ho hgb
                      simp only [List.getElem?_toArray, List.getElem?_cons_zero, List.getElem?_cons_succ] at z0 z1
                      go_simp
                    · exact own_set (own_set ho hgb (by decide) _ _) (hgb.set_ 0 (.int .i64 n)) (by decide) _ _
                  trivial
                · intro us w' hw hu
                  obtain ⟨g, A1, c1, h12, hg, hgb, ho⟩ := hu.1
                  have hbl := below_undrew (hw.below (Nat.le_refl _))
                  clear hw hu
                  simp only [lexL]
                  go_simp
                  go_wp2_with fail
                  go_meet
                  exact ⟨g, A1, c1, rfl, hg, by simpa using hgb, ho, hbl⟩
              obtain ⟨gy, A8, c8, rfl, hgy, hY, hO8, hb8⟩ := hcut
              rw [← Hcl.out] at hY hO8
              have u0 := hY.cell 0
              have u1 := hY.cell 1
              simp only [List.getElem?_toArray, List.getElem?_cons_zero, List.getElem?_cons_succ] at u0 u1
              have v0 := (hb8.cell (p := ⟨g10, 0, none⟩) hlw).trans v0
              have v1 := (hb8.cell (p := ⟨g10, 1, none⟩) hlw).trans v1
              have hlw8 : g10 < wc.heap.size := Nat.lt_of_lt_of_le hlw hb8.size
              have Hb8 := Lib.hid (Hb7.out.trans (hb8.mono Hb7.out.size))
              have HO8 := Lib.hid (Cells.of_own hO8)
              clear hY hO8 hb8 Hct Hcd z0 z1
              have hin5 := Lib.hid (Hin2.out.cut j)
              go_wp2_with fail
              refine (from_is n A8 c8 (cutE xs j) wc HO8.out (hin5.out.may (by omega) (by omega) (by rw [Hcl.out]; omega))).mono ?_
              rintro e w9 ⟨g9, c9, T9, rfl, hb9, hg9, hT9, hc9⟩
              have v0 := (hb9.cell (p := ⟨g10, 0, none⟩) hlw8).trans v0
              have v1 := (hb9.cell (p := ⟨g10, 1, none⟩) hlw8).trans v1
              obtain ⟨hth, _, _, hno⟩ := good_cut Hin2.out (by omega) (Hno.out j hlt) HE.out hT9
              have hd : ((t : Int) != (h : Int)) = true := by simp; omega
              have ct9 := hc9 t htn
              have hz : T9.getD t 0 < 18446744073709551616 := hT9.1.at_ t
              have HN := Lib.hid hno
              have Hb9 := Lib.hid (Hb8.out.trans (hb9.mono Hb8.out.size))
              have htn' : (t : Int) < n := by omega
              generalize T9.getD t 0 = z at *
              clear hc9 hno u0 u1 hb9 hth
              go_wp2_with fail
              go_quiet ((go_at_call 14; exact quiet_left (has_is _ HN.out hz)))
              go_wp2_with fail
              go_roundg (xs.length - (j + 1))
              case measure => rw [Hk2.out]; omega
              case rel => exact ⟨j + 1, by go_num, by omega, rfl, below_drewN Hb9.out nq⟩
            · have hbf := Hbq.out.trans (hbz.mono (Nat.le_trans (Nat.le_of_lt lr) hrq))
              go_wp2_with fail
              go_ret
              exact ⟨rfl, hbf⟩
theorem good_any (n : Int) (A : Option Addr) (cap : Nat) (es : List (Int × Int)) (w : World) (hes : Cells w w.heap.size A (edgeCells es)) :
    Calls Try.prog 3 #[.agg #[.int .i64 n, .slice A es.length cap]] w (fun e w' => e = .returned (.bool true) ∧ Below w.heap.size w w') := by
  cases hm : mayB n es with
  | false => exact good_no n A cap es w hes (.inl hm)
  | true =>
    rcases Nat.lt_or_ge 40 es.length with hl | hl
    · exact good_no n A cap es w hes (.inr hl)
    · obtain ⟨n, rfl⟩ := Int.eq_ofNat_of_zero_le (Int.le_of_lt (may_parts hm).1)
      exact good_yes n A cap es w hes hm hl
end Go.Proofs.Ythdifhfmgmmljaa
