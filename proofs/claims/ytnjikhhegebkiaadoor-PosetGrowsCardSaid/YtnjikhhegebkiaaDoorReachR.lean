/-
  arborref17.Reach: what it computes. Written by an AI agent.
-/
import Derived.Test.YtnjikhhegebkiaaDoorChLaw
import Derived.Test.YtnjikhhegebkiaaDoorRefs
import Derived.Test.YtnjikhhegebkiaaDoorLev
import Derived.Test.YtnjikhhegebkiaaDoorRegion5
namespace Go.Proofs.YtnjikhhegebkiaaDoor
open Go.RowKit

theorem elemBRows : Elem Tryd.prog 37 59 (.slice none 0 0) 1 24 := Elem.mk' Tryd.underlying37 (by kernel_rfl) rfl (by omega)
theorem goAll_length (both : Bool) (cnts : List Bool) (es : List (Int × Int)) (n f : Nat) : (goAll both cnts es n f).length = n := by
  unfold goAll; rw [goN_length]; simp [goInit]
/-- a slice of one element, which an operation told -/
def pfRow1 {B : Nat} (j : Nat) (t : TypeId) : PFact B :=
  ⟨[t], [j], fun us v w => ∃ g, v = .slice (some ⟨g, 0, none⟩) 1 1 ∧ B ≤ g ∧ Blk w g t #[us j], fun _ hT _ _ _ _ he ⟨g, hv, hg, hb⟩ => ⟨g, hv, hg, hb.evo he (.inr (hT t (by simp)))⟩, fun _ _ h _ _ ⟨g, hv, hg, hb⟩ => ⟨g, hv, hg, by rw [← h j (by simp)]; exact hb⟩⟩
/-- a row of the call's own, with one element more, which an operation told -/
def pfOwn1 {B : Nat} (j : Nat) (e : TypeId) (n : Nat) (xs : List Value) : PFact B :=
  ⟨[e], [j], fun us v w => ∃ A c, v = .slice A n c ∧ w.ownsRow B e 1 v n (xs ++ [us j]), fun _ hT _ _ _ _ he ⟨A, c, hv, ho⟩ => ⟨A, c, hv, own_evo ho he (hT e (by simp))⟩, fun _ _ h _ _ ⟨A, c, hv, ho⟩ => ⟨A, c, hv, by rw [← h j (by simp)]; exact ho⟩⟩
/-- rows of bools of the call's own -/
structure RowsBo (w : World) (base n : Nat) (f : Nat → List Bool) (vs : List Value) : Prop where
  own : ∀ k (h : k < vs.length), w.ownsRow base 4 1 vs[k] n (boolCells (f k))
theorem RowsBo.evo {B base n : Nat} {f : Nat → List Bool} {T : List TypeId} {w w' : World} {vs : List Value} (h : RowsBo w base n f vs) (he : Evo B T w w') (ht : 4 ∉ T) : RowsBo w' base n f vs := ⟨fun k hk => own_evo (h.own k hk) he ht⟩
theorem RowsBo.snoc {base n : Nat} {f : Nat → List Bool} {w : World} {vs : List Value} {v : Value} (h : RowsBo w base n f vs) (hv : w.ownsRow base 4 1 v n (boolCells (f vs.length))) : RowsBo w base n f (vs ++ [v]) := by
  refine ⟨fun k hk => ?_⟩
  by_cases hk2 : k < vs.length
  · simp only [List.getElem_append_left hk2]
    exact h.own k hk2
  · have e : k = vs.length := by simp at hk; omega
    subst e
    rw [List.getElem_concat_length (by rfl)]
    exact hv
/-- what reaches what, as the reference lays it, below block B -/
def MatR (w : World) (B : Nat) (A : Option Addr) (n : Nat) (R : Nat → Nat → Bool) : Prop :=
  ∃ g, A = some ⟨g, 0, none⟩ ∧ g < B ∧ ∀ x, x < n → ∃ b c, w.cell? ⟨g, x, none⟩ = some (.slice (some ⟨b, 0, none⟩) n c) ∧ b < B ∧ ∀ y, y < n → w.cell? ⟨b, y, none⟩ = some (.bool (R x y))
theorem MatR.keep {w w' : World} {B : Nat} {A : Option Addr} {n : Nat} {R : Nat → Nat → Bool} (h : MatR w B A n R) (hb : Below B w w') : MatR w' B A n R := by
  obtain ⟨g, rfl, hg, h⟩ := h
  refine ⟨g, rfl, hg, fun x hx => ?_⟩
  obtain ⟨b, c, h1, h2, h3⟩ := h x hx
  exact ⟨b, c, (hb.cell (p := ⟨g, x, none⟩) hg).trans h1, h2, fun y hy => (hb.cell (p := ⟨b, y, none⟩) h2).trans (h3 y hy)⟩
theorem matR_of {w : World} {base n : Nat} {f : Nat → List Bool} {v : Value} {vs : List Value} (hn : 0 < n) (hv : w.ownsRow base 59 1 v n vs) (hl : vs.length = n) (hr : RowsBo w base n f vs) (hf : ∀ k, (f k).length = n) :
    ∃ A c, v = .slice A n c ∧ MatR w w.heap.size A n fun x y => (f x).getD y false := by
  obtain ⟨g, cap, R, rfl, hg, hk, _⟩ := own_blk hv hn
  refine ⟨_, cap, rfl, g, rfl, hk.lt, fun x hx => ?_⟩
  have hx' : x < vs.length := by omega
  obtain ⟨b, c, R', hb, hbg, hbk, _⟩ := own_blk (hr.own x hx') hn
  refine ⟨b, c, ?_, hbk.lt, fun y hy => hbk.boolR (by rw [hf]; exact hy)⟩
  rw [hk.cell x, Array.getElem?_append_left (by simpa using hx')]
  simp [hx', hb]
set_option maxRecDepth 20000 in
set_option maxHeartbeats 4000000 in
theorem reach_ref (n : Nat) (A : Option Addr) (cap : Nat) (es : List (Int × Int)) (w : World) (hes : Cells w w.heap.size A (edgeCells es)) (hin : InN n es) (hp : 0 < n) (hn : n ≤ 64) (hlen : es.length ≤ 128) :
    Calls Tryd.prog 15 #[.agg #[.int .i64 n, .slice A es.length cap]] w (fun e w' => ∃ A' c', e = .returned (.slice A' n c') ∧ Below w.heap.size w w' ∧ MatR w' w'.heap.size A' n (reachB n es)) := by
  have b0 := Blk.new w 24 #[.int .i64 n, .slice A es.length cap]
  have hbw := (Below.refl w.heap.size w).alloc (Nat.le_refl _) (.cells #[.int .i64 n, .slice A es.length cap] 24)
  have s1 := World.size_alloc w (.cells #[.int .i64 n, .slice A es.length cap] 24)
  have hesa := (hes.below hbw).more hbw.size
  have HIN := Lib.hid hin
  go_enter Tryd.func15, Tryd.ntmps15
  go_upto_region 1 with fail
  generalize w.alloc (.cells #[.int .i64 n, .slice A es.length cap] 24) = w1 at *
  have HW1 := Lib.hid hbw
  have HES := Lib.hid hesa
  have HB0 := Lib.hid b0
  have l1 : w.heap.size < w1.heap.size := by omega
  have HB2 := Lib.hid ((Below.refl w1.heap.size w1).alloc (Nat.le_refl _) (.cells #[] 59))
  have HO2 := Lib.hid (own_of_blk (xs := []) (Blk.new w1 59 #[]) (Nat.le_refl _) (show _ = 0 from rfl) (by omega))
  clear hbw b0 hesa hes s1 hin
  go_wp2_with fail
  generalize w1.alloc (.cells #[] 59) = w2 at *
  obtain ⟨f, hf⟩ : ∃ f, f = fun k => goAll false (List.replicate es.length true) es n k := ⟨_, rfl⟩
  have HF := Lib.hid (show ∀ k, (f k).length = n from fun k => by rw [hf]; exact goAll_length _ _ _ _ _)
  have HFE := Lib.hid hf
  clear hf
  generalize hB : w1.heap.size = B at *
  go_loopg [3, 4] n (fun k s3 s4 wr => ∃ (x : Nat) (vs : List Value), s4 = .int .i64 x ∧ vs.length = x ∧ x ≤ n ∧ k = n - x ∧ Below B w1 wr ∧ wr.ownsRow B 59 1 s3 x vs ∧ RowsBo wr B n f vs)
  case atStart => exact ⟨0, [], rfl, rfl, Nat.zero_le _, rfl, HB2.out, HO2.out, ⟨fun k h => absurd h (by simp)⟩⟩
  case round =>
    obtain ⟨x, vs, rfl, hvl, hx, hk, hb, ho, hr⟩ := hrel
    have Hk := Lib.hid hk
    have HB := Lib.hid hb
    have HR := Lib.hid hr
    obtain ⟨A3, c3, rfl⟩ := own_slice ho
    have HO := Lib.hid ho
    have hz := hb.size
    have HG := Lib.hid (HB0.out.below hb (by omega))
    have g0 : wr.cell? ⟨w.heap.size, 0, none⟩ = some (.int .i64 n) := HG.out.cell 0
    have HES3 := Lib.hid (show Cells wr wr.heap.size A (edgeCells es) from (HES.out.below hb).more (by omega))
    have HVL := Lib.hid hvl
    have hBz : B ≤ wr.heap.size := by omega
    have HBZ := Lib.hid hBz
    clear hk hb hr ho hvl
    by_cases hlt : x < n
    · have hlt' : (x : Int) < n := by omega
      obtain ⟨gb, hgb⟩ : ∃ gb, gb = w.heap.size := ⟨_, rfl⟩
      rw [← hgb] at HG g0 l1
      rw [← hgb]
      have HGE := Lib.hid hgb
      clear hgb
      go_upto_region 5 with fail
      clear g0
      refine R3.wp_region_i B [[], [59]] [0, 0, 0, 0, 0, 0, 0, 1, 0]
        [([], .val (.slice A3 x c3)), ([], .val (.agg #[.int .i64 n, .slice A es.length cap])), ([], .val (.int .i64 x)), ([], .val (.agg #[.int .i64 n, .slice A es.length cap])), ([3], .own 4 1 es.length (boolCells (List.replicate es.length true))), ([1, 2, 4], .own 4 1 n (boolCells (f x))), ([5], pfRow1 5 59), ([0, 6, 5], pfOwn1 5 59 (x + 1) vs), ([7], pfSame 7)] [8, 7, 5] (by kernel_rfl) (by kernel_rfl) (fun us => ?_) ?_
      · refine R3.pgo_pure _ rfl rfl (fun wv hw hu => ⟨.slice A3 x c3, ?_, rfl⟩) ?_
        · clear hw hu
          go_simp
        refine R3.pgo_pure _ rfl rfl (fun wv hw hu => ⟨.agg #[.int .i64 n, .slice A es.length cap], ?_, rfl⟩) ?_
        · have zy0 : wv.cell? ⟨gb, 0, none⟩ = some (.int .i64 n) := ((evo_nil (by kernel_rfl) hw).cell (p := ⟨gb, 0, none⟩) HG.out.lt).trans (HG.out.cell 0)
          have zy1 : wv.cell? ⟨gb, 1, none⟩ = some (.slice A es.length cap) := ((evo_nil (by kernel_rfl) hw).cell (p := ⟨gb, 1, none⟩) HG.out.lt).trans (HG.out.cell 1)
          clear hw hu
          go_simp
        refine R3.pgo_pure _ rfl rfl (fun wv hw hu => ⟨.int .i64 x, ?_, rfl⟩) ?_
        · clear hw hu
          go_simp
        refine R3.pgo_pure _ rfl rfl (fun wv hw hu => ⟨.agg #[.int .i64 n, .slice A es.length cap], ?_, rfl⟩) ?_
        · have zy0 : wv.cell? ⟨gb, 0, none⟩ = some (.int .i64 n) := ((evo_nil (by kernel_rfl) hw).cell (p := ⟨gb, 0, none⟩) HG.out.lt).trans (HG.out.cell 0)
          have zy1 : wv.cell? ⟨gb, 1, none⟩ = some (.slice A es.length cap) := ((evo_nil (by kernel_rfl) hw).cell (p := ⟨gb, 1, none⟩) HG.out.lt).trans (HG.out.cell 1)
          clear hw hu
          go_simp
        refine R3.pgo_op _ rfl rfl (fun K wv hw hu hK => ?_) ?_
        · have h3 : us 3 = .agg #[.int .i64 n, .slice A es.length cap] := hu.1
          have hsz : B ≤ wv.heap.size := Nat.le_trans HBZ.out hw.size
          refine wpo_call (f := 29) (args := #[.agg #[.int .i64 n, .slice A es.length cap]]) ?_ ((every_any n A cap es wv (by omega)).mono ?_)
          · clear hK hw hu
            go_simp
          rintro e w' ⟨v, rfl, hb, ho⟩
          rw [boolCells_length, List.length_replicate] at ho
          obtain ⟨A', c', rfl⟩ := own_slice ho
          exact ⟨_, rfl, hK _ _ (Evo.of_below hb) ⟨_, _, rfl, own_mono ho hsz⟩⟩
        refine R3.pgo_op _ rfl rfl (fun K wv hw hu hK => ?_) ?_
        · have h1 : us 1 = .agg #[.int .i64 n, .slice A es.length cap] := hu.1
          have h2 : us 2 = .int .i64 x := hu.2.1
          obtain ⟨A', c', h4, ho4⟩ := hu.2.2.1
          have hsz : B ≤ wv.heap.size := Nat.le_trans HBZ.out hw.size
          rw [h4] at ho4
          have hbl := evo_nil (by kernel_rfl) hw
          have hC := Cells.of_own ho4
          refine wpo_call (f := 28) (args := #[.agg #[.int .i64 n, .slice A es.length cap], .int .i64 x, .bool false, .slice A' es.length c']) ?_ ((go_any n x A A' cap c' es false (List.replicate es.length true) wv wv.heap.size (Nat.le_refl _) ((HES3.out.drew.below hbl).more hbl.size) hC HIN.out hn hlen hlt (by simp)).mono ?_)
          · clear hK hw hu ho4 hbl hC
            go_simp
          rintro e w' ⟨v, rfl, hb, ho⟩
          rw [boolCells_length, goAll_length] at ho
          obtain ⟨A', c', rfl⟩ := own_slice ho
          exact ⟨_, rfl, hK _ _ (Evo.of_below hb) ⟨_, _, rfl, by rw [HFE.out]; exact own_mono ho hsz⟩⟩
        refine R3.pgo_val _ rfl rfl (fun wv hw hu => ?_) ?_
        · obtain ⟨A', c', h5, _⟩ := hu.1
          have hsz : B ≤ wv.heap.size := Nat.le_trans HBZ.out hw.size
          refine ⟨.slice (some ⟨wv.heap.size, 0, none⟩) 1 1, wv.alloc (.cells #[us 5] 59), ?_, Evo.of_below ((Below.refl _ _).alloc (Nat.le_refl _) _), ⟨_, rfl, hsz, Blk.new _ _ _⟩⟩
          rw [h5]
          clear hw hu
          go_simp
        refine R3.pgo_op _ rfl rfl (fun K wv hw hu hK => ?_) ?_
        · have h0 : us 0 = .slice A3 x c3 := hu.1
          obtain ⟨g6, h6, hg6, hb6⟩ := hu.2.1
          obtain ⟨A', c', h5, _⟩ := hu.2.2.1
          have hsz : B ≤ wv.heap.size := Nat.le_trans HBZ.out hw.size
          have hown : wv.ownsRow B 59 1 (.slice A3 x c3) x vs := own_below HO.out.drew (evo_nil (by kernel_rfl) hw) (Nat.le_refl _)
          rw [h5] at hb6
          refine wpo_app_any elemBRows _ _ rfl (by repeat (first | (with_reducible exact (put_eval_same _ _ _ (by simp [put_size])).trans h0) | (with_reducible refine put_eval _ _ _ _ _ (by decide) ?_))) hown (by repeat (first | (with_reducible exact (put_eval_same _ _ _ (by simp [put_size])).trans h6) | (with_reducible refine put_eval _ _ _ _ _ (by decide) ?_))) ((Cells.of_blk (xs := [.slice A' n c']) (R := #[]) (by simpa using hb6)).more hb6.lt) (by rfl) (by rfl) (by omega) (by omega) hsz (fun v' w' ho hg hv => ?_)
          obtain ⟨A8, c8, rfl⟩ := own_slice ho
          exact hK _ _ (Evo.of_grown hown hg (by decide) (Nat.le_refl _)) ⟨_, _, rfl, by rw [h5]; exact ho⟩
        refine R3.pgo_val _ rfl rfl (fun wv hw hu => ?_) ?_
        · obtain ⟨A', c', h7, _⟩ := hu.1
          refine ⟨us 7, wv, ?_, Evo.refl _ _ _, rfl⟩
          rw [h7]
          clear hw hu
          go_simp
        trivial
      · intro us w6 hw hu
        have h8 : us 8 = us 7 := hu.1
        obtain ⟨A7, c7, h7, ho7⟩ := hu.2.1
        obtain ⟨A5, c5, h5, ho5⟩ := hu.2.2.1
        have hev := hw.mono (T' := [59]) (fun t ht => by
          obtain ⟨c, hc, ht⟩ := List.mem_flatMap.1 ht
          match c, ht with
          | 0, ht => simp at ht
          | 1, ht => simpa using ht
          | c + 2, ht => simp at ht)
        have HB6 := Lib.hid (HB.out.trans (below_undrew' (hev.below (show B ≤ wr.drew.heap.size from HBZ.out))))
        have HO6 := Lib.hid ho7
        have HR6 := Lib.hid ((show RowsBo wr.drew B n f vs from ⟨HR.out.own⟩).evo hev (by decide) |>.snoc (by rw [HVL.out]; exact ho5))
        rw [h7] at h8
        rw [h7] at HO6
        clear hw hu hev ho7 ho5
        simp only [lexL]
        go_simp
        go_wp2_with fail
        rw [HGE.out]
        go_roundg (n - (x + 1))
        case measure => rw [Hk.out]; omega
        case rel => exact ⟨x + 1, vs ++ [us 5], by go_num, by simp [HVL.out], by omega, rfl, HB6.out, HO6.out, HR6.out⟩
    · have hxe : x = n := by omega
      subst hxe
      have hlt' : ¬ (x : Int) < x := by omega
      obtain ⟨A', c', he, hm⟩ := matR_of hp HO.out HVL.out HR.out HF.out
      injection he with he1 he2 he3
      subst he1
      have HM := Lib.hid (show MatR wr wr.heap.size A3 x (reachB x es) by
        have := hm
        rw [HFE.out] at this
        exact this)
      clear hm
      go_wp2_with fail
      go_ret
      exact ⟨A3, ⟨_, rfl⟩, HW1.out.trans (HB.out.mono (by omega)), HM.out⟩
end Go.Proofs.YtnjikhhegebkiaaDoor
