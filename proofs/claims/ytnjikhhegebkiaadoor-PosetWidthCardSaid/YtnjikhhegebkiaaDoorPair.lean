/-
  poset.pair: what it computes. (Printed by pairgen.py.) Written by an AI agent.
-/
import Derived.Test.YtnjikhhegebkiaaDoorKuhn
import Derived.Test.YtnjikhhegebkiaaDoorRepeat
import Derived.Test.YtnjikhhegebkiaaDoorRegion4
import Derived.Test.YtnjikhhegebkiaaDoorAsk
import Derived.Test.YtnjikhhegebkiaaDoorWays
import Derived.Test.YtnjikhhegebkiaaDoorApp
import Derived.Test.YtnjikhhegebkiaaDoorLev
namespace Go.Proofs.YtnjikhhegebkiaaDoor
open Go.RowKit

/-- without x itself -/
def offB (s x : Nat) : Nat := s &&& (18446744073709551615 - 2 ^ x)
/-- what each vertex reaches, but itself -/
def abF (T : List Nat) (k : Nat) : List Nat := (List.range k).map fun x => offB (T.getD x 0) x
/-- the pairing behind k vertices -/
def joinF (Ab : List Nat) (n : Nat) : Nat → St
  | 0 => ⟨List.replicate n (-1), List.replicate n (-1), 0⟩
  | k + 1 => (growF Ab 65 k ⟨(joinF Ab n k).nx, (joinF Ab n k).pv, 0⟩).2
theorem abF_succ (T : List Nat) (k : Nat) : abF T (k + 1) = abF T k ++ [offB (T.getD k 0) k] := by
  unfold abF; rw [List.range_succ, List.map_append]; rfl
theorem abF_length (T : List Nat) (k : Nat) : (abF T k).length = k := by simp [abF]
theorem offB_lt {s : Nat} (hs : s < 18446744073709551616) (x : Nat) : offB s x < 18446744073709551616 := Nat.lt_of_le_of_lt Nat.and_le_left hs
theorem off_one (r k : Nat) (hr : r < 18446744073709551616) (hk : k < 64) : bits .andNot .u64 (r : Int) ((ofSet [(k : Int)] : Nat) : Int) = ((offB r k : Nat) : Int) := by
  rw [ofSet_one k hk, Nat.one_shiftLeft]
  exact u64_andNot_nat r _ hr (Nat.pow_lt_pow_right (a := 2) (m := k) (n := 64) (by omega) hk)
theorem offB_bit {s : Nat} (hs : s < 18446744073709551616) {x : Nat} (hx : x < 64) (y : Nat) : (offB s x).testBit y = (!decide (y = x) && s.testBit y) := by
  unfold offB
  rw [bit_off hx]
  rcases Nat.lt_or_ge y 64 with h | h
  · simp [h]
  · have : s.testBit y = false := Nat.testBit_lt_two_pow (Nat.lt_of_lt_of_le hs (Nat.le_trans (by decide : 18446744073709551616 ≤ 2 ^ 64) (Nat.pow_le_pow_right (by omega) h)))
    simp [this]
theorem But.of_grown {w w' : World} {o : Option Nat} (h : w.grownBy w' o) : But o.toList w w' := ⟨h.os, h.tape, h.output, h.size, fun k hk hn => h.block k hk (fun e => hn (by rw [← e]; simp))⟩
theorem own_but {S : List Nat} {w w' : World} {base size n : Nat} {e : TypeId} {v : Value} {xs : List Value} (hb : But S w w') (h : w.ownsRow base e size v n xs) (hn : ∀ k, v.ownBlock = some k → k ∉ S) : w'.ownsRow base e size v n xs := by
  obtain ⟨h1, h2⟩ := h
  refine ⟨h1, ?_⟩
  rcases h2 with h2 | ⟨g, cap, cur, hv, hg, hh, r⟩
  · exact .inl h2
  · exact .inr ⟨g, cap, cur, hv, hg, hb.blk (cs := cur) hh (hn g (by rw [hv]; rfl)), r⟩
theorem But.weak {S S' : List Nat} {w w' w'' : World} (h : But S w w') (k : But S' w' w'') (hs : ∀ j ∈ S', j ∈ S ∨ w.heap.size ≤ j) : But S w w'' :=
  ⟨k.os.trans h.os, k.tape.trans h.tape, k.output.trans h.output, Nat.le_trans h.size k.size, fun i hi hn => (k.block i (Nat.lt_of_lt_of_le hi h.size) fun hm => (hs i hm).elim hn (fun h => by omega)).trans (h.block i hi hn)⟩
theorem offB_has {s x y : Nat} (hs : s < 18446744073709551616) (hx : x < 64) : (offB s x).testBit y = true ↔ y ≠ x ∧ s.testBit y = true := by
  rw [offB_bit hs hx]; simp
theorem abF_at {T : List Nat} {n x : Nat} (hx : x < n) : (abF T n).getD x 0 = offB (T.getD x 0) x := by
  rw [List.getD_eq_getElem?_getD, List.getElem?_eq_getElem (by rw [abF_length]; exact hx)]
  simp [abF]
theorem abF_ok {n : Nat} {es : List (Int × Int)} {T : List Nat} (hin : InN n es) (hn : n ≤ 64) (h : Grown1 false (fun _ => true) n es T) : AbOk n (abF T n) := by
  obtain ⟨hl, hb⟩ := grown_iff hin h
  refine ⟨abF_length T n, fun x => ?_, fun x y hy => ?_⟩
  · rcases Nat.lt_or_ge x n with hx | hx
    · rw [abF_at hx]; exact offB_lt (h.1.at_ x) x
    · rw [List.getD_eq_getElem?_getD, List.getElem?_eq_none (by rw [abF_length]; exact hx)]; decide
  · rcases Nat.lt_or_ge x n with hx | hx
    · rw [abF_at hx, offB_has (h.1.at_ x) (by omega)] at hy
      have := (hb x hx y).1 hy.2
      exact this.inv (P := fun z => z < n) (fun a b e _ => (Edge1.lt hin e).2) hx
    · rw [List.getD_eq_getElem?_getD, List.getElem?_eq_none (by rw [abF_length]; exact hx)] at hy
      simp at hy
theorem joinF_ok {n : Nat} {Ab : List Nat} (hA : AbOk n Ab) (hn : n ≤ 64) : ∀ k, k ≤ n → StOk n ⟨(joinF Ab n k).nx, (joinF Ab n k).pv, 0⟩
  | 0, _ => ⟨by simp [joinF], by simp [joinF], by simp, fun y hy => by
      unfold joinF
      rw [List.getD_eq_getElem?_getD, List.getElem?_replicate, if_pos hy]
      simp
      omega⟩
  | k + 1, hk => by
    have h := joinF_ok hA hn k (by omega)
    have h2 := (growF_ok hA hn 65 k _ (by omega) h).1
    exact ⟨h2.nx, h2.pv, by simp, h2.back⟩
def pfAgg {B : Nat} : PFact B := ⟨[], [3, 7], fun us v _ => v = .agg #[.slice none 0 0, us 3, us 7], fun _ _ _ _ _ _ _ h => h, fun _ _ h _ _ e => by rw [← h 3 (by simp), ← h 7 (by simp)]; exact e⟩
def pfBox {B : Nat} : PFact B := ⟨[56], [3, 7], fun us v w => ∃ g, v = .pointer (some ⟨g, 0, none⟩) ∧ B ≤ g ∧ Blk w g 56 #[.slice none 0 0, us 3, us 7],
  fun _ hT _ _ _ _ he ⟨g, hv, hg, hb⟩ => ⟨g, hv, hg, hb.evo he (.inr (hT _ (by simp)))⟩, fun _ _ h _ _ e => by rw [← h 3 (by simp), ← h 7 (by simp)]; exact e⟩
def pfSame {B : Nat} (j : Nat) : PFact B := ⟨[], [j], fun us v _ => v = us j, fun _ _ _ _ _ _ _ h => h, fun _ _ h _ _ e => by rw [← h j (by simp)]; exact e⟩
/-- a row of the call's own, not block gP -/
def bfOwn {ob : List Nat} (gP B n : Nat) (xs : List Value) : R5.BFact [[], ob, [gP]] := ⟨[1], fun v w => ∃ A c, v = .slice A n c ∧ w.ownsRow B 48 1 v n xs ∧ ∀ j, v.ownBlock = some j → j ≠ gP,
  fun c hc v w w' hb ⟨A, c', e, ho, hn⟩ => ⟨A, c', e, own_but hb ho (fun j hj => by
    have := hn j hj
    match c with
    | 0 => simp
    | 1 => simp at hc
    | 2 => simpa using this
    | c + 3 => simp), hn⟩⟩
/-- it lies in block gP -/
def bfPut {ob : List Nat} (gP B k : Nat) (xs : List Value) (gn gp n : Nat) : R5.BFact [[], ob, [gP]] := ⟨[1, 2], fun _ w => ∃ A c, Blk w gP 56 #[.slice A k c, .slice (some ⟨gn, 0, none⟩) n n, .slice (some ⟨gp, 0, none⟩) n n] ∧ w.ownsRow B 48 1 (.slice A k c) k xs ∧ ∀ j, (Value.slice A k c).ownBlock = some j → j ≠ gP,
  fun c hc v w w' hb ⟨A, c', h1, ho, hn⟩ => by
    have h0 : [[], ob, [gP]].getD c [] = [] := by
      match c with
      | 0 => rfl
      | 1 => simp at hc
      | 2 => simp at hc
      | c + 3 => simp
    rw [h0] at hb
    exact ⟨A, c', hb.blk h1 (by simp), own_but hb ho (fun _ _ => by simp), hn⟩⟩
set_option maxRecDepth 20000 in
set_option maxHeartbeats 4000000 in
theorem pair_any (n : Int) (A : Option Addr) (cap : Nat) (es : List (Int × Int)) (w : World) (hes : Cells w w.heap.size A (edgeCells es)) (hT : Tab w) (hp : 0 < w.heap.size) :
    Calls Tryd.prog 25 #[.agg #[.int .i64 n, .slice A es.length cap]] w (fun e w' => ∃ v, e = .returned (.tuple #[v, .bool (askB n es)]) ∧ Below w.heap.size w w' ∧ (askB n es = false → v = .pointer none) ∧
      (askB n es = true → ∃ (T : List Nat) (y : Lay), Grown1 false (fun _ => true) n.toNat es T ∧ v = .pointer (some ⟨y.gP, 0, none⟩) ∧ w.heap.size ≤ y.gP ∧ w.heap.size ≤ y.gn ∧ w.heap.size ≤ y.gp ∧ KM y n.toNat (abF T n.toNat) w' (joinF (abF T n.toNat) n.toNat n.toNat).nx (joinF (abF T n.toNat) n.toNat n.toNat).pv)) := by
  have b0 := Blk.new w 24 #[.int .i64 n, .slice A es.length cap]
  have hbw := (Below.refl w.heap.size w).alloc (Nat.le_refl _) (.cells #[.int .i64 n, .slice A es.length cap] 24)
  have s1 := World.size_alloc w (.cells #[.int .i64 n, .slice A es.length cap] 24)
  have hesa := (hes.below hbw).more hbw.size
  go_enter Tryd.func25, Tryd.ntmps25
  go_upto_region 1 with fail
  generalize w.alloc (.cells #[.int .i64 n, .slice A es.length cap] 24) = w1 at *
  have HW1 := Lib.hid hbw
  have HES := Lib.hid hesa
  have HB0 := Lib.hid b0
  have g0 : w1.cell? ⟨w.heap.size, 0, none⟩ = some (.int .i64 n) := b0.cell 0
  have g1 : w1.cell? ⟨w.heap.size, 1, none⟩ = some (.slice A es.length cap) := b0.cell 1
  have l1 : w.heap.size < w1.heap.size := by omega
  have HT1 := Lib.hid (hT.below hbw hp)
  clear hbw b0 hesa hes s1
  go_wp2_with fail
  refine (asked_any n A cap es w1 HES.out).mono ?_
  rintro e w2 ⟨gv, v, rfl, hb2, _⟩
  have HB2 := Lib.hid hb2
  have hz2 := hb2.size
  have HW2 := Lib.hid (HW1.out.trans (hb2.mono (Nat.le_of_lt l1)))
  obtain ⟨gb, hgb⟩ : ∃ gb, gb = w.heap.size := ⟨_, rfl⟩
  have HGB := Lib.hid (show Blk w2 gb 24 #[.int .i64 n, .slice A es.length cap] by rw [hgb]; exact HB0.out.below hb2 l1)
  have HES2 := Lib.hid ((HES.out.below hb2).more hz2)
  have HT2 := Lib.hid (HT1.out.below hb2 (by omega))
  rw [← hgb] at g0 g1 l1
  rw [← hgb]
  have HGE := Lib.hid hgb
  have g0 : w2.cell? ⟨gb, 0, none⟩ = some (.int .i64 n) := HGB.out.cell 0
  have g1 : w2.cell? ⟨gb, 1, none⟩ = some (.slice A es.length cap) := HGB.out.cell 1
  clear hb2 hgb
  cases ha : askB n es with
  | false =>
    have HA := Lib.hid ha
    clear ha
    go_wp2_with fail
    go_ret2
    exact ⟨.pointer none, by rw [HA.out]; rfl, HW2.out, fun _ => rfl, fun h => by rw [HA.out] at h; cases h⟩
  | true =>
    have HA := Lib.hid ha
    have hmay : mayB n es = true := by unfold askB at ha; exact (Bool.and_eq_true _ _ ▸ ha).1
    obtain ⟨hm1, hm2, hm3⟩ := may_parts hmay
    have HM := Lib.hid hmay
    obtain ⟨n, rfl⟩ : ∃ k : Nat, n = k := ⟨n.toNat, by omega⟩
    have HP := Lib.hid (show 0 < n ∧ n ≤ 64 by omega)
    clear ha hmay
    go_upto_region 4 with fail
    go_cut [7] (fun s7 wc => ∃ gP gn gp, s7 = .pointer (some ⟨gP, 0, none⟩) ∧ w2.heap.size ≤ gP ∧ w2.heap.size ≤ gn ∧ w2.heap.size ≤ gp ∧ gn ≠ gp ∧ Below w2.heap.size w2 wc ∧ Blk wc gP 56 #[.slice none 0 0, .slice (some ⟨gn, 0, none⟩) n n, .slice (some ⟨gp, 0, none⟩) n n] ∧
      Blk wc gn 3 (intCells (List.replicate n (-1))).toArray ∧ Blk wc gp 3 (intCells (List.replicate n (-1))).toArray)
    case first =>
      refine R4.wp_region_i [3, 7] w2.heap.size [[]] [0, 0, 0, 0, 0, 0, 0, 0, 0, 0, 0]
        [([], .row 3 #[.int .i64 (-1)] 1 1), ([], .val (.pointer (some ⟨gb, 0, none⟩))), ([1], .val (.int .i64 n)), ([0, 2], .row 3 (intCells (List.replicate n (-1))).toArray n n), ([], .row 3 #[.int .i64 (-1)] 1 1), ([], .val (.pointer (some ⟨gb, 0, none⟩))), ([5], .val (.int .i64 n)), ([4, 6], .row 3 (intCells (List.replicate n (-1))).toArray n n), ([], pfAgg), ([8, 3, 7], pfBox), ([9], pfSame 9)] [10, 9, 3, 7] (by kernel_rfl) (by kernel_rfl) (fun us => ?_) ?_
      · refine R4.pgo_val _ rfl rfl (fun wv hw hu => ?_) ?_
        · have tok := True.intro
          refine ⟨.slice (some ⟨wv.heap.size, 0, none⟩) 1 1, wv.alloc (.cells #[.int .i64 (-1)] 3), ?_, Evo.of_below ((Below.refl _ _).alloc (Nat.le_refl _) _), ⟨_, rfl, Nat.le_trans (Nat.le_refl _) hw.size, Blk.new _ _ _⟩, fun h => absurd h (by decide)⟩
          clear hw hu
          go_simp
        refine R4.pgo_pure _ rfl rfl (fun wv hw hu => ⟨.pointer (some ⟨gb, 0, none⟩), ?_, rfl⟩) rfl ?_
        · have tok := True.intro
          clear hw hu
          go_simp
        refine R4.pgo_pure _ rfl rfl (fun wv hw hu => ⟨.int .i64 n, ?_, rfl⟩) rfl ?_
        · have tok := True.intro
          have h1 : us 1 = .pointer (some ⟨gb, 0, none⟩) := hu.1
          have zy : wv.cell? ⟨gb, 0, none⟩ = some (.int .i64 n) := ((evo_nil (by kernel_rfl) hw).cell (p := ⟨gb, 0, none⟩) HGB.out.lt).trans g0
          clear hw hu
          go_simp
        refine R4.pgo_op _ rfl rfl (fun K wv hw hu hK => ?_) ?_
        · have tok := True.intro
          have h2 : us 2 = .int .i64 n := hu.2.1
          obtain ⟨gr, h0, hgr, hbr⟩ := hu.1
          have h2 : us 2 = .int .i64 n := hu.2.1
          refine wpo_call (f := 40) (args := #[.slice (some ⟨gr, 0, none⟩) 1 1, .int .i64 n]) ?_ ((repeat_any (-1) gr n wv hbr HP.out.1 HP.out.2).mono ?_)
          · clear hK hw hu hbr
            go_simp
          rintro e w' ⟨g, rfl, hg1, hg2, hg3⟩
          exact ⟨_, rfl, hK _ _ (Evo.of_below hg2) ⟨_, rfl, Nat.le_trans hw.size hg1, hg3⟩ (fun _ k hk => by simp only [Value.ownBlock, Option.some.injEq] at hk; subst hk; exact ⟨hg1, hg3.lt⟩)⟩
        refine R4.pgo_val _ rfl rfl (fun wv hw hu => ?_) ?_
        · have tok := True.intro
          refine ⟨.slice (some ⟨wv.heap.size, 0, none⟩) 1 1, wv.alloc (.cells #[.int .i64 (-1)] 3), ?_, Evo.of_below ((Below.refl _ _).alloc (Nat.le_refl _) _), ⟨_, rfl, Nat.le_trans (Nat.le_refl _) hw.size, Blk.new _ _ _⟩, fun h => absurd h (by decide)⟩
          clear hw hu
          go_simp
        refine R4.pgo_pure _ rfl rfl (fun wv hw hu => ⟨.pointer (some ⟨gb, 0, none⟩), ?_, rfl⟩) rfl ?_
        · have tok := True.intro
          clear hw hu
          go_simp
        refine R4.pgo_pure _ rfl rfl (fun wv hw hu => ⟨.int .i64 n, ?_, rfl⟩) rfl ?_
        · have tok := True.intro
          have h5 : us 5 = .pointer (some ⟨gb, 0, none⟩) := hu.1
          have zy : wv.cell? ⟨gb, 0, none⟩ = some (.int .i64 n) := ((evo_nil (by kernel_rfl) hw).cell (p := ⟨gb, 0, none⟩) HGB.out.lt).trans g0
          clear hw hu
          go_simp
        refine R4.pgo_op _ rfl rfl (fun K wv hw hu hK => ?_) ?_
        · have tok := True.intro
          have h6 : us 6 = .int .i64 n := hu.2.1
          obtain ⟨gr, h0, hgr, hbr⟩ := hu.1
          have h6 : us 6 = .int .i64 n := hu.2.1
          refine wpo_call (f := 40) (args := #[.slice (some ⟨gr, 0, none⟩) 1 1, .int .i64 n]) ?_ ((repeat_any (-1) gr n wv hbr HP.out.1 HP.out.2).mono ?_)
          · clear hK hw hu hbr
            go_simp
          rintro e w' ⟨g, rfl, hg1, hg2, hg3⟩
          exact ⟨_, rfl, hK _ _ (Evo.of_below hg2) ⟨_, rfl, Nat.le_trans hw.size hg1, hg3⟩ (fun _ k hk => by simp only [Value.ownBlock, Option.some.injEq] at hk; subst hk; exact ⟨hg1, hg3.lt⟩)⟩
        refine R4.pgo_val _ rfl rfl (fun wv hw hu => ?_) ?_
        · have tok := True.intro
          refine ⟨.agg #[.slice none 0 0, us 3, us 7], wv, ?_, Evo.refl _ _ _, rfl, fun h => absurd h (by decide)⟩
          obtain ⟨g3, h3, _⟩ := hu.1
          obtain ⟨g7, h7, _⟩ := hu.2.1
          rw [h3, h7]
          clear hw hu
          go_simp
        refine R4.pgo_val _ rfl rfl (fun wv hw hu => ?_) ?_
        · have tok := True.intro
          have h8 : us 8 = .agg #[.slice none 0 0, us 3, us 7] := hu.1
          obtain ⟨g3, h3, _⟩ := hu.2.1
          obtain ⟨g7, h7, _⟩ := hu.2.2.1
          refine ⟨.pointer (some ⟨wv.heap.size, 0, none⟩), wv.alloc (.cells #[.slice none 0 0, us 3, us 7] 56), ?_, Evo.of_below ((Below.refl _ _).alloc (Nat.le_refl _) _), ⟨_, rfl, hw.size, Blk.new _ _ _⟩, fun h => absurd h (by decide)⟩
          rw [h3, h7] at h8 ⊢
          clear hw hu
          go_simp
        refine R4.pgo_val _ rfl rfl (fun wv hw hu => ?_) ?_
        · have tok := True.intro
          obtain ⟨g9, h9, _⟩ := hu.1
          refine ⟨us 9, wv, ?_, Evo.refl _ _ _, rfl, fun h => absurd h (by decide)⟩
          rw [h9]
          clear hw hu
          go_simp
        trivial
      · intro us w6 hw hu hap
        have h10 : us 10 = us 9 := hu.1
        obtain ⟨gP, h9, hgP, hbP⟩ := hu.2.1
        obtain ⟨gn, h3, hgn, hbn⟩ := hu.2.2.1
        obtain ⟨gp, h7, hgp, hbp⟩ := hu.2.2.2.1
        have hne : gn ≠ gp := fun e => hap 3 7 (by simp) (by simp) (by decide) rfl rfl gn (by rw [h3]; rfl) (by rw [h7, e]; rfl)
        rw [h3, h7] at hbP
        have HX6 := Lib.hid (show w2.heap.size ≤ gP ∧ w2.heap.size ≤ gn ∧ w2.heap.size ≤ gp ∧ gn ≠ gp ∧ Below w2.heap.size w2 w6 ∧ Blk w6 gP 56 #[.slice none 0 0, .slice (some ⟨gn, 0, none⟩) n n, .slice (some ⟨gp, 0, none⟩) n n] ∧
          Blk w6 gn 3 (intCells (List.replicate n (-1))).toArray ∧ Blk w6 gp 3 (intCells (List.replicate n (-1))).toArray from ⟨hgP, hgn, hgp, hne, below_undrew' (hw.below (Nat.le_refl _)), hbP, hbn, hbp⟩)
        rw [h9] at h10
        clear hw hu hap hgP hbP hgn hbn hgp hbp hne
        simp only [lexL]
        go_simp
        go_wp2_with fail
        go_meet
        exact ⟨gP, gn, gp, rfl, HX6.out⟩
    obtain ⟨gP, gn, gp, rfl, hgP, hgn, hgp, hne, hbc, hbP, hbn, hbp⟩ := hcut
    have HNE := Lib.hid hne
    have HBC := Lib.hid hbc
    have HBP := Lib.hid hbP
    have HBN := Lib.hid hbn
    have HBQ := Lib.hid hbp
    have hzc := hbc.size
    have hPl := hbP.lt
    have hnl := hbn.lt
    have hpl := hbp.lt
    have g0 : wc.cell? ⟨gb, 0, none⟩ = some (.int .i64 n) := (HGB.out.below hbc HGB.out.lt).cell 0
    have g1 : wc.cell? ⟨gb, 1, none⟩ = some (.slice A es.length cap) := (HGB.out.below hbc HGB.out.lt).cell 1
    have HESC := Lib.hid ((HES2.out.below hbc).more hzc)
    clear hne hbc hbP hbn hbp
    go_wp2_with fail
    refine (from_any n A cap es wc HESC.out).mono ?_
    rintro e wf ⟨v, rfl, hbf, hyes, _⟩
    obtain ⟨T, hgr, hown⟩ := hyes HM.out
    rw [Int.toNat_natCast] at hgr
    have hTl : T.length = n := by have := hgr.1.len; rw [eachL_length] at this; exact this
    have HGR := Lib.hid hgr
    have HTL := Lib.hid hTl
    obtain ⟨AT, cT, rfl⟩ := own_slice hown
    obtain ⟨gT, RT, hAT, hgT, hbT, _⟩ := own_some hown (by omega)
    subst hAT
    have HBT := Lib.hid hbT
    have HCF := Lib.hid (HBC.out.trans (hbf.mono hzc))
    have HBP1 := Lib.hid (HBP.out.below hbf hPl)
    have HBN1 := Lib.hid (HBN.out.below hbf hnl)
    have HBQ1 := Lib.hid (HBQ.out.below hbf hpl)
    have hzf := hbf.size
    have hTl2 := hbT.lt
    have HTP := Lib.hid (blk_ne hbT HBP1.out (by decide))
    rw [hTl]
    clear hyes hown hbT hbf hgr hTl
    obtain ⟨B, hB⟩ : ∃ B, B = wf.heap.size := ⟨_, rfl⟩
    have HBe := Lib.hid hB
    clear hB
    go_wp2_with fail
    go_loopg [33] n (fun k s33 wr => ∃ (k' : Nat) (A3 : Option Addr) (c3 : Nat), s33 = .int .i64 k' ∧ k' ≤ n ∧ k = n - k' ∧ Blk wr gP 56 #[.slice A3 k' c3, .slice (some ⟨gn, 0, none⟩) n n, .slice (some ⟨gp, 0, none⟩) n n] ∧ wr.ownsRow B 48 1 (.slice A3 k' c3) k' (setCells (abF T k')) ∧
      (∀ j, (Value.slice A3 k' c3).ownBlock = some j → j ≠ gP) ∧ But [gP] wf wr)
    case atStart => exact ⟨0, none, 0, rfl, Nat.zero_le _, rfl, HBP1.out, World.ownsRow_nil _ _ _ _, fun j hj => by simp [Value.ownBlock] at hj, But.refl _ _⟩
    case round =>
      obtain ⟨k, A3, c3, rfl, hk, hkk, hbP, hown, hnP, hbw⟩ := hrel
      have Hkk := Lib.hid hkk
      have HGP := Lib.hid hbP
      have HO3 := Lib.hid hown
      have HNP := Lib.hid hnP
      have HBW := Lib.hid hbw
      have HBB := Lib.hid (show B ≤ wr.heap.size by rw [HBe.out]; exact hbw.size)
      have cT := (hbw.blk HBT.out (by simpa using HTP.out)).setAt (x := k)
      clear hkk hbP hown hnP hbw
      by_cases hlt : k < n
      · have hlt' : (k : Int) < n := by omega
        have cT := cT (by rw [HTL.out]; exact hlt)
        obtain ⟨s, hs⟩ : ∃ s, s = T.getD k 0 := ⟨_, rfl⟩
        rw [← hs] at cT
        have HS := Lib.hid hs
        have hs64 : s < 18446744073709551616 := by rw [hs]; exact HGR.out.1.at_ k
        have HOR := Lib.hid (off_one s k hs64 (by omega))
        obtain ⟨s2, hs2⟩ : ∃ s2, s2 = offB s k := ⟨_, rfl⟩
        rw [← hs2] at HOR
        obtain ⟨Ak, hAk⟩ : ∃ Ak, Ak = abF T k := ⟨_, rfl⟩
        rw [← hAk] at HO3
        have HAK := Lib.hid (show abF T (k + 1) = Ak ++ [s2] by rw [abF_succ, hAk, hs2, hs])
        obtain ⟨ob, hob⟩ : ∃ ob, ob = (Value.slice A3 k c3).ownBlock.toList := ⟨_, rfl⟩
        have HOB := Lib.hid hob
        have HNO := Lib.hid (show gP ∉ ob by
          rw [hob, Option.mem_toList]
          exact fun h => HNP.out gP h rfl)
        have HOBB := Lib.hid (show ∀ j ∈ ob, B ≤ j ∧ j < wr.heap.size by
          intro j hj
          rw [hob, Option.mem_toList] at hj
          exact HO3.out.lt j hj)
        have HFR := Lib.hid (fun (wv : World) (h : But (([] : List Nat).flatMap fun c => [[], ob, [gP]].getD c []) wr.drew wv) => (by
          have h1 := h.size
          simp only [World.size_drew] at h1
          have h2 := HGP.out.lt
          intro hm
          simp only [List.flatten_cons, List.nil_append, List.flatten_nil, List.append_nil, List.mem_append, List.mem_singleton] at hm
          rcases hm with hm | hm
          · have := HOBB.out _ hm; omega
          · omega : wv.heap.size ∉ [[], ob, [gP]].flatten))
        clear hs hs2 hAk hob
        go_upto_region 8 with fail
        refine R5.wp_region_b [[], ob, [gP]] [0, 0, 0, 0, 0, 0, 0, 0, 0, 0, 0, 1, 0, 0, 2]
          [([], .val (.pointer (some ⟨gP, 0, none⟩))), ([], .val (.pointer (some ⟨gP, 0, none⟩))), ([1], .val (.pointer (some ⟨gP, 0, none⟩))), ([2], .val (.pointer (some ⟨gP, 0, none⟩))), ([3], .val (.slice A3 k c3)), ([], .val (.int .u64 s)), ([], .val (.int .i64 k)), ([6], .row 3 #[.int .i64 k] 1 1), ([7], .val (.int .u64 (ofSet [(k : Int)] : Nat))), ([5, 8], .val (.int .u64 s2)), ([9], .row 48 #[.int .u64 s2] 1 1), ([4, 10], bfOwn gP B (k + 1) (setCells (Ak ++ [s2]))), ([0], .val (.pointer (some ⟨gP, 0, none⟩))), ([12], .val (.pointer (some ⟨gP, 0, none⟩))), ([11, 13], bfPut gP B (k + 1) (setCells (Ak ++ [s2])) gn gp n)] [14] (by kernel_rfl) (by kernel_rfl) (fun us => ?_) ?_
        · refine R5.pgo_pure _ rfl rfl (fun wv hw hu => ⟨.pointer (some ⟨gP, 0, none⟩), ?_, rfl⟩) ?_
          · have tok := True.intro
            clear hw hu
            go_simp
          refine R5.pgo_pure _ rfl rfl (fun wv hw hu => ⟨.pointer (some ⟨gP, 0, none⟩), ?_, rfl⟩) ?_
          · have tok := True.intro
            clear hw hu
            go_simp
          refine R5.pgo_pure _ rfl rfl (fun wv hw hu => ⟨.pointer (some ⟨gP, 0, none⟩), ?_, rfl⟩) ?_
          · have tok := True.intro
            have h1 : us 1 = .pointer (some ⟨gP, 0, none⟩) := hu.1
            clear hw hu
            go_simp
          refine R5.pgo_pure _ rfl rfl (fun wv hw hu => ⟨.pointer (some ⟨gP, 0, none⟩), ?_, rfl⟩) ?_
          · have tok := True.intro
            have h2 : us 2 = .pointer (some ⟨gP, 0, none⟩) := hu.1
            clear hw hu
            go_simp
          refine R5.pgo_pure _ rfl rfl (fun wv hw hu => ⟨.slice A3 k c3, ?_, rfl⟩) ?_
          · have tok := True.intro
            have h3 : us 3 = .pointer (some ⟨gP, 0, none⟩) := hu.1
            have zy : wv.cell? ⟨gP, 0, none⟩ = some (.slice A3 k c3) := ((R5.BW.in_ hw [] rfl (by kernel_rfl)).blk HGP.out.drew (by simp)).cell 0
            clear hw hu
            go_simp
          refine R5.pgo_pure _ rfl rfl (fun wv hw hu => ⟨.int .u64 s, ?_, rfl⟩) ?_
          · have tok := True.intro
            clear hw hu
            go_simp
          refine R5.pgo_pure _ rfl rfl (fun wv hw hu => ⟨.int .i64 k, ?_, rfl⟩) ?_
          · have tok := True.intro
            clear hw hu
            go_simp
          refine R3.pgo_val _ rfl rfl (fun wv hw hu => ?_) ?_
          · have tok := True.intro
            have h6 : us 6 = .int .i64 k := hu.1
            refine ⟨.slice (some ⟨wv.heap.size, 0, none⟩) 1 1, wv.alloc (.cells #[.int .i64 k] 3), ?_, But.of_below _ ((Below.refl _ _).alloc (Nat.le_refl _) _) (Nat.le_refl _), wv.heap.size, rfl, ?_, Blk.new _ _ _⟩
            · clear hw hu
              go_simp
            · exact HFR.out wv (R5.BW.in_ hw [] rfl (by kernel_rfl))
          refine R3.pgo_op _ rfl rfl (fun K wv hw hu hK => ?_) ?_
          · have tok := True.intro
            obtain ⟨gr, h7, hgr, hbr⟩ := hu.1
            refine wpo_call (f := 26) (args := #[.slice (some ⟨gr, 0, none⟩) 1 1]) ?_ ((of_any (some ⟨gr, 0, none⟩) 1 [(k : Int)] wv (Cells.of_blk (R := #[]) (by simpa [intCells] using hbr) |>.more hbr.lt) (by simp)).mono ?_)
            · clear hK hw hu hbr
              go_simp
            rintro e w' ⟨rfl, rfl⟩
            exact ⟨_, rfl, hK _ _ (But.refl _ _) rfl⟩
          refine R5.pgo_pure _ rfl rfl (fun wv hw hu => ⟨.int .u64 s2, ?_, rfl⟩) ?_
          · have tok := True.intro
            have h5 : us 5 = .int .u64 s := hu.1
            have h8 : us 8 = .int .u64 (ofSet [(k : Int)] : Nat) := hu.2.1
            have eo := HOR.out
            clear hw hu
            go_simp
          refine R3.pgo_val _ rfl rfl (fun wv hw hu => ?_) ?_
          · have tok := True.intro
            have h9 : us 9 = .int .u64 s2 := hu.1
            have h9 : us 9 = .int .u64 s2 := hu.1
            refine ⟨.slice (some ⟨wv.heap.size, 0, none⟩) 1 1, wv.alloc (.cells #[.int .u64 s2] 48), ?_, But.of_below _ ((Below.refl _ _).alloc (Nat.le_refl _) _) (Nat.le_refl _), wv.heap.size, rfl, ?_, Blk.new _ _ _⟩
            · clear hw hu
              go_simp
            · exact HFR.out wv (R5.BW.in_ hw [] rfl (by kernel_rfl))
          refine R3.pgo_op _ rfl rfl (fun K wv hw hu hK => ?_) ?_
          · have tok := True.intro
            have h4 : us 4 = .slice A3 k c3 := hu.1
            have h4 : us 4 = .slice A3 k c3 := hu.1
            obtain ⟨gr, h10, hgr, hbr⟩ := hu.2.1
            have hown := own_but (R5.BW.in_ hw [] rfl (by kernel_rfl)) HO3.out.drew (by simp)
            refine wpo_app_any elemSet _ _ rfl (by repeat (first | (with_reducible exact (put_eval_same _ _ _ (by simp [put_size])).trans h4) | (with_reducible refine put_eval _ _ _ _ _ (by decide) ?_))) hown (by repeat (first | (with_reducible exact (put_eval_same _ _ _ (by simp [put_size])).trans h10) | (with_reducible refine put_eval _ _ _ _ _ (by decide) ?_))) ((Cells.of_blk (xs := [.int .u64 s2]) (R := #[]) (by simpa using hbr)).more hbr.lt) (by rfl) (by rfl) (by omega) (by omega) (Nat.le_trans HBB.out (hw.size)) (fun v' w' ho hg hv => ?_)
            have hgv : gP < wv.heap.size := ((R5.BW.in_ hw [] rfl (by kernel_rfl)).blk HGP.out.drew (by simp)).lt
            refine hK _ _ (show But ob _ _ by rw [HOB.out]; exact But.of_grown hg) ?_
            obtain ⟨A', c', rfl⟩ := own_slice ho
            refine ⟨_, _, rfl, by simpa [setCells] using ho, fun j hj => ?_⟩
            rcases hv with h | h
            · rw [hj] at h; exact HNP.out j h.symm
            · rw [hj] at h; injection h with h; omega
          refine R5.pgo_pure _ rfl rfl (fun wv hw hu => ⟨.pointer (some ⟨gP, 0, none⟩), ?_, rfl⟩) ?_
          · have tok := True.intro
            have h0 : us 0 = .pointer (some ⟨gP, 0, none⟩) := hu.1
            clear hw hu
            go_simp
          refine R5.pgo_pure _ rfl rfl (fun wv hw hu => ⟨.pointer (some ⟨gP, 0, none⟩), ?_, rfl⟩) ?_
          · have tok := True.intro
            have h12 : us 12 = .pointer (some ⟨gP, 0, none⟩) := hu.1
            clear hw hu
            go_simp
          refine R3.pgo_skip _ rfl rfl (fun wv hw hu => ?_) ?_
          · have tok := True.intro
            have h13 : us 13 = .pointer (some ⟨gP, 0, none⟩) := hu.2.1
            obtain ⟨A', c', h11, ho, hn⟩ := hu.1
            have h13 : us 13 = .pointer (some ⟨gP, 0, none⟩) := hu.2.1
            have hbv := (R5.BW.in_ hw [1] rfl (by kernel_rfl)).blk HGP.out.drew (by simpa using HNO.out)
            have fy := hbv.frozen 0
            have zy := hbv.cell 0
            refine ⟨wv.setCell ⟨gP, 0, none⟩ (.slice A' (k + 1) c'), ?_, But.set_ wv (by simp) 0 _, A', c', by simpa using hbv.set_ 0 (.slice A' (k + 1) c'), own_but (S := [gP]) (But.set_ wv (by simp) 0 _) (h11 ▸ ho) (fun j hj => by have := hn j (h11 ▸ hj); simpa using this), fun j hj => hn j (h11 ▸ hj)⟩
            clear hw hu hbv ho hn
            simp only [List.getElem?_toArray, List.getElem?_cons_zero] at zy
            go_simp
          trivial
        · intro us w6 hw hu
          obtain ⟨A', c', hb, ho, hn⟩ := hu.1
          have hb6 : But ([1, 2].flatMap fun c => [[], ob, [gP]].getD c []) wr.drew w6 := R5.BW.in_ hw [1, 2] rfl (by kernel_rfl)
          have HX6 := Lib.hid (show Blk w6 gP 56 #[.slice A' (k + 1) c', .slice (some ⟨gn, 0, none⟩) n n, .slice (some ⟨gp, 0, none⟩) n n] ∧ w6.ownsRow B 48 1 (.slice A' (k + 1) c') (k + 1) (setCells (abF T (k + 1))) ∧
            (∀ j, (Value.slice A' (k + 1) c').ownBlock = some j → j ≠ gP) ∧ But [gP] wf w6 from ⟨hb, by rw [HAK.out]; exact ho, hn, HBW.out.weak hb6.undrew (fun j hj => by
              simp only [List.flatMap_cons, List.flatMap_nil, List.getD_cons_succ, List.getD_cons_zero, List.append_nil, List.mem_append] at hj
              rcases hj with hj | hj
              · exact .inr (by rw [← HBe.out]; exact (HOBB.out j hj).1)
              · exact .inl hj)⟩)
          clear hw hu hb ho hn hb6
          simp only [lexL]
          go_simp
          go_wp2_with fail
          go_roundg (n - (k + 1))
          case measure => rw [Hkk.out]; omega
          case rel => exact ⟨k + 1, A', c', by go_num, by omega, rfl, HX6.out⟩
      · have hke : k = n := by omega
        have hlt' : ¬ (k : Int) < n := by omega
        have HAB := Lib.hid (show AbOk n (abF T n) from abF_ok (badE_in HM.out) HP.out.2 HGR.out)
        obtain ⟨ga, RA, hA3, hga, hbA, _⟩ := own_some HO3.out (by omega)
        subst hA3
        have g0 : wr.cell? ⟨gb, 0, none⟩ = some (.int .i64 n) := (HBW.out.blk ((HGB.out.below HCF.out HGB.out.lt)) (by
          have := HGB.out.lt
          simp only [List.mem_singleton]
          omega)).cell 0
        have HKM := Lib.hid (show KM ⟨gP, ga, gn, gp, c3, RA⟩ n (abF T n) wr (joinF (abF T n) n 0).nx (joinF (abF T n) n 0).pv from by
          refine ⟨by have := HGP.out; rw [hke] at this; exact this, by rw [hke] at hbA; exact hbA, ?_, ?_, HNE.out⟩
          · rw [show (joinF (abF T n) n 0).nx = List.replicate n (-1) from rfl]
            simpa using HBW.out.blk HBN1.out (by simpa using blk_ne HBN1.out HBP1.out (by decide))
          · rw [show (joinF (abF T n) n 0).pv = List.replicate n (-1) from rfl]
            simpa using HBW.out.blk HBQ1.out (by simpa using blk_ne HBQ1.out HBP1.out (by decide)))
        have HWR := Lib.hid (show Below w2.heap.size w2 wr from HCF.out.trans (HBW.out.below (by have := HCF.out.size; omega) (by simpa using hgP)))
        clear hke hbA cT
        go_wp2_with fail
        obtain ⟨w7, rfl⟩ : ∃ y, y = wr := ⟨_, rfl⟩
        obtain ⟨Ab, hAb⟩ : ∃ Ab, Ab = abF T n := ⟨_, rfl⟩
        rw [← hAb] at HAB HKM
        have HABE := Lib.hid hAb
        clear hAb g0
        go_loopg [55] n (fun k s55 wr => ∃ (x : Nat), s55 = .int .i64 x ∧ x ≤ n ∧ k = n - x ∧ KM ⟨gP, ga, gn, gp, c3, RA⟩ n Ab wr (joinF Ab n x).nx (joinF Ab n x).pv ∧ Below w2.heap.size w2 wr)
        case atStart => exact ⟨0, rfl, Nat.zero_le _, rfl, HKM.out, HWR.out⟩
        case round =>
          obtain ⟨x, rfl, hx, hkk, hkm, hbw⟩ := hrel
          have Hkk2 := Lib.hid hkk
          have HKM2 := Lib.hid hkm
          have HBW2 := Lib.hid hbw
          have hzr := hbw.size
          clear hkk hkm hbw
          by_cases hlt : x < n
          · have hlt2 : (x : Int) < n := by omega
            have HSN := Lib.hid (Blk.new wr 48 #[.int .u64 0])
            have HBA := Lib.hid (HBW2.out.alloc hzr (.cells #[.int .u64 0] 48))
            have HKA := Lib.hid (show KM ⟨gP, ga, gn, gp, c3, RA⟩ n Ab (wr.alloc (.cells #[.int .u64 0] 48)) (joinF Ab n x).nx (joinF Ab n x).pv from ⟨HKM2.out.P.alloc _, HKM2.out.A.alloc _, HKM2.out.N.alloc _, HKM2.out.V.alloc _, HKM2.out.ne⟩)
            have hz8 := World.size_alloc wr (.cells #[.int .u64 0] 48)
            have hrec := kuhn_any ⟨gP, ga, gn, gp, c3, RA⟩ n Ab wr.heap.size HAB.out HP.out.2 65 x ⟨(joinF Ab n x).nx, (joinF Ab n x).pv, 0⟩ (wr.alloc (.cells #[.int .u64 0] 48)) (show unseen 0 < 65 by decide) hlt (joinF_ok HAB.out HP.out.2 x hx) HKA.out HSN.out (Nat.ne_of_gt HKM2.out.A.lt) (HT2.out.below HBA.out (by omega)) (by
              have := HKM2.out.N.lt
              simp only [List.mem_cons, List.not_mem_nil, or_false, not_or]
              omega)
            go_wp2_with fail
            refine hrec.mono ?_
            rintro e w9 ⟨rfl, hb9, hk9, hs9⟩
            have HB9 := Lib.hid (HBA.out.trans (hb9.below (B := w2.heap.size) (by omega) (by
              simp only [List.mem_cons, List.not_mem_nil, or_false]
              rintro k (rfl | rfl | rfl) <;> omega)))
            have HK9 := Lib.hid (show KM ⟨gP, ga, gn, gp, c3, RA⟩ n Ab w9 (joinF Ab n (x + 1)).nx (joinF Ab n (x + 1)).pv from hk9)
            clear hb9 hk9 hs9 hrec hz8
            go_wp2_with fail
            go_roundg (n - (x + 1))
            case measure => rw [Hkk2.out]; omega
            case rel => exact ⟨x + 1, by go_num, by omega, rfl, HK9.out, HB9.out⟩
          · have hxe : x = n := by omega
            have hlt2 : ¬ (x : Int) < n := by omega
            have HKF := Lib.hid (show KM ⟨gP, ga, gn, gp, c3, RA⟩ n (abF T n) wr (joinF (abF T n) n n).nx (joinF (abF T n) n n).pv by
              have := HKM2.out
              rw [hxe, HABE.out] at this
              exact this)
            have hge := HGE.out
            have HWF := Lib.hid (HW2.out.trans (HBW2.out.mono (by omega)))
            have HLE := Lib.hid (show w.heap.size ≤ gP ∧ w.heap.size ≤ gn ∧ w.heap.size ≤ gp by omega)
            clear hxe hge
            go_wp2_with fail
            go_ret2
            exact ⟨.pointer (some ⟨gP, 0, none⟩), by rw [HA.out]; rfl, HWF.out, fun h => (by rw [HA.out] at h; cases h), fun _ => ⟨T, HGR.out, ⟨gP, ga, gn, gp, c3, RA⟩, rfl, HLE.out.1, HLE.out.2.1, HLE.out.2.2, HKF.out⟩⟩
end Go.Proofs.YtnjikhhegebkiaaDoor
