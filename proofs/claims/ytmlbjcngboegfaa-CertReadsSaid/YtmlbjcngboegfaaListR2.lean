/-
  list of lists: what it reads. Printed by wip/C/genr.py. Written by an AI agent.
-/
import Derived.Test.YtmlbjcngboegfaaListR
namespace Go.Proofs.Ytmlbjcngboegfaa
open Go.RowKit

set_option maxRecDepth 20000 in
set_option maxHeartbeats 4000000 in
theorem rowsRL (B gc : Nat) (A : Option Addr) (c : Nat) (ov : Value) (s : CS) (gx o : Nat) (t : TypeId) (cs : Array Value) (w : World) (h : Coder w B gc true A c ov s) (hl : s.out.length ≤ 800000000) (hx : Blk w gx t cs) (hne : gx ≠ gc) (hov : ov.ownBlock ≠ some gx) (hB : B ≤ gx) (ho : cs[o]? = some (.slice none 0 0)) (hti : t ≠ 3) :
    Calls Try.prog 35 #[.pointer (some ⟨gc, 0, none⟩), .pointer (some ⟨gx, o, none⟩), .func (.func 34) #[] #[]] w (fun e w' => e = .returned (.tuple #[]) ∧ Got 22 1 GRows B gc ov gx t cs o w w' (rList rInts s)) := by
  have zx := hx.cell o
  rw [ho] at zx
  have hol : o < cs.size := (Array.getElem?_eq_some_iff.1 ho).1
  have H := Lib.hid h
  have Hx := Lib.hid hx
  clear h hx
  go_enter Try.func35, Try.ntmps35
  go_wp2_with fail
  refine (countR_any B gc A c ov s 0 w H.out (by omega)).mono ?_
  rintro e w1 ⟨rfl, A1, c1, ov1, hc1, ho1, hf1⟩
  have hN := rCount_le H.out.byt
  have hO := rCount_out s
  have HW := Lib.hid (show rList rInts s = rLoop rInts (rCount s).1 (rCount s).2 from rfl)
  have hov1 : ov1.ownBlock ≠ some gx := fun e => hov (hf1 gx Hx.out.lt e)
  have HX1 := Lib.hid (Hx.out.only ho1 fun hk => by
    rcases hk with hk | hk | hk
    · exact hne hk
    · exact hov hk
    · exact hk)
  generalize (rCount s).2 = s0 at *
  generalize (rCount s).1 = N at *
  have HC1 := Lib.hid hc1
  have HO1 := Lib.hid (ho1.mono (K' := coderK gc ov fun i => i = gx) fun i _ hi => hi.imp id (Or.imp id False.elim))
  have HF1 := Lib.hid hf1
  have Hcs := Lib.hid ho
  have hgx := Hx.out.lt
  have hgcB := H.out.ge
  have hgcL := H.out.lt
  clear hc1 ho1 hf1 zx hov1 ho
  go_wp2_with fail
  go_loopg [7] N (fun k s7 wr => ∃ (i : Nat) (done : List (List Int)) (s1 : CS) (A2 : Option Addr) (c2 : Nat) (ov2 v : Value) (xs : List Value), s7 = .int .i64 i ∧ i ≤ N ∧ k = N - i ∧ done.length = i ∧ s1.out.length ≤ s.out.length + 1 + 1 * i ∧ rList rInts s = (done ++ (rLoop rInts (N - i) s1).1, (rLoop rInts (N - i) s1).2) ∧ Coder wr B gc true A2 c2 ov2 s1 ∧ Only (coderK gc ov (fun i => i = gx)) w wr ∧ (∀ i, i < w.heap.size → ov2.ownBlock = some i → ov.ownBlock = some i) ∧ Blk wr gx t (cs.setIfInBounds o v) ∧ wr.ownsRow w.heap.size 22 1 v i xs ∧ GRows wr w.heap.size done xs)
  case atStart =>
    exact ⟨0, [], s0, A1, c1, ov1, .slice none 0 0, [], rfl, Nat.zero_le _, rfl, rfl, by omega, by rw [HW.out]; rfl, HC1.out, HO1.out, HF1.out, by
      have e : cs.setIfInBounds o (.slice none 0 0) = cs := by
        apply Array.ext'
        have h1 := Hcs.out
        rw [← Array.getElem?_toList] at h1
        obtain ⟨h2, h3⟩ := List.getElem?_eq_some_iff.1 h1
        rw [Array.toList_setIfInBounds, ← h3, List.set_getElem_self]
      rw [e]; exact HX1.out, World.ownsRow_nil _ _ _ _, ⟨rfl, fun j hj => absurd hj (by simp)⟩⟩
  case round =>
    clear HC1 HO1 HF1 HW HX1 hO
    obtain ⟨i, done, s1, A2, c2, ov2, v, xs, rfl, hi, hk, hdl, hlo, hw, hc, ho, hf, hb, hown, hG⟩ := hrel
    obtain ⟨Av, cv, rfl⟩ := own_slice hown
    have z0 := hc.c0
    have z3 := hc.c3
    have zx := hb.cell o
    rw [Array.getElem?_setIfInBounds_self_of_lt hol] at zx
    have fx := hb.frozen o
    have hszw := ho.size
    have Hk := Lib.hid hk
    have Hw := Lib.hid hw
    have Hc := Lib.hid hc
    have Ho := Lib.hid ho
    have Hf := Lib.hid hf
    have Hb := Lib.hid hb
    have Hown := Lib.hid hown
    have HG := Lib.hid hG
    have Hdl := Lib.hid hdl
    clear hk hw hc ho hf hb hown hG hdl
    have HEnd := Lib.hid (fun (e : rLoop rInts (N - i) s1 = ([], s1)) => show Got 22 1 GRows B gc ov gx t cs o w wr (rList rInts s) from by
      rw [Hw.out, e, List.append_nil]
      exact ⟨_, xs, ⟨A2, c2, ov2, Hc.out, Ho.out, Hf.out⟩, Hb.out, by simp only; rw [Hdl.out]; exact Hown.out, HG.out⟩)
    by_cases hlt : i < N
    · have hlt' : (i : Int) < N := by omega
      cases hbad : s1.bad with
      | true =>
        rw [hbad] at z3
        have HR := Lib.hid (HEnd.out (rLoop_stop _ hbad))
        clear hbad HEnd
        go_wp2_with fail
        refine bodyPost_end (results_none rfl _ _ _) rfl ?_
        exact ⟨rfl, HR.out⟩
      | false =>
        rw [hbad] at z3
        have Hgo := Lib.hid (rLoop_go (each := rInts) (k := N - (i + 1)) hbad)
        rw [show N - (i + 1) + 1 = N - i by omega] at Hgo
        have hob : ∀ k, (Value.slice Av i cv).ownBlock = some k → k < wr.heap.size ∧ k ≠ gx := fun k hk => ⟨(Hown.out.lt k hk).2, by have := (Hown.out.lt k hk).1; omega⟩
        have Hob := Lib.hid hob
        have hgxr : gx < wr.heap.size := Nat.lt_of_lt_of_le hgx hszw
        have hobx : (Value.slice Av i cv).ownBlock ≠ some gx := fun e => (hob gx e).2 rfl
        clear hbad HEnd hob
        go_upto_region 5 with fail
        refine wp_region_two gx (Value.slice Av i cv).ownBlock #[0, 0, 2, 6, 0, 16, 48, 112, 254, 511, 1023] [0, 0, 0, 0, 1, 0, 0, 1, 2, 0, 3]
          [.v [] (.pointer (some ⟨gx, o, none⟩)), .v [] (.pointer (some ⟨gx, o, none⟩)), .v [1] (.pointer (some ⟨gx, o, none⟩)), .v [2] (.slice Av i cv),
           .p [] 22 [Value.slice none 0 0].toArray (fun g => .pointer (some ⟨g, 0, none⟩)), .p [4] 22 [Value.slice none 0 0].toArray (fun g => .pointer (some ⟨g, 0, none⟩)), .v [5] (.slice none 0 0),
           .p [6] 22 [Value.slice none 0 0].toArray (fun g => .slice (some ⟨g, 0, none⟩) 1 1), .own [3, 7] w.heap.size 22 1 (i + 1) (xs ++ [Value.slice none 0 0]),
           .v [0] (.pointer (some ⟨gx, o, none⟩)), .fin [9] 8 w.heap.size 22 1 (i + 1) (xs ++ [Value.slice none 0 0]) t (cs.setIfInBounds o (.slice Av i cv)) o]
          [10] (by kernel_rfl) (by kernel_rfl) hgxr Hob.out (fun us => ?_) ?_
        · refine pgo_two _ rfl rfl (fun wv hw hu => ⟨.pointer (some ⟨gx, o, none⟩), ?_, rfl⟩) ?_
          · clear hw hu
            go_simp
          refine pgo_two _ rfl rfl (fun wv hw hu => ⟨.pointer (some ⟨gx, o, none⟩), ?_, rfl⟩) ?_
          · clear hw hu
            go_simp
          refine pgo_two _ rfl rfl (fun wv hw hu => ⟨.pointer (some ⟨gx, o, none⟩), ?_, rfl⟩) ?_
          · have h0 : us 1 = .pointer (some ⟨gx, o, none⟩) := hu.1
            clear hw hu
            go_simp
          refine pgo_two _ rfl rfl (fun wv hw hu => ⟨.slice Av i cv, ?_, rfl⟩) ?_
          · have h0 : us 2 = .pointer (some ⟨gx, o, none⟩) := hu.1
            have zy : wv.cell? ⟨gx, o, none⟩ = some (.slice Av i cv) := ((TwW.below (by kernel_rfl) (by kernel_rfl) hw).cell (p := ⟨gx, o, none⟩) hgxr).trans zx
            clear hw hu
            go_simp
          refine R3.pgo_val _ rfl rfl (fun wv hw hu => ⟨.pointer (some ⟨wv.heap.size, 0, none⟩), wv.alloc (.cells [Value.slice none 0 0].toArray 22), ?_, TwE.new ((Below.refl _ _).alloc (Nat.le_refl _) _), ⟨_, rfl, hw.size, Blk.new _ _ _⟩⟩) ?_
          · clear hw hu
            go_simp
          refine pgo_two _ rfl rfl (fun wv hw hu => ?_) ?_
          · obtain ⟨g, h0, hg, hgb⟩ := hu.1
            refine ⟨.pointer (some ⟨g, 0, none⟩), ?_, g, rfl, hg, hgb⟩
            have h0 : us 4 = .pointer (some ⟨g, 0, none⟩) := h0
            clear hw hu hgb
            go_simp
          refine pgo_two _ rfl rfl (fun wv hw hu => ?_) ?_
          · obtain ⟨g, h0, hg, hgb⟩ := hu.1
            refine ⟨(.slice none 0 0), ?_, rfl⟩
            have h0 : us 5 = .pointer (some ⟨g, 0, none⟩) := h0
            have y0 := hgb.cell 0
            simp only [List.getElem?_toArray, List.getElem?_cons_zero] at y0
            clear hw hu hgb
            go_simp
          refine R3.pgo_val _ rfl rfl (fun wv hw hu => ⟨.slice (some ⟨wv.heap.size, 0, none⟩) 1 1, wv.alloc (.cells [Value.slice none 0 0].toArray 22), ?_, TwE.new ((Below.refl _ _).alloc (Nat.le_refl _) _), ⟨_, rfl, hw.size, Blk.new _ _ _⟩⟩) ?_
          · have h0 : us 6 = (.slice none 0 0) := hu.1
            clear hw hu
            go_simp
          refine R3.pgo_op _ rfl rfl (fun K wv hw hu hK => ?_) ?_
          · have h3 : us 3 = .slice Av i cv := hu.1
            obtain ⟨g, h7, hg, hgb⟩ := hu.2.1
            have hbw := TwW.below (by kernel_rfl) (by kernel_rfl) hw
            have how : wv.ownsRow w.heap.size 22 1 (.slice Av i cv) i xs := own_below Hown.out (below_undrew hbw) (Nat.le_refl _)
            have hsw : wr.heap.size ≤ wv.heap.size := hbw.size
            refine wpo_app_any elemRow _ _ rfl (by repeat (first | (with_reducible exact (put_eval_same _ _ _ (by simp [put_size])).trans h3) | (with_reducible refine put_eval _ _ _ _ _ (by decide) ?_))) how (by repeat (first | (with_reducible exact (put_eval_same _ _ _ (by simp [put_size])).trans h7) | (with_reducible refine put_eval _ _ _ _ _ (by decide) ?_))) (Cells.blk' hgb) rfl rfl (by omega) (by omega) (Nat.le_trans hszw hsw) (fun v' w' ho' hgr hd => ?_)
            refine hK _ _ (TwE.app hgr) ⟨ho', ?_⟩
            rcases hd with hd | hd
            · exact .inl hd
            · exact .inr ⟨_, hd, hsw⟩
          refine pgo_two _ rfl rfl (fun wv hw hu => ⟨.pointer (some ⟨gx, o, none⟩), ?_, rfl⟩) ?_
          · have h0 : us 0 = .pointer (some ⟨gx, o, none⟩) := hu.1
            clear hw hu
            go_simp
          refine R3.pgo_skip _ rfl rfl (fun wv hw hu => ?_) ?_
          · have h9 : us 9 = .pointer (some ⟨gx, o, none⟩) := hu.2.1
            obtain ⟨ho8, hf8⟩ := hu.1
            have hxb := TwW.blk (by kernel_rfl) hw Hb.out.drew hobx
            obtain ⟨A8, c8, h8⟩ := own_slice ho8
            have zy := hxb.cell o
            rw [Array.getElem?_setIfInBounds_self_of_lt hol] at zy
            have fy := hxb.frozen o
            refine ⟨wv.setCell ⟨gx, o, none⟩ (us 8), ?_, TwE.put (Only.set_ _ _ _ _), ⟨own_only ho8 (Only.set_ wv gx o _) (fun g hg e => ?_), hf8⟩, hxb.set_ o _⟩
            · rw [h8]
              clear hw hu ho8 hf8 hxb
              go_simp
            · subst e
              rcases hf8 with h | ⟨k, h, hk⟩
              · exact hobx (h.symm.trans hg)
              · rw [h] at hg; injection hg with hg
                have : wr.heap.size ≤ k := hk
                omega
          trivial
        · intro us w' hw hu
          obtain ⟨⟨ho8, hf8⟩, hx8⟩ := hu.1
          have hw8 : Only (TwK gx (Value.slice Av i cv).ownBlock (R3.allC 11 [0, 0, 0, 0, 1, 0, 0, 1, 2, 0, 3])) wr w' := Only.undrew hw
          obtain ⟨g, cap, R, h8, hg, hbl, hRs, hcap, hcm, hxl⟩ := own_blk ho8 (Nat.succ_pos i)
          rw [Array.setIfInBounds_setIfInBounds] at hx8
          rw [h8] at hx8 hf8
          have hgcw : gc < wr.heap.size := Hc.out.lt
          -- the coder stands
          have hcK : ∀ k, TwK gx (Value.slice Av i cv).ownBlock (R3.allC 11 [0, 0, 0, 0, 1, 0, 0, 1, 2, 0, 3]) k → (Value.slice Av i cv).ownBlock = some k ∨ k = gx := fun k hk => hk.imp And.right And.right
          have hov2x : ov2.ownBlock ≠ some gx := fun e => hov (Hf.out gx hgx e)
          have hc8 : Coder w' B gc true A2 c2 ov2 s1 := Hc.out.only hw8 (fun hk => by
              rcases hcK _ hk with hk | hk
              · have := (Hown.out.lt _ hk).1; omega
              · exact hne hk.symm) (fun k hk hkk => by
              rcases hcK _ hkk with hkk | hkk
              · obtain ⟨_, b1⟩ := own_ty Hc.out.own hk
                obtain ⟨_, b2⟩ := own_ty Hown.out hkk
                exact absurd (blk_ty b1 b2) (by decide)
              · subst hkk; exact hov2x hk) (fun k hk => by
              rcases hcK _ hk with hk | hk
              · have := (Hown.out.lt _ hk).1; omega
              · omega)
          have ho8w : Only (coderK gc ov fun i => i = gx) w w' := Ho.out.trans hw8 fun k hkw hk => by
            rcases hcK _ hk with hk | hk
            · have := (Hown.out.lt _ hk).1; omega
            · exact .inr (.inr hk)
          have hG8 : GRows w' w.heap.size done xs := grows_keep _ _ _ _ _ _ HG.out hw8 fun k hk cs' hb' => by
            rcases hcK _ hk with hk | hk
            · obtain ⟨_, b2⟩ := own_ty Hown.out hk
              exact absurd (blk_ty b2 hb') (by decide)
            · subst hk
              exact hti (blk_ty Hb.out hb')
          have zx8 := hx8.cell o
          rw [Array.getElem?_setIfInBounds_self_of_lt hol] at zx8
          have HC8 := Lib.hid hc8
          have HO8 := Lib.hid ho8w
          have HG8 := Lib.hid hG8
          have HX8 := Lib.hid hx8
          have HB8 := Lib.hid hbl
          have hxs : xs.length = 1 * i := by rw [Hown.out.1]; omega
          have hxsl : (xs ++ [Value.slice none 0 0]).length + R.size = cap * 1 := hRs
          have hgg : g ≠ gc := by omega
          have hggx : g ≠ gx := by omega
          have hovg : ov2.ownBlock ≠ some g := fun e => by
            obtain ⟨_, b1⟩ := own_ty hc8.own e
            exact absurd (blk_ty b1 hbl) (by decide)
          have hii : i < i + 1 := Nat.lt_succ_self i
          have hBg : B ≤ g := by omega
          clear hw hu hw8 ho8 hf8 hx8 hbl hc8 ho8w hG8 hcK h8 hRs
          simp only [lexL]
          go_simp
          go_wp2_with fail
          refine (intsR_any B gc A2 c2 ov2 s1 g i 22 _ w' HC8.out (by omega) HB8.out hgg hovg hBg (by rw [Array.getElem?_append_left (by simp; omega)]; simp [show i = xs.length by omega]) (by decide)).mono ?_
          rintro e w3 ⟨rfl, hgot⟩
          obtain ⟨u, ys, hr3, hbl3, hown3, hG3⟩ := hgot
          rw [set_last (by omega)] at hbl3
          have HOwn3 := Lib.hid (blk_own (base := w.heap.size) (size := 1) (n := i + 1) (cap := cap) hg hbl3 (by simp at hxsl ⊢; omega) hcap hcm (by simp; omega))
          have HG3 := Lib.hid (show GRows w3 w.heap.size (done ++ [(rInts s1).1]) (xs ++ [u]) from grows_push (grows_keep _ _ _ _ _ _ HG8.out hr3.only fun k hk cs' hb' => by
            rcases hk with hk | hk | hk
            · rw [hk] at hb'; exact absurd (blk_ty HC8.out.blk hb') (by decide)
            · obtain ⟨_, b1⟩ := own_ty HC8.out.own hk
              exact absurd (blk_ty b1 hb') (by decide)
            · rw [hk] at hb'; exact absurd (blk_ty HB8.out hb') (by decide)) (by rw [show ys = intCells _ from hG3] at hown3; exact hown3) HO8.out.size)
          clear hbl3 hown3 hG3
          have hC3 := hr3.only
          have hb3 := hr3.blk HX8.out hne hov2x (fun e => hggx e.symm)
          obtain ⟨A3, c3, ov3, hc3, ho3, hf3⟩ := hr3
          have HC3 := Lib.hid hc3
          have HO3 := Lib.hid (HO8.out.trans ho3 fun k hkw hk => by
            rcases hk with hk | hk | hk
            · exact .inl hk
            · exact .inr (.inl (Hf.out k hkw hk))
            · omega)
          have HF3 := Lib.hid (fun k (hk : k < w.heap.size) he => Hf.out k hk (hf3 k (Nat.lt_of_lt_of_le hk HO8.out.size) he))
          have HB3 := Lib.hid hb3
          have HL3 := Lib.hid (show N - (i + 1) < N - i by omega)
          have hlo3 := (show (rInts s1).2.out.length ≤ s1.out.length + 1 from by have := rList_out (each := rGet) rGet_out HC8.out.byt; unfold rInts; omega)
          clear hC3 hc3 ho3 hf3 hb3
          have HW3 := Lib.hid (show rList rInts s = ((done ++ [(rInts s1).1]) ++ (rLoop rInts (N - (i + 1)) (rInts s1).2).1, (rLoop rInts (N - (i + 1)) (rInts s1).2).2) by rw [Hw.out, Hgo.out]; simp)
          generalize (rInts s1).2 = s3 at *
          generalize (rInts s1).1 = x at *
          have hdl3 : (done ++ [x]).length = i + 1 := by rw [List.length_append, Hdl.out]; rfl
          have Hdl3 := Lib.hid hdl3
          clear hdl3
          go_wp2_with fail
          go_roundg (N - (i + 1))
          case measure => rw [Hk.out]; exact HL3.out
          case rel => exact ⟨i + 1, done ++ [x], s3, A3, c3, ov3, _, _, by go_num, by omega, rfl, Hdl3.out, by omega, HW3.out, HC3.out, HO3.out, HF3.out, HB3.out, HOwn3.out, HG3.out⟩
    · have hie : i = N := by omega
      have HR := Lib.hid (HEnd.out (by rw [hie, Nat.sub_self]; rfl))
      have hlt' : ¬ (i : Int) < N := by omega
      clear hie HEnd
      go_wp2_with fail
      refine bodyPost_end (results_none rfl _ _ _) rfl ?_
      exact ⟨rfl, HR.out⟩

set_option maxRecDepth 20000 in
set_option maxHeartbeats 4000000 in
theorem linesRL (B gc : Nat) (A : Option Addr) (c : Nat) (ov : Value) (s : CS) (gx o : Nat) (t : TypeId) (cs : Array Value) (w : World) (h : Coder w B gc true A c ov s) (hl : s.out.length ≤ 800000000) (hx : Blk w gx t cs) (hne : gx ≠ gc) (hov : ov.ownBlock ≠ some gx) (hB : B ≤ gx) (ho : cs[o]? = some (.slice none 0 0)) (hti : t ≠ 85) :
    Calls Try.prog 38 #[.pointer (some ⟨gc, 0, none⟩), .pointer (some ⟨gx, o, none⟩), .func (.func 37) #[] #[]] w (fun e w' => e = .returned (.tuple #[]) ∧ Got 26 1 GLines B gc ov gx t cs o w w' (rList rPts s)) := by
  have zx := hx.cell o
  rw [ho] at zx
  have hol : o < cs.size := (Array.getElem?_eq_some_iff.1 ho).1
  have H := Lib.hid h
  have Hx := Lib.hid hx
  clear h hx
  go_enter Try.func38, Try.ntmps38
  go_wp2_with fail
  refine (countR_any B gc A c ov s 0 w H.out (by omega)).mono ?_
  rintro e w1 ⟨rfl, A1, c1, ov1, hc1, ho1, hf1⟩
  have hN := rCount_le H.out.byt
  have hO := rCount_out s
  have HW := Lib.hid (show rList rPts s = rLoop rPts (rCount s).1 (rCount s).2 from rfl)
  have hov1 : ov1.ownBlock ≠ some gx := fun e => hov (hf1 gx Hx.out.lt e)
  have HX1 := Lib.hid (Hx.out.only ho1 fun hk => by
    rcases hk with hk | hk | hk
    · exact hne hk
    · exact hov hk
    · exact hk)
  generalize (rCount s).2 = s0 at *
  generalize (rCount s).1 = N at *
  have HC1 := Lib.hid hc1
  have HO1 := Lib.hid (ho1.mono (K' := coderK gc ov fun i => i = gx) fun i _ hi => hi.imp id (Or.imp id False.elim))
  have HF1 := Lib.hid hf1
  have Hcs := Lib.hid ho
  have hgx := Hx.out.lt
  have hgcB := H.out.ge
  have hgcL := H.out.lt
  clear hc1 ho1 hf1 zx hov1 ho
  go_wp2_with fail
  go_loopg [7] N (fun k s7 wr => ∃ (i : Nat) (done : List (List (Int × Int))) (s1 : CS) (A2 : Option Addr) (c2 : Nat) (ov2 v : Value) (xs : List Value), s7 = .int .i64 i ∧ i ≤ N ∧ k = N - i ∧ done.length = i ∧ s1.out.length ≤ s.out.length + 1 + 1 * i ∧ rList rPts s = (done ++ (rLoop rPts (N - i) s1).1, (rLoop rPts (N - i) s1).2) ∧ Coder wr B gc true A2 c2 ov2 s1 ∧ Only (coderK gc ov (fun i => i = gx)) w wr ∧ (∀ i, i < w.heap.size → ov2.ownBlock = some i → ov.ownBlock = some i) ∧ Blk wr gx t (cs.setIfInBounds o v) ∧ wr.ownsRow w.heap.size 26 1 v i xs ∧ GLines wr w.heap.size done xs)
  case atStart =>
    exact ⟨0, [], s0, A1, c1, ov1, .slice none 0 0, [], rfl, Nat.zero_le _, rfl, rfl, by omega, by rw [HW.out]; rfl, HC1.out, HO1.out, HF1.out, by
      have e : cs.setIfInBounds o (.slice none 0 0) = cs := by
        apply Array.ext'
        have h1 := Hcs.out
        rw [← Array.getElem?_toList] at h1
        obtain ⟨h2, h3⟩ := List.getElem?_eq_some_iff.1 h1
        rw [Array.toList_setIfInBounds, ← h3, List.set_getElem_self]
      rw [e]; exact HX1.out, World.ownsRow_nil _ _ _ _, ⟨rfl, fun j hj => absurd hj (by simp)⟩⟩
  case round =>
    clear HC1 HO1 HF1 HW HX1 hO
    obtain ⟨i, done, s1, A2, c2, ov2, v, xs, rfl, hi, hk, hdl, hlo, hw, hc, ho, hf, hb, hown, hG⟩ := hrel
    obtain ⟨Av, cv, rfl⟩ := own_slice hown
    have z0 := hc.c0
    have z3 := hc.c3
    have zx := hb.cell o
    rw [Array.getElem?_setIfInBounds_self_of_lt hol] at zx
    have fx := hb.frozen o
    have hszw := ho.size
    have Hk := Lib.hid hk
    have Hw := Lib.hid hw
    have Hc := Lib.hid hc
    have Ho := Lib.hid ho
    have Hf := Lib.hid hf
    have Hb := Lib.hid hb
    have Hown := Lib.hid hown
    have HG := Lib.hid hG
    have Hdl := Lib.hid hdl
    clear hk hw hc ho hf hb hown hG hdl
    have HEnd := Lib.hid (fun (e : rLoop rPts (N - i) s1 = ([], s1)) => show Got 26 1 GLines B gc ov gx t cs o w wr (rList rPts s) from by
      rw [Hw.out, e, List.append_nil]
      exact ⟨_, xs, ⟨A2, c2, ov2, Hc.out, Ho.out, Hf.out⟩, Hb.out, by simp only; rw [Hdl.out]; exact Hown.out, HG.out⟩)
    by_cases hlt : i < N
    · have hlt' : (i : Int) < N := by omega
      cases hbad : s1.bad with
      | true =>
        rw [hbad] at z3
        have HR := Lib.hid (HEnd.out (rLoop_stop _ hbad))
        clear hbad HEnd
        go_wp2_with fail
        refine bodyPost_end (results_none rfl _ _ _) rfl ?_
        exact ⟨rfl, HR.out⟩
      | false =>
        rw [hbad] at z3
        have Hgo := Lib.hid (rLoop_go (each := rPts) (k := N - (i + 1)) hbad)
        rw [show N - (i + 1) + 1 = N - i by omega] at Hgo
        have hob : ∀ k, (Value.slice Av i cv).ownBlock = some k → k < wr.heap.size ∧ k ≠ gx := fun k hk => ⟨(Hown.out.lt k hk).2, by have := (Hown.out.lt k hk).1; omega⟩
        have Hob := Lib.hid hob
        have hgxr : gx < wr.heap.size := Nat.lt_of_lt_of_le hgx hszw
        have hobx : (Value.slice Av i cv).ownBlock ≠ some gx := fun e => (hob gx e).2 rfl
        clear hbad HEnd hob
        go_upto_region 5 with fail
        refine wp_region_two gx (Value.slice Av i cv).ownBlock #[0, 0, 2, 6, 0, 16, 48, 112, 254, 511, 1023] [0, 0, 0, 0, 1, 0, 0, 1, 2, 0, 3]
          [.v [] (.pointer (some ⟨gx, o, none⟩)), .v [] (.pointer (some ⟨gx, o, none⟩)), .v [1] (.pointer (some ⟨gx, o, none⟩)), .v [2] (.slice Av i cv),
           .p [] 26 [Value.slice none 0 0].toArray (fun g => .pointer (some ⟨g, 0, none⟩)), .p [4] 26 [Value.slice none 0 0].toArray (fun g => .pointer (some ⟨g, 0, none⟩)), .v [5] (.slice none 0 0),
           .p [6] 26 [Value.slice none 0 0].toArray (fun g => .slice (some ⟨g, 0, none⟩) 1 1), .own [3, 7] w.heap.size 26 1 (i + 1) (xs ++ [Value.slice none 0 0]),
           .v [0] (.pointer (some ⟨gx, o, none⟩)), .fin [9] 8 w.heap.size 26 1 (i + 1) (xs ++ [Value.slice none 0 0]) t (cs.setIfInBounds o (.slice Av i cv)) o]
          [10] (by kernel_rfl) (by kernel_rfl) hgxr Hob.out (fun us => ?_) ?_
        · refine pgo_two _ rfl rfl (fun wv hw hu => ⟨.pointer (some ⟨gx, o, none⟩), ?_, rfl⟩) ?_
          · clear hw hu
            go_simp
          refine pgo_two _ rfl rfl (fun wv hw hu => ⟨.pointer (some ⟨gx, o, none⟩), ?_, rfl⟩) ?_
          · clear hw hu
            go_simp
          refine pgo_two _ rfl rfl (fun wv hw hu => ⟨.pointer (some ⟨gx, o, none⟩), ?_, rfl⟩) ?_
          · have h0 : us 1 = .pointer (some ⟨gx, o, none⟩) := hu.1
            clear hw hu
            go_simp
          refine pgo_two _ rfl rfl (fun wv hw hu => ⟨.slice Av i cv, ?_, rfl⟩) ?_
          · have h0 : us 2 = .pointer (some ⟨gx, o, none⟩) := hu.1
            have zy : wv.cell? ⟨gx, o, none⟩ = some (.slice Av i cv) := ((TwW.below (by kernel_rfl) (by kernel_rfl) hw).cell (p := ⟨gx, o, none⟩) hgxr).trans zx
            clear hw hu
            go_simp
          refine R3.pgo_val _ rfl rfl (fun wv hw hu => ⟨.pointer (some ⟨wv.heap.size, 0, none⟩), wv.alloc (.cells [Value.slice none 0 0].toArray 26), ?_, TwE.new ((Below.refl _ _).alloc (Nat.le_refl _) _), ⟨_, rfl, hw.size, Blk.new _ _ _⟩⟩) ?_
          · clear hw hu
            go_simp
          refine pgo_two _ rfl rfl (fun wv hw hu => ?_) ?_
          · obtain ⟨g, h0, hg, hgb⟩ := hu.1
            refine ⟨.pointer (some ⟨g, 0, none⟩), ?_, g, rfl, hg, hgb⟩
            have h0 : us 4 = .pointer (some ⟨g, 0, none⟩) := h0
            clear hw hu hgb
            go_simp
          refine pgo_two _ rfl rfl (fun wv hw hu => ?_) ?_
          · obtain ⟨g, h0, hg, hgb⟩ := hu.1
            refine ⟨(.slice none 0 0), ?_, rfl⟩
            have h0 : us 5 = .pointer (some ⟨g, 0, none⟩) := h0
            have y0 := hgb.cell 0
            simp only [List.getElem?_toArray, List.getElem?_cons_zero] at y0
            clear hw hu hgb
            go_simp
          refine R3.pgo_val _ rfl rfl (fun wv hw hu => ⟨.slice (some ⟨wv.heap.size, 0, none⟩) 1 1, wv.alloc (.cells [Value.slice none 0 0].toArray 26), ?_, TwE.new ((Below.refl _ _).alloc (Nat.le_refl _) _), ⟨_, rfl, hw.size, Blk.new _ _ _⟩⟩) ?_
          · have h0 : us 6 = (.slice none 0 0) := hu.1
            clear hw hu
            go_simp
          refine R3.pgo_op _ rfl rfl (fun K wv hw hu hK => ?_) ?_
          · have h3 : us 3 = .slice Av i cv := hu.1
            obtain ⟨g, h7, hg, hgb⟩ := hu.2.1
            have hbw := TwW.below (by kernel_rfl) (by kernel_rfl) hw
            have how : wv.ownsRow w.heap.size 26 1 (.slice Av i cv) i xs := own_below Hown.out (below_undrew hbw) (Nat.le_refl _)
            have hsw : wr.heap.size ≤ wv.heap.size := hbw.size
            refine wpo_app_any elemLine _ _ rfl (by repeat (first | (with_reducible exact (put_eval_same _ _ _ (by simp [put_size])).trans h3) | (with_reducible refine put_eval _ _ _ _ _ (by decide) ?_))) how (by repeat (first | (with_reducible exact (put_eval_same _ _ _ (by simp [put_size])).trans h7) | (with_reducible refine put_eval _ _ _ _ _ (by decide) ?_))) (Cells.blk' hgb) rfl rfl (by omega) (by omega) (Nat.le_trans hszw hsw) (fun v' w' ho' hgr hd => ?_)
            refine hK _ _ (TwE.app hgr) ⟨ho', ?_⟩
            rcases hd with hd | hd
            · exact .inl hd
            · exact .inr ⟨_, hd, hsw⟩
          refine pgo_two _ rfl rfl (fun wv hw hu => ⟨.pointer (some ⟨gx, o, none⟩), ?_, rfl⟩) ?_
          · have h0 : us 0 = .pointer (some ⟨gx, o, none⟩) := hu.1
            clear hw hu
            go_simp
          refine R3.pgo_skip _ rfl rfl (fun wv hw hu => ?_) ?_
          · have h9 : us 9 = .pointer (some ⟨gx, o, none⟩) := hu.2.1
            obtain ⟨ho8, hf8⟩ := hu.1
            have hxb := TwW.blk (by kernel_rfl) hw Hb.out.drew hobx
            obtain ⟨A8, c8, h8⟩ := own_slice ho8
            have zy := hxb.cell o
            rw [Array.getElem?_setIfInBounds_self_of_lt hol] at zy
            have fy := hxb.frozen o
            refine ⟨wv.setCell ⟨gx, o, none⟩ (us 8), ?_, TwE.put (Only.set_ _ _ _ _), ⟨own_only ho8 (Only.set_ wv gx o _) (fun g hg e => ?_), hf8⟩, hxb.set_ o _⟩
            · rw [h8]
              clear hw hu ho8 hf8 hxb
              go_simp
            · subst e
              rcases hf8 with h | ⟨k, h, hk⟩
              · exact hobx (h.symm.trans hg)
              · rw [h] at hg; injection hg with hg
                have : wr.heap.size ≤ k := hk
                omega
          trivial
        · intro us w' hw hu
          obtain ⟨⟨ho8, hf8⟩, hx8⟩ := hu.1
          have hw8 : Only (TwK gx (Value.slice Av i cv).ownBlock (R3.allC 11 [0, 0, 0, 0, 1, 0, 0, 1, 2, 0, 3])) wr w' := Only.undrew hw
          obtain ⟨g, cap, R, h8, hg, hbl, hRs, hcap, hcm, hxl⟩ := own_blk ho8 (Nat.succ_pos i)
          rw [Array.setIfInBounds_setIfInBounds] at hx8
          rw [h8] at hx8 hf8
          have hgcw : gc < wr.heap.size := Hc.out.lt
          -- the coder stands
          have hcK : ∀ k, TwK gx (Value.slice Av i cv).ownBlock (R3.allC 11 [0, 0, 0, 0, 1, 0, 0, 1, 2, 0, 3]) k → (Value.slice Av i cv).ownBlock = some k ∨ k = gx := fun k hk => hk.imp And.right And.right
          have hov2x : ov2.ownBlock ≠ some gx := fun e => hov (Hf.out gx hgx e)
          have hc8 : Coder w' B gc true A2 c2 ov2 s1 := Hc.out.only hw8 (fun hk => by
              rcases hcK _ hk with hk | hk
              · have := (Hown.out.lt _ hk).1; omega
              · exact hne hk.symm) (fun k hk hkk => by
              rcases hcK _ hkk with hkk | hkk
              · obtain ⟨_, b1⟩ := own_ty Hc.out.own hk
                obtain ⟨_, b2⟩ := own_ty Hown.out hkk
                exact absurd (blk_ty b1 b2) (by decide)
              · subst hkk; exact hov2x hk) (fun k hk => by
              rcases hcK _ hk with hk | hk
              · have := (Hown.out.lt _ hk).1; omega
              · omega)
          have ho8w : Only (coderK gc ov fun i => i = gx) w w' := Ho.out.trans hw8 fun k hkw hk => by
            rcases hcK _ hk with hk | hk
            · have := (Hown.out.lt _ hk).1; omega
            · exact .inr (.inr hk)
          have hG8 : GLines w' w.heap.size done xs := glines_keep _ _ _ _ _ _ HG.out hw8 fun k hk cs' hb' => by
            rcases hcK _ hk with hk | hk
            · obtain ⟨_, b2⟩ := own_ty Hown.out hk
              exact absurd (blk_ty b2 hb') (by decide)
            · subst hk
              exact hti (blk_ty Hb.out hb')
          have zx8 := hx8.cell o
          rw [Array.getElem?_setIfInBounds_self_of_lt hol] at zx8
          have HC8 := Lib.hid hc8
          have HO8 := Lib.hid ho8w
          have HG8 := Lib.hid hG8
          have HX8 := Lib.hid hx8
          have HB8 := Lib.hid hbl
          have hxs : xs.length = 1 * i := by rw [Hown.out.1]; omega
          have hxsl : (xs ++ [Value.slice none 0 0]).length + R.size = cap * 1 := hRs
          have hgg : g ≠ gc := by omega
          have hggx : g ≠ gx := by omega
          have hovg : ov2.ownBlock ≠ some g := fun e => by
            obtain ⟨_, b1⟩ := own_ty hc8.own e
            exact absurd (blk_ty b1 hbl) (by decide)
          have hii : i < i + 1 := Nat.lt_succ_self i
          have hBg : B ≤ g := by omega
          clear hw hu hw8 ho8 hf8 hx8 hbl hc8 ho8w hG8 hcK h8 hRs
          simp only [lexL]
          go_simp
          go_wp2_with fail
          refine (ptsR_any B gc A2 c2 ov2 s1 g i 26 _ w' HC8.out (by omega) HB8.out hgg hovg hBg (by rw [Array.getElem?_append_left (by simp; omega)]; simp [show i = xs.length by omega]) (by decide)).mono ?_
          rintro e w3 ⟨rfl, hgot⟩
          obtain ⟨u, ys, hr3, hbl3, hown3, hG3⟩ := hgot
          rw [set_last (by omega)] at hbl3
          have HOwn3 := Lib.hid (blk_own (base := w.heap.size) (size := 1) (n := i + 1) (cap := cap) hg hbl3 (by simp at hxsl ⊢; omega) hcap hcm (by simp; omega))
          have HG3 := Lib.hid (show GLines w3 w.heap.size (done ++ [(rPts s1).1]) (xs ++ [u]) from glines_push (glines_keep _ _ _ _ _ _ HG8.out hr3.only fun k hk cs' hb' => by
            rcases hk with hk | hk | hk
            · rw [hk] at hb'; exact absurd (blk_ty HC8.out.blk hb') (by decide)
            · obtain ⟨_, b1⟩ := own_ty HC8.out.own hk
              exact absurd (blk_ty b1 hb') (by decide)
            · rw [hk] at hb'; exact absurd (blk_ty HB8.out hb') (by decide)) (by rw [show ys = edgeCells _ from hG3] at hown3; exact hown3) HO8.out.size)
          clear hbl3 hown3 hG3
          have hC3 := hr3.only
          have hb3 := hr3.blk HX8.out hne hov2x (fun e => hggx e.symm)
          obtain ⟨A3, c3, ov3, hc3, ho3, hf3⟩ := hr3
          have HC3 := Lib.hid hc3
          have HO3 := Lib.hid (HO8.out.trans ho3 fun k hkw hk => by
            rcases hk with hk | hk | hk
            · exact .inl hk
            · exact .inr (.inl (Hf.out k hkw hk))
            · omega)
          have HF3 := Lib.hid (fun k (hk : k < w.heap.size) he => Hf.out k hk (hf3 k (Nat.lt_of_lt_of_le hk HO8.out.size) he))
          have HB3 := Lib.hid hb3
          have HL3 := Lib.hid (show N - (i + 1) < N - i by omega)
          have hlo3 := (show (rPts s1).2.out.length ≤ s1.out.length + 1 from by have := rList_out (each := rPt) rPt_out HC8.out.byt; unfold rPts; omega)
          clear hC3 hc3 ho3 hf3 hb3
          have HW3 := Lib.hid (show rList rPts s = ((done ++ [(rPts s1).1]) ++ (rLoop rPts (N - (i + 1)) (rPts s1).2).1, (rLoop rPts (N - (i + 1)) (rPts s1).2).2) by rw [Hw.out, Hgo.out]; simp)
          generalize (rPts s1).2 = s3 at *
          generalize (rPts s1).1 = x at *
          have hdl3 : (done ++ [x]).length = i + 1 := by rw [List.length_append, Hdl.out]; rfl
          have Hdl3 := Lib.hid hdl3
          clear hdl3
          go_wp2_with fail
          go_roundg (N - (i + 1))
          case measure => rw [Hk.out]; exact HL3.out
          case rel => exact ⟨i + 1, done ++ [x], s3, A3, c3, ov3, _, _, by go_num, by omega, rfl, Hdl3.out, by omega, HW3.out, HC3.out, HO3.out, HF3.out, HB3.out, HOwn3.out, HG3.out⟩
    · have hie : i = N := by omega
      have HR := Lib.hid (HEnd.out (by rw [hie, Nat.sub_self]; rfl))
      have hlt' : ¬ (i : Int) < N := by omega
      clear hie HEnd
      go_wp2_with fail
      refine bodyPost_end (results_none rfl _ _ _) rfl ?_
      exact ⟨rfl, HR.out⟩
end Go.Proofs.Ytmlbjcngboegfaa
