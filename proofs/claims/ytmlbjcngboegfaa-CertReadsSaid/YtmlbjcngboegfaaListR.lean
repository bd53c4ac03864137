/-
  list, numbers, points: what they read. Printed by wip/C/genr.py. Written by an AI agent.
-/
import Derived.Test.YtmlbjcngboegfaaNumR
namespace Go.Proofs.Ytmlbjcngboegfaa
open Go.RowKit

theorem below_undrew {B : Nat} {w w' : World} (h : Below B w.drew w') : Below B w w' := ⟨h.os, h.tape, h.output, h.size, h.block⟩
theorem TwW.below {gx : Nat} {ob : Option Nat} {C : List Nat} {a b : World} (h2 : C.contains 2 = false) (h3 : C.contains 3 = false) (h : TwW gx ob C a b) : Below a.heap.size a b :=
  ⟨h.os, h.tape, h.output, h.size, fun i hi => h.block i hi fun hk => by
    rcases hk with ⟨hm, _⟩ | ⟨hm, _⟩
    · rw [List.contains_iff_mem.2 hm] at h2; cases h2
    · rw [List.contains_iff_mem.2 hm] at h3; cases h3⟩
theorem TwW.blk {gx : Nat} {ob : Option Nat} {C : List Nat} {a b : World} {t : TypeId} {cs : Array Value} (h3 : C.contains 3 = false) (h : TwW gx ob C a b) (hx : Blk a gx t cs) (hob : ob ≠ some gx) : Blk b gx t cs :=
  hx.only h fun hk => by
    rcases hk with ⟨_, hk⟩ | ⟨hm, _⟩
    · exact hob hk
    · rw [List.contains_iff_mem.2 hm] at h3; cases h3
theorem TwE.new {gx : Nat} {ob : Option Nat} {a b : World} (h : Below a.heap.size a b) : TwE gx ob 1 a b := by unfold TwE; rw [if_pos rfl]; exact h
theorem TwE.app {gx : Nat} {ob : Option Nat} {a b : World} (h : a.grownBy b ob) : TwE gx ob 2 a b := by unfold TwE; rw [if_neg (by decide), if_pos rfl]; exact h
theorem TwE.put {gx : Nat} {ob : Option Nat} {a b : World} (h : Only (fun i => i = gx) a b) : TwE gx ob 3 a b := by unfold TwE; rw [if_neg (by decide), if_neg (by decide), if_pos rfl]; exact h
theorem Cells.blk' {w : World} {g : Nat} {t : TypeId} {xs : List Value} (h : Blk w g t xs.toArray) : Cells w w.heap.size (some ⟨g, 0, none⟩) xs :=
  (Cells.of_blk (R := #[]) (by simpa using h)).more h.lt
theorem set_last {xs : List Value} {z u : Value} {R : Array Value} {i : Nat} (h : i = xs.length) : ((xs ++ [z]).toArray ++ R).setIfInBounds i u = (xs ++ [u]).toArray ++ R := by
  subst h
  rw [Array.setIfInBounds_append_left (by simp)]
  congr 1
  apply Array.ext'
  simp [List.set_append]
theorem set_last2 {xs : List Value} {z z' u u' : Value} {R : Array Value} {i : Nat} (h : i = xs.length) : (((xs ++ [z, z']).toArray ++ R).setIfInBounds i u).setIfInBounds (i + 1) u' = (xs ++ [u, u']).toArray ++ R := by
  subst h
  rw [Array.setIfInBounds_append_left (by simp), Array.setIfInBounds_append_left (by simp)]
  congr 1
  apply Array.ext'
  simp [List.set_append]
theorem own_ty {w : World} {base size n : Nat} {e : TypeId} {v : Value} {xs : List Value} (h : w.ownsRow base e size v n xs) {g : Nat} (hg : v.ownBlock = some g) : ∃ cs, Blk w g e cs := by
  rcases h.2 with ⟨rfl, _⟩ | ⟨g', cap, cur, rfl, _, hh, _⟩
  · cases hg
  · injection hg with hg
    subst hg
    exact ⟨cur, hh⟩
theorem blk_ty {w : World} {g : Nat} {t t' : TypeId} {cs cs' : Array Value} (h : Blk w g t cs) (h' : Blk w g t' cs') : t = t' := by
  unfold Blk at h h'
  rw [h] at h'
  injection h' with h'
  injection h'

/-- how the cells of a list that was read tell it -/
def GInts (_ : World) (_ : Nat) (l : List Int) (xs : List Value) : Prop := xs = intCells l
def GPts (_ : World) (_ : Nat) (l : List (Int × Int)) (xs : List Value) : Prop := xs = edgeCells l
def GRows (w : World) (base : Nat) (l : List (List Int)) (xs : List Value) : Prop := xs.length = l.length ∧ ∀ j (h : j < l.length), ∃ u, xs[j]? = some u ∧ w.ownsRow base 3 1 u l[j].length (intCells l[j])
def GLines (w : World) (base : Nat) (l : List (List (Int × Int))) (xs : List Value) : Prop := xs.length = l.length ∧ ∀ j (h : j < l.length), ∃ u, xs[j]? = some u ∧ w.ownsRow base 85 2 u l[j].length (edgeCells l[j])
/-- it stays, where no block of the inner type turns -/
def GKeep {α : Type} (G : World → Nat → List α → List Value → Prop) (inner : TypeId) : Prop := ∀ w w' (K : Nat → Prop) base l xs, G w base l xs → Only K w w' → (∀ i, K i → ∀ cs, ¬ Blk w i inner cs) → G w' base l xs
theorem gints_keep : GKeep GInts 0 := fun _ _ _ _ _ _ h _ _ => h
theorem gpts_keep : GKeep GPts 0 := fun _ _ _ _ _ _ h _ _ => h
theorem grows_keep : GKeep GRows 3 := fun w w' K base l xs h ho hK => ⟨h.1, fun j hj => by
  obtain ⟨u, h1, h2⟩ := h.2 j hj
  exact ⟨u, h1, own_only h2 ho fun g hg hk => by
    obtain ⟨cs, hb⟩ := own_ty h2 hg
    exact hK g hk cs hb⟩⟩
theorem glines_keep : GKeep GLines 85 := fun w w' K base l xs h ho hK => ⟨h.1, fun j hj => by
  obtain ⟨u, h1, h2⟩ := h.2 j hj
  exact ⟨u, h1, own_only h2 ho fun g hg hk => by
    obtain ⟨cs, hb⟩ := own_ty h2 hg
    exact hK g hk cs hb⟩⟩
theorem grows_push {w : World} {base base' : Nat} {l : List (List Int)} {x : List Int} {xs : List Value} {u : Value} (h : GRows w base l xs) (hu : w.ownsRow base' 3 1 u x.length (intCells x)) (hb : base ≤ base') : GRows w base (l ++ [x]) (xs ++ [u]) :=
  ⟨by simp [h.1], fun j hj => by
    by_cases hjl : j < l.length
    · obtain ⟨v, h1, h2⟩ := h.2 j hjl
      refine ⟨v, by rw [List.getElem?_append_left (by rw [h.1]; exact hjl)]; exact h1, ?_⟩
      rw [List.getElem_append_left hjl]; exact h2
    · have e : j = l.length := by simp at hj; omega
      subst e
      refine ⟨u, by rw [← h.1]; simp, ?_⟩
      simpa using own_mono hu hb⟩
theorem glines_push {w : World} {base base' : Nat} {l : List (List (Int × Int))} {x : List (Int × Int)} {xs : List Value} {u : Value} (h : GLines w base l xs) (hu : w.ownsRow base' 85 2 u x.length (edgeCells x)) (hb : base ≤ base') : GLines w base (l ++ [x]) (xs ++ [u]) :=
  ⟨by simp [h.1], fun j hj => by
    by_cases hjl : j < l.length
    · obtain ⟨v, h1, h2⟩ := h.2 j hjl
      refine ⟨v, by rw [List.getElem?_append_left (by rw [h.1]; exact hjl)]; exact h1, ?_⟩
      rw [List.getElem_append_left hjl]; exact h2
    · have e : j = l.length := by simp at hj; omega
      subst e
      refine ⟨u, by rw [← h.1]; simp, ?_⟩
      simpa using own_mono hu hb⟩

/-- a list was read into cell o of block gx -/
def Got {α : Type} (e : TypeId) (size : Nat) (G : World → Nat → List α → List Value → Prop) (B gc : Nat) (ov : Value) (gx : Nat) (t : TypeId) (cs : Array Value) (o : Nat) (w w' : World) (r : List α × CS) : Prop :=
  ∃ v xs, Ran B gc true ov (fun i => i = gx) w w' r.2 ∧ Blk w' gx t (cs.setIfInBounds o v) ∧ w'.ownsRow w.heap.size e size v r.1.length xs ∧ G w' w.heap.size r.1 xs
section
variable {α : Type} {each : CS → α × CS} {K : Nat}
theorem rLoop_go {k : Nat} {s : CS} (hs : s.bad = false) : rLoop each (k + 1) s = ((each s).1 :: (rLoop each k (each s).2).1, (rLoop each k (each s).2).2) := by
  rw [rLoop, if_neg (by simp [hs])]
theorem rLoop_stop (k : Nat) {s : CS} (hs : s.bad = true) : rLoop each k s = ([], s) := by
  cases k with
  | zero => rfl
  | succ k => rw [rLoop, if_pos hs]
theorem rCount_le {s : CS} (h : Bytes s.inn) : (rCount s).1 ≤ 128 := by
  have := (rNext_range h).1
  unfold rCount
  split
  · simp
  · simp only; omega
theorem rCount_out (s : CS) : (rCount s).2.out.length ≤ s.out.length + 1 := by
  have := rNext_out s
  unfold rCount
  split <;> simp [this]
theorem rGetL_out : ∀ m k u s, (rGetL m k u s).2.out = s.out
  | 0, _, _, _ => rfl
  | m + 1, k, u, s => by
    rw [rGetL_succ]
    split
    · exact rNext_out s
    · rw [rGetL_out m, rNext_out]
theorem rGet_out (s : CS) : (rGet s).2.out.length ≤ s.out.length + 0 := by
  unfold rGet; rw [rGetL_out]; exact Nat.le_refl _
theorem rPt_out (s : CS) : (rPt s).2.out.length ≤ s.out.length + 0 := Nat.le_trans (rGet_out _) (rGet_out s)
theorem rLoop_out (h : ∀ s, (each s).2.out.length ≤ s.out.length + K) : ∀ k s, (rLoop each k s).2.out.length ≤ s.out.length + K * k
  | 0, _ => Nat.le_add_right _ _
  | k + 1, s => by
    rw [rLoop]
    split
    · exact Nat.le_add_right _ _
    · have h1 := rLoop_out h k (each s).2
      have h2 := h s
      rw [Nat.mul_succ]
      simp only
      omega
end
theorem rList_out {α : Type} {each : CS → α × CS} {K : Nat} (h : ∀ s, (each s).2.out.length ≤ s.out.length + K) {s : CS} (hs : Bytes s.inn) : (rList each s).2.out.length ≤ s.out.length + (1 + K * 128) := by
  have h1 := rLoop_out h (rCount s).1 (rCount s).2
  have h2 := rCount_out s
  have h3 : K * (rCount s).1 ≤ K * 128 := Nat.mul_le_mul_left _ (rCount_le hs)
  unfold rList
  omega

set_option maxRecDepth 20000 in
set_option maxHeartbeats 4000000 in
theorem intsRL (B gc : Nat) (A : Option Addr) (c : Nat) (ov : Value) (s : CS) (gx o : Nat) (t : TypeId) (cs : Array Value) (w : World) (h : Coder w B gc true A c ov s) (hl : s.out.length ≤ 900000000) (hx : Blk w gx t cs) (hne : gx ≠ gc) (hov : ov.ownBlock ≠ some gx) (hB : B ≤ gx) (ho : cs[o]? = some (.slice none 0 0)) (hti : t ≠ 0) :
    Calls Try.prog 40 #[.pointer (some ⟨gc, 0, none⟩), .pointer (some ⟨gx, o, none⟩), .func (.func 36) #[] #[]] w (fun e w' => e = .returned (.tuple #[]) ∧ Got 3 1 GInts B gc ov gx t cs o w w' (rList rGet s)) := by
  have zx := hx.cell o
  rw [ho] at zx
  have hol : o < cs.size := (Array.getElem?_eq_some_iff.1 ho).1
  have H := Lib.hid h
  have Hx := Lib.hid hx
  clear h hx
  go_enter Try.func40, Try.ntmps40
  go_wp2_with fail
  refine (countR_any B gc A c ov s 0 w H.out (by omega)).mono ?_
  rintro e w1 ⟨rfl, A1, c1, ov1, hc1, ho1, hf1⟩
  have hN := rCount_le H.out.byt
  have hO := rCount_out s
  have HW := Lib.hid (show rList rGet s = rLoop rGet (rCount s).1 (rCount s).2 from rfl)
  have hov1 : ov1.ownBlock ≠ some gx := fun e => hov (hf1 gx Hx.out.lt e)
  have HX1 := Lib.hid (Hx.out.only ho1 fun hk => by
    rcases hk with hk | hk | hk
    · exact hne hk
    · exact hov hk
    · exact hk)
  generalize (rCount s).2 = s0 at *
  generalize (rCount s).1 = N at *
  have HC1 := Lib.hid hc1
  have HO1 := Lib.hid (ho1.mono (K' := coderK gc ov fun i => i = gx) fun i _ hi => hi.imp id (Or.imp id False.elim))
  have HF1 := Lib.hid hf1
  have Hcs := Lib.hid ho
  have hgx := Hx.out.lt
  have hgcB := H.out.ge
  have hgcL := H.out.lt
  clear hc1 ho1 hf1 zx hov1 ho
  go_wp2_with fail
  go_loopg [7] N (fun k s7 wr => ∃ (i : Nat) (done : List (Int)) (s1 : CS) (A2 : Option Addr) (c2 : Nat) (ov2 v : Value) (xs : List Value), s7 = .int .i64 i ∧ i ≤ N ∧ k = N - i ∧ done.length = i ∧ s1.out.length ≤ s.out.length + 1 + 0 * i ∧ rList rGet s = (done ++ (rLoop rGet (N - i) s1).1, (rLoop rGet (N - i) s1).2) ∧ Coder wr B gc true A2 c2 ov2 s1 ∧ Only (coderK gc ov (fun i => i = gx)) w wr ∧ (∀ i, i < w.heap.size → ov2.ownBlock = some i → ov.ownBlock = some i) ∧ Blk wr gx t (cs.setIfInBounds o v) ∧ wr.ownsRow w.heap.size 3 1 v i xs ∧ GInts wr w.heap.size done xs)
  case atStart =>
    exact ⟨0, [], s0, A1, c1, ov1, .slice none 0 0, [], rfl, Nat.zero_le _, rfl, rfl, by omega, by rw [HW.out]; rfl, HC1.out, HO1.out, HF1.out, by
      have e : cs.setIfInBounds o (.slice none 0 0) = cs := by
        apply Array.ext'
        have h1 := Hcs.out
        rw [← Array.getElem?_toList] at h1
        obtain ⟨h2, h3⟩ := List.getElem?_eq_some_iff.1 h1
        rw [Array.toList_setIfInBounds, ← h3, List.set_getElem_self]
      rw [e]; exact HX1.out, World.ownsRow_nil _ _ _ _, rfl⟩
  case round =>
    clear HC1 HO1 HF1 HW HX1 hO
    obtain ⟨i, done, s1, A2, c2, ov2, v, xs, rfl, hi, hk, hdl, hlo, hw, hc, ho, hf, hb, hown, hG⟩ := hrel
    obtain ⟨Av, cv, rfl⟩ := own_slice hown
    have z0 := hc.c0
    have z3 := hc.c3
    have zx := hb.cell o
    rw [Array.getElem?_setIfInBounds_self_of_lt hol] at zx
    have fx := hb.frozen o
    have hszw := ho.size
    have Hk := Lib.hid hk
    have Hw := Lib.hid hw
    have Hc := Lib.hid hc
    have Ho := Lib.hid ho
    have Hf := Lib.hid hf
    have Hb := Lib.hid hb
    have Hown := Lib.hid hown
    have HG := Lib.hid hG
    have Hdl := Lib.hid hdl
    clear hk hw hc ho hf hb hown hG hdl
    have HEnd := Lib.hid (fun (e : rLoop rGet (N - i) s1 = ([], s1)) => show Got 3 1 GInts B gc ov gx t cs o w wr (rList rGet s) from by
      rw [Hw.out, e, List.append_nil]
      exact ⟨_, xs, ⟨A2, c2, ov2, Hc.out, Ho.out, Hf.out⟩, Hb.out, by simp only; rw [Hdl.out]; exact Hown.out, HG.out⟩)
    by_cases hlt : i < N
    · have hlt' : (i : Int) < N := by omega
      cases hbad : s1.bad with
      | true =>
        rw [hbad] at z3
        have HR := Lib.hid (HEnd.out (rLoop_stop _ hbad))
        clear hbad HEnd
        go_wp2_with fail
        refine bodyPost_end (results_none rfl _ _ _) rfl ?_
        exact ⟨rfl, HR.out⟩
      | false =>
        rw [hbad] at z3
        have Hgo := Lib.hid (rLoop_go (each := rGet) (k := N - (i + 1)) hbad)
        rw [show N - (i + 1) + 1 = N - i by omega] at Hgo
        have hob : ∀ k, (Value.slice Av i cv).ownBlock = some k → k < wr.heap.size ∧ k ≠ gx := fun k hk => ⟨(Hown.out.lt k hk).2, by have := (Hown.out.lt k hk).1; omega⟩
        have Hob := Lib.hid hob
        have hgxr : gx < wr.heap.size := Nat.lt_of_lt_of_le hgx hszw
        have hobx : (Value.slice Av i cv).ownBlock ≠ some gx := fun e => (hob gx e).2 rfl
        clear hbad HEnd hob
        go_upto_region 5 with fail
        refine wp_region_two gx (Value.slice Av i cv).ownBlock #[0, 0, 2, 6, 0, 16, 48, 112, 254, 511, 1023] [0, 0, 0, 0, 1, 0, 0, 1, 2, 0, 3]
          [.v [] (.pointer (some ⟨gx, o, none⟩)), .v [] (.pointer (some ⟨gx, o, none⟩)), .v [1] (.pointer (some ⟨gx, o, none⟩)), .v [2] (.slice Av i cv),
           .p [] 3 [Value.int .i64 0].toArray (fun g => .pointer (some ⟨g, 0, none⟩)), .p [4] 3 [Value.int .i64 0].toArray (fun g => .pointer (some ⟨g, 0, none⟩)), .v [5] (.int .i64 0),
           .p [6] 3 [Value.int .i64 0].toArray (fun g => .slice (some ⟨g, 0, none⟩) 1 1), .own [3, 7] w.heap.size 3 1 (i + 1) (xs ++ [Value.int .i64 0]),
           .v [0] (.pointer (some ⟨gx, o, none⟩)), .fin [9] 8 w.heap.size 3 1 (i + 1) (xs ++ [Value.int .i64 0]) t (cs.setIfInBounds o (.slice Av i cv)) o]
          [10] (by kernel_rfl) (by kernel_rfl) hgxr Hob.out (fun us => ?_) ?_
        · refine pgo_two _ rfl rfl (fun wv hw hu => ⟨.pointer (some ⟨gx, o, none⟩), ?_, rfl⟩) ?_
          · clear hw hu
            go_simp
          refine pgo_two _ rfl rfl (fun wv hw hu => ⟨.pointer (some ⟨gx, o, none⟩), ?_, rfl⟩) ?_
          · clear hw hu
            go_simp
          refine pgo_two _ rfl rfl (fun wv hw hu => ⟨.pointer (some ⟨gx, o, none⟩), ?_, rfl⟩) ?_
          · have h0 : us 1 = .pointer (some ⟨gx, o, none⟩) := hu.1
            clear hw hu
            go_simp
          refine pgo_two _ rfl rfl (fun wv hw hu => ⟨.slice Av i cv, ?_, rfl⟩) ?_
          · have h0 : us 2 = .pointer (some ⟨gx, o, none⟩) := hu.1
            have zy : wv.cell? ⟨gx, o, none⟩ = some (.slice Av i cv) := ((TwW.below (by kernel_rfl) (by kernel_rfl) hw).cell (p := ⟨gx, o, none⟩) hgxr).trans zx
            clear hw hu
            go_simp
          refine R3.pgo_val _ rfl rfl (fun wv hw hu => ⟨.pointer (some ⟨wv.heap.size, 0, none⟩), wv.alloc (.cells [Value.int .i64 0].toArray 3), ?_, TwE.new ((Below.refl _ _).alloc (Nat.le_refl _) _), ⟨_, rfl, hw.size, Blk.new _ _ _⟩⟩) ?_
          · clear hw hu
            go_simp
          refine pgo_two _ rfl rfl (fun wv hw hu => ?_) ?_
          · obtain ⟨g, h0, hg, hgb⟩ := hu.1
            refine ⟨.pointer (some ⟨g, 0, none⟩), ?_, g, rfl, hg, hgb⟩
            have h0 : us 4 = .pointer (some ⟨g, 0, none⟩) := h0
            clear hw hu hgb
            go_simp
          refine pgo_two _ rfl rfl (fun wv hw hu => ?_) ?_
          · obtain ⟨g, h0, hg, hgb⟩ := hu.1
            refine ⟨(.int .i64 0), ?_, rfl⟩
            have h0 : us 5 = .pointer (some ⟨g, 0, none⟩) := h0
            have y0 := hgb.cell 0
            simp only [List.getElem?_toArray, List.getElem?_cons_zero] at y0
            clear hw hu hgb
            go_simp
          refine R3.pgo_val _ rfl rfl (fun wv hw hu => ⟨.slice (some ⟨wv.heap.size, 0, none⟩) 1 1, wv.alloc (.cells [Value.int .i64 0].toArray 3), ?_, TwE.new ((Below.refl _ _).alloc (Nat.le_refl _) _), ⟨_, rfl, hw.size, Blk.new _ _ _⟩⟩) ?_
          · have h0 : us 6 = (.int .i64 0) := hu.1
            clear hw hu
            go_simp
          refine R3.pgo_op _ rfl rfl (fun K wv hw hu hK => ?_) ?_
          · have h3 : us 3 = .slice Av i cv := hu.1
            obtain ⟨g, h7, hg, hgb⟩ := hu.2.1
            have hbw := TwW.below (by kernel_rfl) (by kernel_rfl) hw
            have how : wv.ownsRow w.heap.size 3 1 (.slice Av i cv) i xs := own_below Hown.out (below_undrew hbw) (Nat.le_refl _)
            have hsw : wr.heap.size ≤ wv.heap.size := hbw.size
            refine wpo_app_any elemInt _ _ rfl (by repeat (first | (with_reducible exact (put_eval_same _ _ _ (by simp [put_size])).trans h3) | (with_reducible refine put_eval _ _ _ _ _ (by decide) ?_))) how (by repeat (first | (with_reducible exact (put_eval_same _ _ _ (by simp [put_size])).trans h7) | (with_reducible refine put_eval _ _ _ _ _ (by decide) ?_))) (Cells.blk' hgb) rfl rfl (by omega) (by omega) (Nat.le_trans hszw hsw) (fun v' w' ho' hgr hd => ?_)
            refine hK _ _ (TwE.app hgr) ⟨ho', ?_⟩
            rcases hd with hd | hd
            · exact .inl hd
            · exact .inr ⟨_, hd, hsw⟩
          refine pgo_two _ rfl rfl (fun wv hw hu => ⟨.pointer (some ⟨gx, o, none⟩), ?_, rfl⟩) ?_
          · have h0 : us 0 = .pointer (some ⟨gx, o, none⟩) := hu.1
            clear hw hu
            go_simp
          refine R3.pgo_skip _ rfl rfl (fun wv hw hu => ?_) ?_
          · have h9 : us 9 = .pointer (some ⟨gx, o, none⟩) := hu.2.1
            obtain ⟨ho8, hf8⟩ := hu.1
            have hxb := TwW.blk (by kernel_rfl) hw Hb.out.drew hobx
            obtain ⟨A8, c8, h8⟩ := own_slice ho8
            have zy := hxb.cell o
            rw [Array.getElem?_setIfInBounds_self_of_lt hol] at zy
            have fy := hxb.frozen o
            refine ⟨wv.setCell ⟨gx, o, none⟩ (us 8), ?_, TwE.put (Only.set_ _ _ _ _), ⟨own_only ho8 (Only.set_ wv gx o _) (fun g hg e => ?_), hf8⟩, hxb.set_ o _⟩
            · rw [h8]
              clear hw hu ho8 hf8 hxb
              go_simp
            · subst e
              rcases hf8 with h | ⟨k, h, hk⟩
              · exact hobx (h.symm.trans hg)
              · rw [h] at hg; injection hg with hg
                have : wr.heap.size ≤ k := hk
                omega
          trivial
        · intro us w' hw hu
          obtain ⟨⟨ho8, hf8⟩, hx8⟩ := hu.1
          have hw8 : Only (TwK gx (Value.slice Av i cv).ownBlock (R3.allC 11 [0, 0, 0, 0, 1, 0, 0, 1, 2, 0, 3])) wr w' := Only.undrew hw
          obtain ⟨g, cap, R, h8, hg, hbl, hRs, hcap, hcm, hxl⟩ := own_blk ho8 (Nat.succ_pos i)
          rw [Array.setIfInBounds_setIfInBounds] at hx8
          rw [h8] at hx8 hf8
          have hgcw : gc < wr.heap.size := Hc.out.lt
          -- the coder stands
          have hcK : ∀ k, TwK gx (Value.slice Av i cv).ownBlock (R3.allC 11 [0, 0, 0, 0, 1, 0, 0, 1, 2, 0, 3]) k → (Value.slice Av i cv).ownBlock = some k ∨ k = gx := fun k hk => hk.imp And.right And.right
          have hov2x : ov2.ownBlock ≠ some gx := fun e => hov (Hf.out gx hgx e)
          have hc8 : Coder w' B gc true A2 c2 ov2 s1 := Hc.out.only hw8 (fun hk => by
              rcases hcK _ hk with hk | hk
              · have := (Hown.out.lt _ hk).1; omega
              · exact hne hk.symm) (fun k hk hkk => by
              rcases hcK _ hkk with hkk | hkk
              · obtain ⟨_, b1⟩ := own_ty Hc.out.own hk
                obtain ⟨_, b2⟩ := own_ty Hown.out hkk
                exact absurd (blk_ty b1 b2) (by decide)
              · subst hkk; exact hov2x hk) (fun k hk => by
              rcases hcK _ hk with hk | hk
              · have := (Hown.out.lt _ hk).1; omega
              · omega)
          have ho8w : Only (coderK gc ov fun i => i = gx) w w' := Ho.out.trans hw8 fun k hkw hk => by
            rcases hcK _ hk with hk | hk
            · have := (Hown.out.lt _ hk).1; omega
            · exact .inr (.inr hk)
          have hG8 : GInts w' w.heap.size done xs := gints_keep _ _ _ _ _ _ HG.out hw8 fun k hk cs' hb' => by
            rcases hcK _ hk with hk | hk
            · obtain ⟨_, b2⟩ := own_ty Hown.out hk
              exact absurd (blk_ty b2 hb') (by decide)
            · subst hk
              exact hti (blk_ty Hb.out hb')
          have zx8 := hx8.cell o
          rw [Array.getElem?_setIfInBounds_self_of_lt hol] at zx8
          have HC8 := Lib.hid hc8
          have HO8 := Lib.hid ho8w
          have HG8 := Lib.hid hG8
          have HX8 := Lib.hid hx8
          have HB8 := Lib.hid hbl
          have hxs : xs.length = 1 * i := by rw [Hown.out.1]; omega
          have hxsl : (xs ++ [Value.int .i64 0]).length + R.size = cap * 1 := hRs
          have hgg : g ≠ gc := by omega
          have hggx : g ≠ gx := by omega
          have hovg : ov2.ownBlock ≠ some g := fun e => by
            obtain ⟨_, b1⟩ := own_ty hc8.own e
            exact absurd (blk_ty b1 hbl) (by decide)
          have hii : i < i + 1 := Nat.lt_succ_self i
          have hBg : B ≤ g := by omega
          clear hw hu hw8 ho8 hf8 hx8 hbl hc8 ho8w hG8 hcK h8 hRs
          simp only [lexL]
          go_simp
          go_wp2_with fail
          refine (numberR_any B gc A2 c2 ov2 s1 g i 3 _ w' HC8.out HB8.out hgg hovg hBg (by simp; omega)).mono ?_
          rintro e w3 ⟨rfl, hr3, hbl3⟩
          rw [set_last (by omega)] at hbl3
          have HOwn3 := Lib.hid (blk_own (base := w.heap.size) (size := 1) (n := i + 1) (cap := cap) hg hbl3 (by simp at hxsl ⊢; omega) hcap hcm (by simp; omega))
          have HG3 := Lib.hid (show GInts w3 w.heap.size (done ++ [(rGet s1).1]) (xs ++ [.int .i64 (rGet s1).1]) by rw [show xs = intCells done from HG8.out]; unfold GInts intCells; simp)
          clear hbl3
          have hC3 := hr3.only
          have hb3 := hr3.blk HX8.out hne hov2x (fun e => hggx e.symm)
          obtain ⟨A3, c3, ov3, hc3, ho3, hf3⟩ := hr3
          have HC3 := Lib.hid hc3
          have HO3 := Lib.hid (HO8.out.trans ho3 fun k hkw hk => by
            rcases hk with hk | hk | hk
            · exact .inl hk
            · exact .inr (.inl (Hf.out k hkw hk))
            · omega)
          have HF3 := Lib.hid (fun k (hk : k < w.heap.size) he => Hf.out k hk (hf3 k (Nat.lt_of_lt_of_le hk HO8.out.size) he))
          have HB3 := Lib.hid hb3
          have HL3 := Lib.hid (show N - (i + 1) < N - i by omega)
          have hlo3 := rGet_out s1
          clear hC3 hc3 ho3 hf3 hb3
          have HW3 := Lib.hid (show rList rGet s = ((done ++ [(rGet s1).1]) ++ (rLoop rGet (N - (i + 1)) (rGet s1).2).1, (rLoop rGet (N - (i + 1)) (rGet s1).2).2) by rw [Hw.out, Hgo.out]; simp)
          generalize (rGet s1).2 = s3 at *
          generalize (rGet s1).1 = x at *
          have hdl3 : (done ++ [x]).length = i + 1 := by rw [List.length_append, Hdl.out]; rfl
          have Hdl3 := Lib.hid hdl3
          clear hdl3
          go_wp2_with fail
          go_roundg (N - (i + 1))
          case measure => rw [Hk.out]; exact HL3.out
          case rel => exact ⟨i + 1, done ++ [x], s3, A3, c3, ov3, _, _, by go_num, by omega, rfl, Hdl3.out, by omega, HW3.out, HC3.out, HO3.out, HF3.out, HB3.out, HOwn3.out, HG3.out⟩
    · have hie : i = N := by omega
      have HR := Lib.hid (HEnd.out (by rw [hie, Nat.sub_self]; rfl))
      have hlt' : ¬ (i : Int) < N := by omega
      clear hie HEnd
      go_wp2_with fail
      refine bodyPost_end (results_none rfl _ _ _) rfl ?_
      exact ⟨rfl, HR.out⟩

theorem intsR_any (B gc : Nat) (A : Option Addr) (c : Nat) (ov : Value) (s : CS) (gx o : Nat) (t : TypeId) (cs : Array Value) (w : World) (h : Coder w B gc true A c ov s) (hl : s.out.length ≤ 900000000) (hx : Blk w gx t cs) (hne : gx ≠ gc) (hov : ov.ownBlock ≠ some gx) (hB : B ≤ gx) (ho : cs[o]? = some (.slice none 0 0)) (hti : t ≠ 0) :
    Calls Try.prog 34 #[.pointer (some ⟨gc, 0, none⟩), .pointer (some ⟨gx, o, none⟩)] w (fun e w' => e = .returned (.tuple #[]) ∧ Got 3 1 GInts B gc ov gx t cs o w w' (rInts s)) := by
  have HL := Lib.hid (intsRL B gc A c ov s gx o t cs w h hl hx hne hov hB ho hti)
  clear h hx ho
  go_enter Try.func34, Try.ntmps34
  go_wp2_with fail
  refine HL.out.mono ?_
  rintro e w1 ⟨rfl, hr⟩
  have Hr := Lib.hid hr
  clear hr
  go_wp2_with fail
  refine bodyPost_end (results_none rfl _ _ _) rfl ?_
  exact ⟨rfl, Hr.out⟩

set_option maxRecDepth 20000 in
set_option maxHeartbeats 4000000 in
theorem ptsRL (B gc : Nat) (A : Option Addr) (c : Nat) (ov : Value) (s : CS) (gx o : Nat) (t : TypeId) (cs : Array Value) (w : World) (h : Coder w B gc true A c ov s) (hl : s.out.length ≤ 900000000) (hx : Blk w gx t cs) (hne : gx ≠ gc) (hov : ov.ownBlock ≠ some gx) (hB : B ≤ gx) (ho : cs[o]? = some (.slice none 0 0)) (hti : t ≠ 0) :
    Calls Try.prog 44 #[.pointer (some ⟨gc, 0, none⟩), .pointer (some ⟨gx, o, none⟩), .func (.func 45) #[] #[]] w (fun e w' => e = .returned (.tuple #[]) ∧ Got 85 2 GPts B gc ov gx t cs o w w' (rList rPt s)) := by
  have zx := hx.cell o
  rw [ho] at zx
  have hol : o < cs.size := (Array.getElem?_eq_some_iff.1 ho).1
  have H := Lib.hid h
  have Hx := Lib.hid hx
  clear h hx
  go_enter Try.func44, Try.ntmps44
  go_wp2_with fail
  refine (countR_any B gc A c ov s 0 w H.out (by omega)).mono ?_
  rintro e w1 ⟨rfl, A1, c1, ov1, hc1, ho1, hf1⟩
  have hN := rCount_le H.out.byt
  have hO := rCount_out s
  have HW := Lib.hid (show rList rPt s = rLoop rPt (rCount s).1 (rCount s).2 from rfl)
  have hov1 : ov1.ownBlock ≠ some gx := fun e => hov (hf1 gx Hx.out.lt e)
  have HX1 := Lib.hid (Hx.out.only ho1 fun hk => by
    rcases hk with hk | hk | hk
    · exact hne hk
    · exact hov hk
    · exact hk)
  generalize (rCount s).2 = s0 at *
  generalize (rCount s).1 = N at *
  have HC1 := Lib.hid hc1
  have HO1 := Lib.hid (ho1.mono (K' := coderK gc ov fun i => i = gx) fun i _ hi => hi.imp id (Or.imp id False.elim))
  have HF1 := Lib.hid hf1
  have Hcs := Lib.hid ho
  have hgx := Hx.out.lt
  have hgcB := H.out.ge
  have hgcL := H.out.lt
  clear hc1 ho1 hf1 zx hov1 ho
  go_wp2_with fail
  go_loopg [7] N (fun k s7 wr => ∃ (i : Nat) (done : List (Int × Int)) (s1 : CS) (A2 : Option Addr) (c2 : Nat) (ov2 v : Value) (xs : List Value), s7 = .int .i64 i ∧ i ≤ N ∧ k = N - i ∧ done.length = i ∧ s1.out.length ≤ s.out.length + 1 + 0 * i ∧ rList rPt s = (done ++ (rLoop rPt (N - i) s1).1, (rLoop rPt (N - i) s1).2) ∧ Coder wr B gc true A2 c2 ov2 s1 ∧ Only (coderK gc ov (fun i => i = gx)) w wr ∧ (∀ i, i < w.heap.size → ov2.ownBlock = some i → ov.ownBlock = some i) ∧ Blk wr gx t (cs.setIfInBounds o v) ∧ wr.ownsRow w.heap.size 85 2 v i xs ∧ GPts wr w.heap.size done xs)
  case atStart =>
    exact ⟨0, [], s0, A1, c1, ov1, .slice none 0 0, [], rfl, Nat.zero_le _, rfl, rfl, by omega, by rw [HW.out]; rfl, HC1.out, HO1.out, HF1.out, by
      have e : cs.setIfInBounds o (.slice none 0 0) = cs := by
        apply Array.ext'
        have h1 := Hcs.out
        rw [← Array.getElem?_toList] at h1
        obtain ⟨h2, h3⟩ := List.getElem?_eq_some_iff.1 h1
        rw [Array.toList_setIfInBounds, ← h3, List.set_getElem_self]
      rw [e]; exact HX1.out, World.ownsRow_nil _ _ _ _, rfl⟩
  case round =>
    clear HC1 HO1 HF1 HW HX1 hO
    obtain ⟨i, done, s1, A2, c2, ov2, v, xs, rfl, hi, hk, hdl, hlo, hw, hc, ho, hf, hb, hown, hG⟩ := hrel
    obtain ⟨Av, cv, rfl⟩ := own_slice hown
    have z0 := hc.c0
    have z3 := hc.c3
    have zx := hb.cell o
    rw [Array.getElem?_setIfInBounds_self_of_lt hol] at zx
    have fx := hb.frozen o
    have hszw := ho.size
    have Hk := Lib.hid hk
    have Hw := Lib.hid hw
    have Hc := Lib.hid hc
    have Ho := Lib.hid ho
    have Hf := Lib.hid hf
    have Hb := Lib.hid hb
    have Hown := Lib.hid hown
    have HG := Lib.hid hG
    have Hdl := Lib.hid hdl
    clear hk hw hc ho hf hb hown hG hdl
    have HEnd := Lib.hid (fun (e : rLoop rPt (N - i) s1 = ([], s1)) => show Got 85 2 GPts B gc ov gx t cs o w wr (rList rPt s) from by
      rw [Hw.out, e, List.append_nil]
      exact ⟨_, xs, ⟨A2, c2, ov2, Hc.out, Ho.out, Hf.out⟩, Hb.out, by simp only; rw [Hdl.out]; exact Hown.out, HG.out⟩)
    by_cases hlt : i < N
    · have hlt' : (i : Int) < N := by omega
      cases hbad : s1.bad with
      | true =>
        rw [hbad] at z3
        have HR := Lib.hid (HEnd.out (rLoop_stop _ hbad))
        clear hbad HEnd
        go_wp2_with fail
        refine bodyPost_end (results_none rfl _ _ _) rfl ?_
        exact ⟨rfl, HR.out⟩
      | false =>
        rw [hbad] at z3
        have Hgo := Lib.hid (rLoop_go (each := rPt) (k := N - (i + 1)) hbad)
        rw [show N - (i + 1) + 1 = N - i by omega] at Hgo
        have hob : ∀ k, (Value.slice Av i cv).ownBlock = some k → k < wr.heap.size ∧ k ≠ gx := fun k hk => ⟨(Hown.out.lt k hk).2, by have := (Hown.out.lt k hk).1; omega⟩
        have Hob := Lib.hid hob
        have hgxr : gx < wr.heap.size := Nat.lt_of_lt_of_le hgx hszw
        have hobx : (Value.slice Av i cv).ownBlock ≠ some gx := fun e => (hob gx e).2 rfl
        clear hbad HEnd hob
        go_upto_region 5 with fail
        refine wp_region_two gx (Value.slice Av i cv).ownBlock #[0, 0, 2, 6, 0, 16, 48, 112, 254, 511, 1023] [0, 0, 0, 0, 1, 0, 0, 1, 2, 0, 3]
          [.v [] (.pointer (some ⟨gx, o, none⟩)), .v [] (.pointer (some ⟨gx, o, none⟩)), .v [1] (.pointer (some ⟨gx, o, none⟩)), .v [2] (.slice Av i cv),
           .p [] 85 [Value.int .i64 0, Value.int .i64 0].toArray (fun g => .pointer (some ⟨g, 0, none⟩)), .p [4] 85 [Value.int .i64 0, Value.int .i64 0].toArray (fun g => .pointer (some ⟨g, 0, none⟩)), .v [5] (.agg #[.int .i64 0, .int .i64 0]),
           .p [6] 85 [Value.int .i64 0, Value.int .i64 0].toArray (fun g => .slice (some ⟨g, 0, none⟩) 1 1), .own [3, 7] w.heap.size 85 2 (i + 1) (xs ++ [Value.int .i64 0, Value.int .i64 0]),
           .v [0] (.pointer (some ⟨gx, o, none⟩)), .fin [9] 8 w.heap.size 85 2 (i + 1) (xs ++ [Value.int .i64 0, Value.int .i64 0]) t (cs.setIfInBounds o (.slice Av i cv)) o]
          [10] (by kernel_rfl) (by kernel_rfl) hgxr Hob.out (fun us => ?_) ?_
        · refine pgo_two _ rfl rfl (fun wv hw hu => ⟨.pointer (some ⟨gx, o, none⟩), ?_, rfl⟩) ?_
          · clear hw hu
            go_simp
          refine pgo_two _ rfl rfl (fun wv hw hu => ⟨.pointer (some ⟨gx, o, none⟩), ?_, rfl⟩) ?_
          · clear hw hu
            go_simp
          refine pgo_two _ rfl rfl (fun wv hw hu => ⟨.pointer (some ⟨gx, o, none⟩), ?_, rfl⟩) ?_
          · have h0 : us 1 = .pointer (some ⟨gx, o, none⟩) := hu.1
            clear hw hu
            go_simp
          refine pgo_two _ rfl rfl (fun wv hw hu => ⟨.slice Av i cv, ?_, rfl⟩) ?_
          · have h0 : us 2 = .pointer (some ⟨gx, o, none⟩) := hu.1
            have zy : wv.cell? ⟨gx, o, none⟩ = some (.slice Av i cv) := ((TwW.below (by kernel_rfl) (by kernel_rfl) hw).cell (p := ⟨gx, o, none⟩) hgxr).trans zx
            clear hw hu
            go_simp
          refine R3.pgo_val _ rfl rfl (fun wv hw hu => ⟨.pointer (some ⟨wv.heap.size, 0, none⟩), wv.alloc (.cells [Value.int .i64 0, Value.int .i64 0].toArray 85), ?_, TwE.new ((Below.refl _ _).alloc (Nat.le_refl _) _), ⟨_, rfl, hw.size, Blk.new _ _ _⟩⟩) ?_
          · clear hw hu
            go_simp
          refine pgo_two _ rfl rfl (fun wv hw hu => ?_) ?_
          · obtain ⟨g, h0, hg, hgb⟩ := hu.1
            refine ⟨.pointer (some ⟨g, 0, none⟩), ?_, g, rfl, hg, hgb⟩
            have h0 : us 4 = .pointer (some ⟨g, 0, none⟩) := h0
            clear hw hu hgb
            go_simp
          refine pgo_two _ rfl rfl (fun wv hw hu => ?_) ?_
          · obtain ⟨g, h0, hg, hgb⟩ := hu.1
            refine ⟨(.agg #[.int .i64 0, .int .i64 0]), ?_, rfl⟩
            have h0 : us 5 = .pointer (some ⟨g, 0, none⟩) := h0
            have y0 := hgb.cell 0
            have y1 := hgb.cell 1
            simp only [List.getElem?_toArray, List.getElem?_cons_zero, List.getElem?_cons_succ] at y0 y1
            clear hw hu hgb
            go_simp
          refine R3.pgo_val _ rfl rfl (fun wv hw hu => ⟨.slice (some ⟨wv.heap.size, 0, none⟩) 1 1, wv.alloc (.cells [Value.int .i64 0, Value.int .i64 0].toArray 85), ?_, TwE.new ((Below.refl _ _).alloc (Nat.le_refl _) _), ⟨_, rfl, hw.size, Blk.new _ _ _⟩⟩) ?_
          · have h0 : us 6 = (.agg #[.int .i64 0, .int .i64 0]) := hu.1
            clear hw hu
            go_simp
          refine R3.pgo_op _ rfl rfl (fun K wv hw hu hK => ?_) ?_
          · have h3 : us 3 = .slice Av i cv := hu.1
            obtain ⟨g, h7, hg, hgb⟩ := hu.2.1
            have hbw := TwW.below (by kernel_rfl) (by kernel_rfl) hw
            have how : wv.ownsRow w.heap.size 85 2 (.slice Av i cv) i xs := own_below Hown.out (below_undrew hbw) (Nat.le_refl _)
            have hsw : wr.heap.size ≤ wv.heap.size := hbw.size
            refine wpo_app_any elemPt _ _ rfl (by repeat (first | (with_reducible exact (put_eval_same _ _ _ (by simp [put_size])).trans h3) | (with_reducible refine put_eval _ _ _ _ _ (by decide) ?_))) how (by repeat (first | (with_reducible exact (put_eval_same _ _ _ (by simp [put_size])).trans h7) | (with_reducible refine put_eval _ _ _ _ _ (by decide) ?_))) (Cells.blk' hgb) rfl rfl (by omega) (by omega) (Nat.le_trans hszw hsw) (fun v' w' ho' hgr hd => ?_)
            refine hK _ _ (TwE.app hgr) ⟨ho', ?_⟩
            rcases hd with hd | hd
            · exact .inl hd
            · exact .inr ⟨_, hd, hsw⟩
          refine pgo_two _ rfl rfl (fun wv hw hu => ⟨.pointer (some ⟨gx, o, none⟩), ?_, rfl⟩) ?_
          · have h0 : us 0 = .pointer (some ⟨gx, o, none⟩) := hu.1
            clear hw hu
            go_simp
          refine R3.pgo_skip _ rfl rfl (fun wv hw hu => ?_) ?_
          · have h9 : us 9 = .pointer (some ⟨gx, o, none⟩) := hu.2.1
            obtain ⟨ho8, hf8⟩ := hu.1
            have hxb := TwW.blk (by kernel_rfl) hw Hb.out.drew hobx
            obtain ⟨A8, c8, h8⟩ := own_slice ho8
            have zy := hxb.cell o
            rw [Array.getElem?_setIfInBounds_self_of_lt hol] at zy
            have fy := hxb.frozen o
            refine ⟨wv.setCell ⟨gx, o, none⟩ (us 8), ?_, TwE.put (Only.set_ _ _ _ _), ⟨own_only ho8 (Only.set_ wv gx o _) (fun g hg e => ?_), hf8⟩, hxb.set_ o _⟩
            · rw [h8]
              clear hw hu ho8 hf8 hxb
              go_simp
            · subst e
              rcases hf8 with h | ⟨k, h, hk⟩
              · exact hobx (h.symm.trans hg)
              · rw [h] at hg; injection hg with hg
                have : wr.heap.size ≤ k := hk
                omega
          trivial
        · intro us w' hw hu
          obtain ⟨⟨ho8, hf8⟩, hx8⟩ := hu.1
          have hw8 : Only (TwK gx (Value.slice Av i cv).ownBlock (R3.allC 11 [0, 0, 0, 0, 1, 0, 0, 1, 2, 0, 3])) wr w' := Only.undrew hw
          obtain ⟨g, cap, R, h8, hg, hbl, hRs, hcap, hcm, hxl⟩ := own_blk ho8 (Nat.succ_pos i)
          rw [Array.setIfInBounds_setIfInBounds] at hx8
          rw [h8] at hx8 hf8
          have hgcw : gc < wr.heap.size := Hc.out.lt
          -- the coder stands
          have hcK : ∀ k, TwK gx (Value.slice Av i cv).ownBlock (R3.allC 11 [0, 0, 0, 0, 1, 0, 0, 1, 2, 0, 3]) k → (Value.slice Av i cv).ownBlock = some k ∨ k = gx := fun k hk => hk.imp And.right And.right
          have hov2x : ov2.ownBlock ≠ some gx := fun e => hov (Hf.out gx hgx e)
          have hc8 : Coder w' B gc true A2 c2 ov2 s1 := Hc.out.only hw8 (fun hk => by
              rcases hcK _ hk with hk | hk
              · have := (Hown.out.lt _ hk).1; omega
              · exact hne hk.symm) (fun k hk hkk => by
              rcases hcK _ hkk with hkk | hkk
              · obtain ⟨_, b1⟩ := own_ty Hc.out.own hk
                obtain ⟨_, b2⟩ := own_ty Hown.out hkk
                exact absurd (blk_ty b1 b2) (by decide)
              · subst hkk; exact hov2x hk) (fun k hk => by
              rcases hcK _ hk with hk | hk
              · have := (Hown.out.lt _ hk).1; omega
              · omega)
          have ho8w : Only (coderK gc ov fun i => i = gx) w w' := Ho.out.trans hw8 fun k hkw hk => by
            rcases hcK _ hk with hk | hk
            · have := (Hown.out.lt _ hk).1; omega
            · exact .inr (.inr hk)
          have hG8 : GPts w' w.heap.size done xs := gpts_keep _ _ _ _ _ _ HG.out hw8 fun k hk cs' hb' => by
            rcases hcK _ hk with hk | hk
            · obtain ⟨_, b2⟩ := own_ty Hown.out hk
              exact absurd (blk_ty b2 hb') (by decide)
            · subst hk
              exact hti (blk_ty Hb.out hb')
          have zx8 := hx8.cell o
          rw [Array.getElem?_setIfInBounds_self_of_lt hol] at zx8
          have HC8 := Lib.hid hc8
          have HO8 := Lib.hid ho8w
          have HG8 := Lib.hid hG8
          have HX8 := Lib.hid hx8
          have HB8 := Lib.hid hbl
          have hxs : xs.length = 2 * i := by rw [Hown.out.1]; omega
          have hxsl : (xs ++ [Value.int .i64 0, Value.int .i64 0]).length + R.size = cap * 2 := hRs
          have hgg : g ≠ gc := by omega
          have hggx : g ≠ gx := by omega
          have hovg : ov2.ownBlock ≠ some g := fun e => by
            obtain ⟨_, b1⟩ := own_ty hc8.own e
            exact absurd (blk_ty b1 hbl) (by decide)
          have hii : i < i + 1 := Nat.lt_succ_self i
          have hBg : B ≤ g := by omega
          clear hw hu hw8 ho8 hf8 hx8 hbl hc8 ho8w hG8 hcK h8 hRs
          simp only [lexL]
          go_simp
          go_wp2_with fail
          refine (pointR_any B gc A2 c2 ov2 s1 g (i * 2) 85 _ w' HC8.out HB8.out hgg hovg hBg (by simp; omega)).mono ?_
          rintro e w3 ⟨rfl, hr3, hbl3⟩
          rw [set_last2 (by omega)] at hbl3
          have HOwn3 := Lib.hid (blk_own (base := w.heap.size) (size := 2) (n := i + 1) (cap := cap) hg hbl3 (by simp at hxsl ⊢; omega) hcap hcm (by simp; omega))
          have HG3 := Lib.hid (show GPts w3 w.heap.size (done ++ [(rPt s1).1]) (xs ++ [.int .i64 (rPt s1).1.1, .int .i64 (rPt s1).1.2]) by rw [show xs = edgeCells done from HG8.out]; unfold GPts edgeCells; simp)
          clear hbl3
          have hC3 := hr3.only
          have hb3 := hr3.blk HX8.out hne hov2x (fun e => hggx e.symm)
          obtain ⟨A3, c3, ov3, hc3, ho3, hf3⟩ := hr3
          have HC3 := Lib.hid hc3
          have HO3 := Lib.hid (HO8.out.trans ho3 fun k hkw hk => by
            rcases hk with hk | hk | hk
            · exact .inl hk
            · exact .inr (.inl (Hf.out k hkw hk))
            · omega)
          have HF3 := Lib.hid (fun k (hk : k < w.heap.size) he => Hf.out k hk (hf3 k (Nat.lt_of_lt_of_le hk HO8.out.size) he))
          have HB3 := Lib.hid hb3
          have HL3 := Lib.hid (show N - (i + 1) < N - i by omega)
          have hlo3 := rPt_out s1
          clear hC3 hc3 ho3 hf3 hb3
          have HW3 := Lib.hid (show rList rPt s = ((done ++ [(rPt s1).1]) ++ (rLoop rPt (N - (i + 1)) (rPt s1).2).1, (rLoop rPt (N - (i + 1)) (rPt s1).2).2) by rw [Hw.out, Hgo.out]; simp)
          generalize (rPt s1).2 = s3 at *
          generalize (rPt s1).1 = x at *
          have hdl3 : (done ++ [x]).length = i + 1 := by rw [List.length_append, Hdl.out]; rfl
          have Hdl3 := Lib.hid hdl3
          clear hdl3
          go_wp2_with fail
          go_roundg (N - (i + 1))
          case measure => rw [Hk.out]; exact HL3.out
          case rel => exact ⟨i + 1, done ++ [x], s3, A3, c3, ov3, _, _, by go_num, by omega, rfl, Hdl3.out, by omega, HW3.out, HC3.out, HO3.out, HF3.out, HB3.out, HOwn3.out, HG3.out⟩
    · have hie : i = N := by omega
      have HR := Lib.hid (HEnd.out (by rw [hie, Nat.sub_self]; rfl))
      have hlt' : ¬ (i : Int) < N := by omega
      clear hie HEnd
      go_wp2_with fail
      refine bodyPost_end (results_none rfl _ _ _) rfl ?_
      exact ⟨rfl, HR.out⟩

theorem ptsR_any (B gc : Nat) (A : Option Addr) (c : Nat) (ov : Value) (s : CS) (gx o : Nat) (t : TypeId) (cs : Array Value) (w : World) (h : Coder w B gc true A c ov s) (hl : s.out.length ≤ 900000000) (hx : Blk w gx t cs) (hne : gx ≠ gc) (hov : ov.ownBlock ≠ some gx) (hB : B ≤ gx) (ho : cs[o]? = some (.slice none 0 0)) (hti : t ≠ 0) :
    Calls Try.prog 37 #[.pointer (some ⟨gc, 0, none⟩), .pointer (some ⟨gx, o, none⟩)] w (fun e w' => e = .returned (.tuple #[]) ∧ Got 85 2 GPts B gc ov gx t cs o w w' (rPts s)) := by
  have HL := Lib.hid (ptsRL B gc A c ov s gx o t cs w h hl hx hne hov hB ho hti)
  clear h hx ho
  go_enter Try.func37, Try.ntmps37
  go_wp2_with fail
  refine HL.out.mono ?_
  rintro e w1 ⟨rfl, hr⟩
  have Hr := Lib.hid hr
  clear hr
  go_wp2_with fail
  refine bodyPost_end (results_none rfl _ _ _) rfl ?_
  exact ⟨rfl, Hr.out⟩
end Go.Proofs.Ytmlbjcngboegfaa
