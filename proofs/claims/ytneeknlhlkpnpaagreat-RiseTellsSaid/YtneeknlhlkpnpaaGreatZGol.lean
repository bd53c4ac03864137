import Derived.Test.YtneeknlhlkpnpaaGreatZReach
import Derived.Deep.RegionHeld3
import Derived.Test.YtneeknlhlkpnpaaGreatZReg
namespace Go.Proofs.YtneeknlhlkpnpaaGreat
open Go.RowKit
def QuietB (p : Bool) (w : World) (e : Ending) (w' : World) : Prop := e = .returned (.bool p) ∧ ∃ m, w' = w.drewN m
theorem take_step {a b : List Int} {i : Nat} (ha : i < a.length) (hb : i < b.length) (h : a.take i = b.take i) : a.take (i + 1) = b.take (i + 1) ↔ a[i] = b[i] := by
 have e1 := List.take_succ_eq_append_getElem ha
 have e2 := List.take_succ_eq_append_getElem hb
 rw [e1, e2, h, List.append_cancel_left_eq, List.cons.injEq]
 exact ⟨fun h => h.1, fun h => ⟨h, rfl⟩⟩
set_option maxHeartbeats 400000 in
theorem same_any (A B : Option Addr) (c d : Nat) (a b : List Int) (w : World) (N : Nat) (ha : Cells w N A (intCells a)) (hb : Cells w N B (intCells b)) (hla : a.length ≤ 100000) (hlb : b.length ≤ 100000) :
  Calls Tryz.prog 34 #[.slice A a.length c, .slice B b.length d] w (QuietB (decide (a = b)) w) := by
 by_cases hl : a.length = b.length
 ·have H1 : ((a.length : Int) != (b.length : Int)) = false := by rw [int_bne]; simp [hl]
  have HL := Lib.hid hl
  have hl1 : a.length ≤ b.length := by omega
  clear hl
  go_enter Tryz.func34, Tryz.ntmps34
  go_wp2
  go_loopg [5] a.length (fun k s5 wr => ∃ i m : Nat, s5 = .int .i64 i ∧ i ≤ a.length ∧ k = a.length - i ∧ wr = w.drewN m ∧ a.take i = b.take i)
  case atStart => exact ⟨0, 0, rfl, Nat.zero_le _, rfl, rfl, by simp⟩
  case round =>
   obtain ⟨i, m, rfl, hi, hk, rfl, ht⟩ := hrel
   have Hk := Lib.hid hk; clear hk
   have Ht := Lib.hid ht; clear ht
   by_cases hlt : i < a.length
   ·obtain ⟨b1, o1, rfl, _, hc1⟩ := ha.ints (by omega)
    obtain ⟨b2, o2, rfl, _, hc2⟩ := hb.ints (by omega)
    have c1 := hc1 i hlt
    have c2 := hc2 i (by omega)
    have h2 : (i : Int) < b.length := by omega
    have h1 : (i : Int) < a.length := by omega
    clear hc1 hc2 ha hb
    have T1 := Lib.hid (take_step hlt (show i < b.length by omega) Ht.out)
    have T2 := Lib.hid (show a = b → a[i] = b[i]'(by omega) by intro h; subst h; rfl)
    generalize a[i] = x at *
    generalize b[i]'(by omega) = y at *
    go_wp2_with fail
    by_cases hxy : x = y
    ·have hd : (x != y) = false := by simp [hxy]
     have Hxy := Lib.hid hxy
     clear hxy
     go_quiet (fail)
     go_wp2_with fail
     go_roundg (a.length - (i + 1))
     case measure => rw [Hk.out]; omega
     case rel => exact ⟨i + 1, _, by go_num, by omega, rfl, rfl, T1.out.2 Hxy.out⟩
    ·have hd : (x != y) = true := by simp [hxy]
     have Hxy := Lib.hid hxy
     clear hxy
     go_quiet (fail)
     go_wp2_with fail
     go_ret
     exact ⟨ret_bool (by rw [eq_comm, decide_eq_false_iff_not]; exact fun h => Hxy.out (T2.out h)), _, World.drewN_drewN _ _ _⟩
   ·go_wp2_with fail
    go_ret
    refine ⟨ret_bool ?_, _, rfl⟩
    have e := Ht.out
    rw [List.take_of_length_le (by omega), List.take_of_length_le (by have := HL.out; omega)] at e
    simp [e]
 ·have H1 : ((a.length : Int) != (b.length : Int)) = true := by rw [int_bne]; simp [hl]
  have HL := Lib.hid hl; clear hl
  go_enter Tryz.func34, Tryz.ntmps34
  go_wp2
  go_ret
  exact ⟨ret_bool (by rw [eq_comm, decide_eq_false_iff_not]; intro h; exact HL.out (by rw [h])), 0, rfl⟩
theorem elemBool : Elem Tryz.prog 113 4 (.bool false) 1 1 := Elem.mk' Tryz.underlying113 (by kernel_rfl) rfl (by omega)
end Go.Proofs.YtneeknlhlkpnpaaGreat
/-
 Plain laws of reaching: ways along edges that count; what 'grow' leaves is what can be reached. Written by an AI agent.
-/
namespace Go.Proofs.YtneeknlhlkpnpaaGreat
open Go.RowKit
inductive Star (E : Nat → Nat → Prop) : Nat → Nat → Prop where
 | refl (x : Nat) : Star E x x
 | head {x y z : Nat} (h : E x y) (r : Star E y z) : Star E x z
theorem Star.trans {E : Nat → Nat → Prop} {x y z : Nat} (h : Star E x y) (k : Star E y z) : Star E x z := by
 induction h with
 | refl => exact k
 | head e _ ih => exact .head e (ih k)
theorem Star.one {E : Nat → Nat → Prop} {x y : Nat} (h : E x y) : Star E x y := .head h (.refl _)
theorem Star.mono {E F : Nat → Nat → Prop} (hEF : ∀ x y, E x y → F x y) {x y : Nat} (h : Star E x y) : Star F x y := by
 induction h with
 | refl => exact .refl _
 | head e _ ih => exact .head (hEF _ _ e) ih
theorem Star.sym {E : Nat → Nat → Prop} (hs : ∀ x y, E x y → E y x) {x y : Nat} (h : Star E x y) : Star E y x := by
 induction h with
 | refl => exact .refl _
 | head e _ ih => exact ih.trans (.one (hs _ _ e))
def Edge1 (both : Bool) (cnt : Nat → Bool) (es : List (Int × Int)) (x y : Nat) : Prop :=
 ∃ i, ∃ h : i < es.length, cnt i = true ∧ (es[i] = ((x : Int), (y : Int)) ∨ both = true ∧ es[i] = ((y : Int), (x : Int)))
def InN (n : Nat) (es : List (Int × Int)) : Prop := ∀ e ∈ es, 0 ≤ e.1 ∧ e.1 < n ∧ 0 ≤ e.2 ∧ e.2 < n
theorem InN.at_ {n : Nat} {es : List (Int × Int)} (h : InN n es) {i : Nat} (hi : i < es.length) : ∃ t u : Nat, es[i] = ((t : Int), (u : Int)) ∧ t < n ∧ u < n := by
 obtain ⟨a, b, c, d⟩ := h es[i] (List.getElem_mem hi)
 refine ⟨es[i].1.toNat, es[i].2.toNat, ?_, by omega, by omega⟩
 apply Prod.ext <;> simp <;> omega
theorem Edge1.lt {both : Bool} {cnt : Nat → Bool} {n : Nat} {es : List (Int × Int)} (hin : InN n es) {x y : Nat} (h : Edge1 both cnt es x y) : x < n ∧ y < n := by
 obtain ⟨i, hi, _, h⟩ := h
 obtain ⟨t, u, e, ht, hu⟩ := hin.at_ hi
 rw [e] at h
 rcases h with h | ⟨_, h⟩ <;> simp only [Prod.mk.injEq] at h <;> omega
theorem eachL_bit (n x y : Nat) (hx : x < n) : ((eachL n).getD x 0).testBit y = decide (x = y) := by
 have e : (eachL n).getD x 0 = 2 ^ x := by simp [eachL, hx, Nat.shiftLeft_eq]
 rw [e, Nat.testBit_two_pow]
theorem getD_set_eq (U : List Nat) (t x y : Nat) (h : t < U.length) : (U.set t x).getD y 0 = if t = y then x else U.getD y 0 := by
 simp only [List.getD_eq_getElem?_getD, List.getElem?_set]
 split
 ·subst_vars; simp
 ·rfl
theorem grown_iff {both : Bool} {cnt : Nat → Bool} {n : Nat} {es : List (Int × Int)} {T : List Nat} (hin : InN n es) (h : Grown1 both cnt n es T) :
  T.length = n ∧ ∀ x, x < n → ∀ y, (T.getD x 0).testBit y = true ↔ Star (Edge1 both cnt es) x y := by
 obtain ⟨hok, hto, hfix⟩ := h
 have hl : T.length = n := by rw [hok.len, eachL_length]
 refine ⟨hl, ?_⟩
 have sound : T.length = n ∧ ∀ x, x < n → ((T.getD x 0).testBit x = true ∧ ∀ y, (T.getD x 0).testBit y = true → Star (Edge1 both cnt es) x y) := by
  refine hto (fun T => T.length = n ∧ ∀ x, x < n → ((T.getD x 0).testBit x = true ∧ ∀ y, (T.getD x 0).testBit y = true → Star (Edge1 both cnt es) x y)) ⟨eachL_length n, fun x hx => ?_⟩ ?_
  ·rw [eachL_bit n x x hx]
   refine ⟨by simp, fun y hy => ?_⟩
   rw [eachL_bit n x y hx] at hy
   have : x = y := by simpa using hy
   subst this; exact .refl _
  ·intro U i hi ⟨hUl, hU⟩
   cases hc : cnt i with
   | false => rw [growStep_skip hc]; exact ⟨hUl, hU⟩
   | true =>
    obtain ⟨t, u, e, ht, hu⟩ := hin.at_ hi
    rw [growStep_is hi hc (t := t) (h := u) (by rw [e]) (by rw [e])]
    refine ⟨by simp [hUl], fun x hx => ?_⟩
    have e1 : Edge1 both cnt es t u := ⟨i, hi, hc, .inl e⟩
    have ht' := hU t ht
    have hu' := hU u hu
    have hx' := hU x hx
    rw [getD_set_eq _ _ _ _ (by simp [hUl, hu]), getD_set_eq _ _ _ _ (by rw [hUl]; exact ht)]
    have tu : ∀ y, (U.getD t 0 ||| U.getD u 0).testBit y = true → Star (Edge1 both cnt es) t y := by
     intro y hy
     rw [Nat.testBit_or, Bool.or_eq_true] at hy
     exact hy.elim (ht'.2 y) (fun h => .head e1 (hu'.2 y h))
    by_cases hxu : u = x
    ·subst hxu
     rw [if_pos rfl]
     cases both with
     | false => exact hu'
     | true =>
      simp only [if_true]
      refine ⟨by rw [Nat.testBit_or, hu'.1]; simp, fun y hy => ?_⟩
      exact .head ⟨i, hi, hc, .inr ⟨rfl, e⟩⟩ (tu y hy)
    ·rw [if_neg hxu]
     by_cases hxt : t = x
     ·subst hxt
      rw [if_pos rfl]
      exact ⟨by rw [Nat.testBit_or, ht'.1]; simp, tu⟩
     ·rw [if_neg hxt]; exact hx'
 have sub : ∀ x y, Edge1 both cnt es x y → ∀ z, (T.getD y 0).testBit z = true → (T.getD x 0).testBit z = true := by
  intro x y ⟨i, hi, hc, hxy⟩ z hz
  have hf := hfix i hi
  obtain ⟨t, u, e, ht, hu⟩ := hin.at_ hi
  rw [growStep_is hi hc (t := t) (h := u) (by rw [e]) (by rw [e])] at hf
  have at_ : ∀ k, (if u = k then (if both then T.getD t 0 ||| T.getD u 0 else T.getD u 0) else if t = k then T.getD t 0 ||| T.getD u 0 else T.getD k 0) = T.getD k 0 := by
   intro k
   rw [← getD_set_eq _ _ _ _ (by rw [hl]; exact ht), ← getD_set_eq _ _ _ _ (by simp [hl, hu]), hf]
  have hT : t ≠ u → T.getD t 0 ||| T.getD u 0 = T.getD t 0 := by
   intro hne
   have := at_ t
   rw [if_neg (fun h => hne h.symm), if_pos rfl] at this
   exact this
  have hTall : (T.getD u 0).testBit z = true → (T.getD t 0).testBit z = true := by
   intro h
   by_cases hne : t = u
   ·subst hne; exact h
   ·rw [← hT hne, Nat.testBit_or, h]; simp
  rw [e] at hxy
  rcases hxy with h | ⟨hb, h⟩
  ·simp only [Prod.mk.injEq] at h
   obtain rfl : t = x := by omega
   obtain rfl : u = y := by omega
   exact hTall hz
  ·simp only [Prod.mk.injEq] at h
   obtain rfl : t = y := by omega
   obtain rfl : u = x := by omega
   have := at_ u
   rw [if_pos rfl, if_pos hb] at this
   rw [← this, Nat.testBit_or, hz]; simp
 intro x hx y
 refine ⟨(sound.2 x hx).2 y, fun h => ?_⟩
 clear hto hfix
 induction h with
 | refl x => exact (sound.2 x hx).1
 | head e _ ih => exact sub _ _ e _ (ih (e.lt hin).2)
end Go.Proofs.YtneeknlhlkpnpaaGreat
namespace Go.Proofs.YtneeknlhlkpnpaaGreat
open Go.RowKit
end Go.Proofs.YtneeknlhlkpnpaaGreat
namespace Go.Proofs.YtneeknlhlkpnpaaGreat
open Go.RowKit
theorem below_undrew {B : Nat} {w w' : World} (h : Below B w.drew w') : Below B w w' := ⟨h.os, h.tape, h.output, h.size, h.block⟩
end Go.Proofs.YtneeknlhlkpnpaaGreat
namespace Go.Proofs.YtneeknlhlkpnpaaGreat
open Go.RowKit
end Go.Proofs.YtneeknlhlkpnpaaGreat
namespace Go.Proofs.YtneeknlhlkpnpaaGreat
open Go.RowKit
section
variable {both : Bool} {cnts : List Bool} {n : Nat} {es : List (Int × Int)}
end
end Go.Proofs.YtneeknlhlkpnpaaGreat
namespace Go.Proofs.YtneeknlhlkpnpaaGreat
open Go.RowKit
def withoutB (wo : Nat) (es : List (Int × Int)) (i : Nat) : Bool := !setHas wo (es.getD i (0, 0)).1 && !setHas wo (es.getD i (0, 0)).2
theorem callFunc_without (u : World) (args : Array Value) : (callFunc 140 args).run Tryz.prog u = .ok (.enter 140 args) u := by go_simp
def QuietBool (p : Bool) (w : World) (e : Ending) (w' : World) : Prop := e = .returned (.bool p) ∧ ∃ m, w' = w.drewN m
theorem has_is {s : Nat} {x : Int} {p : Bool} (w : World) (h : setHas s x = p) (hs : s < 18446744073709551616) :
  Calls Tryz.prog 141 #[.int .u64 s, .int .i64 x] w fun e w' => e = .returned (.bool p) ∧ w = w' := by
 subst h; exact has_any s x w hs
set_option maxHeartbeats 400000 in
theorem without_any (i : Nat) (b c : Nat) (wo : Nat) (hwo : wo < 18446744073709551616) (A : Option Addr) (cap : Nat) (es : List (Int × Int)) (w : World) (B : Nat) (hes : Cells w B A (edgeCells es)) (hi : i < es.length) (hlen : es.length ≤ 1000)
  (hb : w.cell? ⟨b, 0, none⟩ = some (.int .u64 wo)) (hc : w.cell? ⟨c, 1, none⟩ = some (.slice A es.length cap)) :
  Calls Tryz.prog 140 #[.int .i64 i, .pointer (some ⟨b, 0, none⟩), .pointer (some ⟨c, 0, none⟩)] w (QuietBool (withoutB wo es i) w) := by
 obtain ⟨bb, off, rfl, hbb, hcc⟩ := hes.edges (by omega)
 obtain ⟨c0, c1⟩ := hcc i hi
 clear hcc hes
 have hid : ((i : Nat) : Int) < es.length := by omega
 have e0 : es.getD i (0, 0) = es[i] := by simp [hi]
 have W : withoutB wo es i = (!setHas wo es[i].1 && !setHas wo es[i].2) := by unfold withoutB; rw [e0]
 have HW := Lib.hid W; clear W e0
 generalize es[i].1 = x at *
 generalize es[i].2 = y at *
 cases hx : setHas wo x with
 | true =>
  rw [hx] at HW
  have Hx := Lib.hid hx; clear hx
  go_enter Tryz.func140, Tryz.ntmps140
  go_wp2_with fail
  go_quiet ((go_at_call_of 141 (Value.int .i64 x); exact quiet_left (has_is _ Hx.out hwo)))
  go_wp2_with fail
  go_ret
  exact ⟨by rw [HW.out]; rfl, _, rfl⟩
 | false =>
  rw [hx] at HW
  have Hx := Lib.hid hx; clear hx
  go_enter Tryz.func140, Tryz.ntmps140
  go_wp2_with fail
  go_quiet ((first | (go_at_call_of 141 (Value.int .i64 x); exact quiet_left (has_is _ Hx.out hwo)) | (go_at_call_of 141 (Value.int .i64 y); exact quiet_left (has_any wo y _ hwo))))
  go_wp2_with fail
  go_ret
  exact ⟨by rw [HW.out]; rfl, _, rfl⟩
def partsStep (T : List Nat) (st : List Nat × Nat) (x : Nat) : List Nat × Nat := if setHas st.2 x then st else (st.1 ++ [T.getD x 0], st.2 ||| T.getD x 0)
def partsUpto (T : List Nat) (wo k : Nat) : List Nat × Nat := (List.range k).foldl (partsStep T) ([], wo)
theorem partsUpto_succ (T : List Nat) (wo k : Nat) : partsUpto T wo (k + 1) = partsStep T (partsUpto T wo k) k := by
 unfold partsUpto; rw [List.range_succ, List.foldl_append]; rfl
theorem partsUpto_succ' (T : List Nat) (wo k : Nat) : partsUpto T wo (k + 1) =
  if setHas (partsUpto T wo k).2 k then ((partsUpto T wo k).1, (partsUpto T wo k).2) else ((partsUpto T wo k).1 ++ [T.getD k 0], (partsUpto T wo k).2 ||| T.getD k 0) := by
 rw [partsUpto_succ]; rfl
theorem partsUpto_ok {S T : List Nat} (h : GrowOk S T) {wo : Nat} (hwo : wo < 18446744073709551616) (k : Nat) : (partsUpto T wo k).2 < 18446744073709551616 ∧ (partsUpto T wo k).1.length ≤ k := by
 induction k with
 | zero => exact ⟨hwo, Nat.le_refl _⟩
 | succ k ih =>
  rw [partsUpto_succ]
  unfold partsStep
  split
  ·exact ⟨ih.1, by omega⟩
  ·exact ⟨or_lt ih.1 (h.at_ k), by simp; omega⟩
def PartsPost (n : Int) (es : List (Int × Int)) (wo : Nat) (w : World) (e : Ending) (w' : World) : Prop :=
 ∃ v, e = .returned v ∧ Below w.heap.size w w' ∧ (mayB n es = true → ∃ T, Grown1 true (withoutB wo es) n.toNat es T ∧
  w'.ownsRow w.heap.size 157 1 v (partsUpto T wo n.toNat).1.length (setCells (partsUpto T wo n.toNat).1)) ∧ (mayB n es = false → v = .slice none 0 0)
set_option maxHeartbeats 400000 in
theorem parts_no (n : Int) (A : Option Addr) (cap : Nat) (es : List (Int × Int)) (wo : Nat) (w : World) (hes : Cells w w.heap.size A (edgeCells es)) (hm : mayB n es = false) :
  Calls Tryz.prog 106 #[.agg #[.int .i64 n, .slice A es.length cap], .int .u64 wo] w (PartsPost n es wo w) := by
 have Hm := Lib.hid hm; clear hm
 go_enter Tryz.func106, Tryz.ntmps106
 go_wp2_with fail
 refine (each_any n A cap es _ (((hes.alloc (Nat.le_refl _) _).alloc (by simp) _).more (by simp; omega))).mono ?_
 rintro e w' ⟨v, rfl, hb, _, hv⟩
 rw [hv Hm.out]
 clear hv
 go_wp2_with fail
 go_ret
 exact ⟨_, rfl, (((Below.refl _ _).alloc (Nat.le_refl _) _).alloc (by simp) _).trans (hb.mono (by simp; omega)), no_may Hm.out, fun _ => rfl⟩
set_option maxHeartbeats 1000000 in
theorem parts_yes (n : Nat) (A : Option Addr) (cap : Nat) (es : List (Int × Int)) (wo : Nat) (hwo : wo < 18446744073709551616) (w : World) (hes : Cells w w.heap.size A (edgeCells es)) (hm : mayB n es = true) :
  Calls Tryz.prog 106 #[.agg #[.int .i64 n, .slice A es.length cap], .int .u64 wo] w (PartsPost n es wo w) := by
 obtain ⟨hn0, hn1, hn2⟩ := may_parts hm
 have Hin := Lib.hid (badE_in hm)
 have Hm := Lib.hid hm; clear hm
 go_enter Tryz.func106, Tryz.ntmps106
 go_wp2_with fail
 have b0 : ((w.alloc (.cells #[.int .i64 n, .slice A es.length cap] 24)).alloc (.cells #[.int .u64 wo] 157)).cell? ⟨w.heap.size, 0, none⟩ = some (.int .i64 n) := by simp [go_sem]
 have b1 : ((w.alloc (.cells #[.int .i64 n, .slice A es.length cap] 24)).alloc (.cells #[.int .u64 wo] 157)).cell? ⟨w.heap.size, 1, none⟩ = some (.slice A es.length cap) := by simp [go_sem]
 have b2 : ((w.alloc (.cells #[.int .i64 n, .slice A es.length cap] 24)).alloc (.cells #[.int .u64 wo] 157)).cell? ⟨w.heap.size + 1, 0, none⟩ = some (.int .u64 wo) := by simp [go_sem]
 have hbw := ((Below.refl w.heap.size w).alloc (Nat.le_refl _) (.cells #[.int .i64 n, .slice A es.length cap] 24)).alloc (by simp) (.cells #[.int .u64 wo] 157)
 have s1 : ((w.alloc (.cells #[.int .i64 n, .slice A es.length cap] 24)).alloc (.cells #[.int .u64 wo] 157)).heap.size = w.heap.size + 2 := by simp
 generalize (w.alloc (.cells #[.int .i64 n, .slice A es.length cap] 24)).alloc (.cells #[.int .u64 wo] 157) = w1 at *
 have hes1 := hes.below hbw
 have l1 : w.heap.size + 1 < w1.heap.size := by omega
 have S1 := Lib.hid s1; clear s1
 refine (each_any n A cap es w1 (hes1.more (by omega))).mono ?_
 rintro e w2 ⟨v, rfl, hb, hv, _⟩
 obtain ⟨g, cap2, R, rfl, hg, hblk, hR, hc1, hc2, hc3⟩ := own_blk (hv Hm.out) (by omega)
 clear hv
 have b0' := (hb.cell (p := ⟨w.heap.size, 0, none⟩) (by simp; omega)).trans b0
 have b1' := (hb.cell (p := ⟨w.heap.size, 1, none⟩) (by simp; omega)).trans b1
 have b2' := (hb.cell (p := ⟨w.heap.size + 1, 0, none⟩) l1).trans b2
 have hes2 := hes1.keep (w' := w2) (fun p hp => hb.cell (by omega))
 have hs2 := hb.size
 clear hR hc1 hc2 hc3 b0 b1 b2
 go_wp2_with fail
 refine (grow_any n A cap cap2 es true (withoutB wo es) _ _ g n (eachL n) R _ w.heap.size hes2 (by omega) (by omega) hblk Hin.out (eachL_lt n (by omega)) (eachL_length n) callFunc_without ?_).mono ?_
 ·intro k w' h0 h1 hg2
  obtain ⟨k, rfl⟩ := Int.eq_ofNat_of_zero_le h0
  rw [show ((k : Nat) : Int).toNat = k from rfl]
  exact without_any k (w.heap.size + 1) w.heap.size wo hwo A cap es w' w.heap.size (hes2.keep (fun p hp => hg2.cell_far p (by omega) (by simp; omega))) (by omega) (by omega) ((hg2.cell_far _ (by simp; omega) (by simp; omega)).trans b2') ((hg2.cell_far _ (by simp; omega) (by simp; omega)).trans b1')
 rintro e w3 ⟨rfl, hgr, T, hT, hok, hto, hfix⟩
 have hTl : T.length = n := by rw [hok.len, eachL_length]
 have b2'' := (hgr.cell_far ⟨w.heap.size + 1, 0, none⟩ (by simp; omega) (by simp; omega)).trans b2'
 have HP := Lib.hid (show Grown1 true (withoutB wo es) n es T from ⟨hok, hto, hfix⟩)
 have hb3 := hbw.trans ((hb.mono (by omega)).grown hgr (by omega) (fun k hk => by injection hk; omega))
 have hs3 := hgr.size
 clear hto hfix hgr hes2 hes1 b0' b1' b2'
 go_wp2_with fail
 go_loopg [4, 6, 21] n (fun k s4 s6 s21 wr => ∃ i : Nat, s21 = .int .i64 i ∧ i ≤ n ∧ k = n - i ∧ Below w3.heap.size w3 wr ∧ s6 = .int .u64 ((partsUpto T wo i).2 : Nat) ∧ wr.ownsRow w3.heap.size 157 1 s4 (partsUpto T wo i).1.length (setCells (partsUpto T wo i).1))
 case atStart => exact ⟨0, rfl, Nat.zero_le _, rfl, Below.refl _ _, rfl, World.ownsRow_nil _ _ _ _⟩
 case round =>
  obtain ⟨i, rfl, hi, hk, hb4, rfl, hown⟩ := hrel
  have Hk := Lib.hid hk; clear hk
  obtain ⟨d1, d2⟩ := partsUpto_ok hok hwo i
  have PS := Lib.hid (partsUpto_succ' T wo i)
  have hbs := hb4.size
  by_cases hlt : i < n
  ·have ut := (hb4.cell (p := ⟨g, i, none⟩) hT.lt).trans ((hT.cell i).trans (u64s_at T R i (by omega)))
   have uu := hok.at_ i
   generalize (partsUpto T wo i).2 = d at *
   generalize (partsUpto T wo i).1 = l at *
   generalize T.getD i 0 = a at *
   have eo := u64_or_nat d a d1 uu
   go_wp2_with fail
   cases hB : setHas d i with
   | true =>
    rw [hB] at PS
    refine (has_is _ hB d1).mono ?_
    rintro e w' ⟨rfl, rfl⟩
    clear hB
    go_wp2_with fail
    go_roundg (n - (i + 1))
    case measure => rw [Hk.out]; omega
    case rel => exact ⟨i + 1, by go_num, by omega, rfl, hb4, by rw [PS.out]; rfl, by rw [PS.out]; exact hown⟩
   | false =>
    rw [hB] at PS
    refine (has_is _ hB d1).mono ?_
    rintro e w' ⟨rfl, rfl⟩
    clear hB
    go_wp2_with (at_builtin; refine wp_app elemSet rfl _ _ rfl w3.heap.size u4 _ _ rfl wr.heap.size [.int .u64 (a : Int)] rfl rfl hown rfl rfl ?h2 ?h3 ?h4 ?_)
    case h2 => omega
    case h3 => omega
    case h4 => omega
    intro v' w' hown' hg' _
    have hb' := below_app hb4 hown hg' (by omega) (Nat.le_refl _)
    clear hown hg' hb4
    go_wp2_with fail
    go_roundg (n - (i + 1))
    case measure => rw [Hk.out]; omega
    case rel => exact ⟨i + 1, by go_num, by omega, rfl, hb', by rw [PS.out]; rfl, by rw [PS.out]; simpa [setCells] using hown'⟩
  ·have hie : i = n := by omega
   subst hie
   go_wp2_with fail
   go_ret
   exact ⟨_, rfl, hb3.trans (hb4.mono (by omega)), fun _ => ⟨T, HP.out, own_mono hown (by omega)⟩, no_may' Hm.out⟩
theorem parts_any (n : Int) (A : Option Addr) (cap : Nat) (es : List (Int × Int)) (wo : Nat) (hwo : wo < 18446744073709551616) (w : World) (hes : Cells w w.heap.size A (edgeCells es)) :
  Calls Tryz.prog 106 #[.agg #[.int .i64 n, .slice A es.length cap], .int .u64 wo] w (PartsPost n es wo w) := by
 cases hm : mayB n es with
 | false => exact parts_no n A cap es wo w hes hm
 | true =>
  obtain ⟨n, rfl⟩ := Int.eq_ofNat_of_zero_le (Int.le_of_lt (may_parts hm).1)
  exact parts_yes n A cap es wo hwo w hes hm
end Go.Proofs.YtneeknlhlkpnpaaGreat
namespace Go.Proofs.YtneeknlhlkpnpaaGreat
open Go.RowKit
theorem Edge1.congr {both : Bool} {c d : Nat → Bool} {es : List (Int × Int)} (h : ∀ i, i < es.length → c i = d i) {x y : Nat} : Edge1 both c es x y → Edge1 both d es x y :=
 fun ⟨i, hi, hc, r⟩ => ⟨i, hi, by rw [← h i hi]; exact hc, r⟩
theorem Star.congr {both : Bool} {c d : Nat → Bool} {es : List (Int × Int)} (h : ∀ i, i < es.length → c i = d i) {x y : Nat} : Star (Edge1 both c es) x y ↔ Star (Edge1 both d es) x y :=
 ⟨fun s => s.mono fun _ _ e => e.congr h, fun s => s.mono fun _ _ e => e.congr fun i hi => (h i hi).symm⟩
theorem setHas_bit {s x n : Nat} (hx : x < n) (hn : n ≤ 64) : setHas s x = s.testBit x := by
 unfold setHas
 rw [decide_eq_true (by omega), decide_eq_true (by omega)]
 simp
end Go.Proofs.YtneeknlhlkpnpaaGreat
namespace Go.Proofs.YtneeknlhlkpnpaaGreat
open Go.RowKit
section
variable {n : Nat} {es : List (Int × Int)} {wo : Nat} {woL : List Bool}
def Kin (wo : Nat) (es : List (Int × Int)) : Nat → Nat → Prop := Star (Edge1 true (withoutB wo es) es)
theorem Edge1.symm {cnt : Nat → Bool} {x y : Nat} (h : Edge1 true cnt es x y) : Edge1 true cnt es y x := by
 obtain ⟨i, hi, hc, h⟩ := h
 exact ⟨i, hi, hc, h.elim (fun e => .inr ⟨rfl, e⟩) (fun e => .inl e.2)⟩
theorem done_iff {T : List Nat} (hin : InN n es) (hn : n ≤ 64) (hT : Grown1 true (withoutB wo es) n es T) (x : Nat) (hx : x ≤ n) (y : Nat) (hy : y < n) :
  setHas (partsUpto T wo x).2 y = true ↔ wo.testBit y = true ∨ ∃ z, z < x ∧ wo.testBit z = false ∧ Kin wo es z y := by
 obtain ⟨_, h1⟩ := grown_iff hin hT
 induction x with
 | zero =>
  rw [setHas_bit hy hn]
  exact ⟨.inl, fun h => h.resolve_right fun ⟨z, hz, _⟩ => by omega⟩
 | succ x ih =>
  have ih := ih (by omega)
  have ihx : setHas (partsUpto T wo x).2 x = true ↔ wo.testBit x = true ∨ ∃ z, z < x ∧ wo.testBit z = false ∧ Kin wo es z x := by
   clear ih
   have key : ∀ k, k ≤ x → ∀ y, y < n → (setHas (partsUpto T wo k).2 y = true ↔ wo.testBit y = true ∨ ∃ z, z < k ∧ wo.testBit z = false ∧ Kin wo es z y) := by
    intro k
    induction k with
    | zero =>
     intro _ y hy
     rw [setHas_bit hy hn]
     exact ⟨.inl, fun h => h.resolve_right fun ⟨z, hz, _⟩ => by omega⟩
    | succ k ihk =>
     intro hk y hy
     have a1 := ihk (by omega) y hy
     have a2 := ihk (by omega) k (by omega)
     rw [partsUpto_succ']
     by_cases hd : setHas (partsUpto T wo k).2 k = true
     ·rw [if_pos hd]
      refine a1.trans ⟨fun h => h.imp id fun ⟨z, hz, r⟩ => ⟨z, by omega, r⟩, fun h => ?_⟩
      rcases h with h | ⟨z, hz, hw, hk2⟩
      ·exact .inl h
      ·by_cases hzk : z = k
       ·subst hzk
        rcases a2.1 hd with h3 | ⟨z', hz', hw', hk'⟩
        ·rw [hw] at h3; cases h3
        ·exact .inr ⟨z', hz', hw', hk'.trans hk2⟩
       ·exact .inr ⟨z, by omega, hw, hk2⟩
     ·rw [if_neg hd]
      have hb : setHas ((partsUpto T wo k).2 ||| T.getD k 0) y = (setHas (partsUpto T wo k).2 y || (T.getD k 0).testBit y) := by
       rw [setHas_bit hy hn, setHas_bit hy hn, Nat.testBit_or]
      simp only [hb, Bool.or_eq_true, h1 k (by omega)]
      constructor
      ·rintro (h | h)
       ·exact (a1.1 h).imp id fun ⟨z, hz, r⟩ => ⟨z, by omega, r⟩
       ·refine .inr ⟨k, by omega, ?_, h⟩
        cases hwk : wo.testBit k with
        | false => rfl
        | true => exact absurd (a2.2 (.inl hwk)) hd
      ·rintro (h | ⟨z, hz, hw, hk2⟩)
       ·exact .inl (a1.2 (.inl h))
       ·by_cases hzk : z = k
        ·subst hzk; exact .inr hk2
        ·exact .inl (a1.2 (.inr ⟨z, by omega, hw, hk2⟩))
   exact key x (Nat.le_refl _) x (by omega)
  rw [partsUpto_succ']
  by_cases hd : setHas (partsUpto T wo x).2 x = true
  ·rw [if_pos hd]
   refine ih.trans ⟨fun h => h.imp id fun ⟨z, hz, r⟩ => ⟨z, by omega, r⟩, fun h => ?_⟩
   rcases h with h | ⟨z, hz, hw, hk2⟩
   ·exact .inl h
   ·by_cases hzk : z = x
    ·subst hzk
     rcases ihx.1 hd with h3 | ⟨z', hz', hw', hk'⟩
     ·rw [hw] at h3; cases h3
     ·exact .inr ⟨z', hz', hw', hk'.trans hk2⟩
    ·exact .inr ⟨z, by omega, hw, hk2⟩
  ·rw [if_neg hd]
   have hb : setHas ((partsUpto T wo x).2 ||| T.getD x 0) y = (setHas (partsUpto T wo x).2 y || (T.getD x 0).testBit y) := by
    rw [setHas_bit hy hn, setHas_bit hy hn, Nat.testBit_or]
   simp only [hb, Bool.or_eq_true, h1 x (by omega)]
   constructor
   ·rintro (h | h)
    ·exact (ih.1 h).imp id fun ⟨z, hz, r⟩ => ⟨z, by omega, r⟩
    ·refine .inr ⟨x, by omega, ?_, h⟩
     cases hwk : wo.testBit x with
     | false => rfl
     | true => exact absurd (ihx.2 (.inl hwk)) hd
   ·rintro (h | ⟨z, hz, hw, hk2⟩)
    ·exact .inl (ih.2 (.inl h))
    ·by_cases hzk : z = x
     ·subst hzk; exact .inr hk2
     ·exact .inl (ih.2 (.inr ⟨z, by omega, hw, hk2⟩))
end
end Go.Proofs.YtneeknlhlkpnpaaGreat
