import Derived.Test.YtneeknlhlkpnpaaGreatZMem
import Derived.RegionTactic
import Derived.ChangeAlike
import Derived.BigRegion
import Derived.Deep.DeepCutAuto
namespace Go.Proofs.YtneeknlhlkpnpaaGreat
open Go.RowKit
def growStep (both : Bool) (cnt : Nat → Bool) (es : List (Int × Int)) (S : List Nat) (i : Nat) : List Nat :=
 if cnt i then
  let e := es.getD i (0, 0)
  let t := S.getD e.1.toNat 0 ||| S.getD e.2.toNat 0
  let h := if both then t else S.getD e.2.toNat 0
  (S.set e.1.toNat t).set e.2.toNat h
 else S
def u64s (S : List Nat) : Array Value := (S.map fun s : Nat => Value.int .u64 (s : Int)).toArray
def GM (S : List Nat) : Nat := (S.map (18446744073709551616 - ·)).sum
def GrowTo (both : Bool) (cnt : Nat → Bool) (es : List (Int × Int)) (S T : List Nat) : Prop :=
 ∀ P : List Nat → Prop, P S → (∀ U i, i < es.length → P U → P (growStep both cnt es U i)) → P T
theorem u64s_at (S : List Nat) (R : Array Value) (t : Nat) (h : t < S.length) : (u64s S ++ R)[t]? = some (.int .u64 ((S.getD t 0 : Nat) : Int)) := by
 unfold u64s
 rw [Array.getElem?_append_left (by simpa using h)]
 simp [h]
theorem u64s_set (S : List Nat) (R : Array Value) (t x : Nat) (h : t < S.length) : (u64s S ++ R).setIfInBounds t (.int .u64 (x : Int)) = u64s (S.set t x) ++ R := by
 unfold u64s
 rw [Array.setIfInBounds_append_left (by simpa using h)]
 simp [List.map_set]
theorem GM_set (U : List Nat) (t x : Nat) (ht : t < U.length) (h : U.getD t 0 ≤ x) (hx : x < 18446744073709551616) : GM (U.set t x) + (x - U.getD t 0) = GM U := by
 induction U generalizing t with
 | nil => simp at ht
 | cons u U ih =>
  cases t with
  | zero => simp only [GM, List.set_cons_zero, List.map_cons, List.sum_cons, List.getD_cons_zero] at *; omega
  | succ t =>
   have := ih t (by simpa using ht) (by simpa using h)
   simp only [GM, List.set_cons_succ, List.map_cons, List.sum_cons, List.getD_cons_succ] at *; omega
structure GrowOk (S T : List Nat) : Prop where
 len : T.length = S.length
 lt : ∀ s ∈ T, s < 18446744073709551616
theorem GrowOk.at_ {S T : List Nat} (h : GrowOk S T) (t : Nat) : T.getD t 0 < 18446744073709551616 := by
 rw [List.getD_eq_getElem?_getD]
 rcases Nat.lt_or_ge t T.length with hl | hl
 ·rw [List.getElem?_eq_getElem hl]; exact h.lt _ (List.getElem_mem hl)
 ·rw [List.getElem?_eq_none hl]; decide
theorem GrowOk.set {S T : List Nat} (h : GrowOk S T) (t x : Nat) (hx : x < 18446744073709551616) : GrowOk S (T.set t x) :=
 ⟨by simp [h.len], fun s hs => (List.mem_or_eq_of_mem_set hs).elim (h.lt s) (fun e => e ▸ hx)⟩
theorem or_lt {a d : Nat} (ha : a < 18446744073709551616) (hd : d < 18446744073709551616) : a ||| d < 18446744073709551616 :=
 Nat.or_lt_two_pow (n := 64) ha hd
theorem growStep_is {both : Bool} {cnt : Nat → Bool} {es : List (Int × Int)} {U : List Nat} {i t h : Nat} (hi : i < es.length) (hc : cnt i = true) (ht : es[i].1 = t) (hh : es[i].2 = h) :
  growStep both cnt es U i = (U.set t (U.getD t 0 ||| U.getD h 0)).set h (if both then U.getD t 0 ||| U.getD h 0 else U.getD h 0) := by
 unfold growStep
 rw [if_pos hc]
 simp [hi, ht, hh]
theorem growStep_skip {both : Bool} {cnt : Nat → Bool} {es : List (Int × Int)} {U : List Nat} {i : Nat} (hc : cnt i = false) : growStep both cnt es U i = U := by
 unfold growStep; rw [if_neg (by simp [hc])]
theorem grow_more {both : Bool} {U : List Nat} {t h : Nat} (ht : t < U.length) (hh : h < U.length) (hU : GrowOk U U) {x y : Nat} (hx : x = U.getD t 0 ||| U.getD h 0) (hy : y = if both then x else U.getD h 0) :
  GM ((U.set t x).set h y) ≤ GM U ∧ ((x ≠ U.getD t 0 ∨ y ≠ U.getD h 0) → GM ((U.set t x).set h y) < GM U) ∧ ((x = U.getD t 0 ∧ y = U.getD h 0) → (U.set t x).set h y = U) := by
 have a1 := hU.at_ t
 have a2 := hU.at_ h
 have a3 := or_lt a1 a2
 have l1 : U.getD t 0 ≤ x := by rw [hx]; exact Nat.left_le_or
 have l2 : U.getD h 0 ≤ x := by rw [hx]; exact Nat.right_le_or
 rw [← hx] at a3
 have g1 := GM_set U t x ht l1 a3
 have hy1 : U.getD h 0 ≤ y := by rw [hy]; split <;> omega
 have hy2 : y < 18446744073709551616 := by rw [hy]; split <;> omega
 by_cases e : t = h
 ·subst e
  have : x = U.getD t 0 := by rw [hx, Nat.or_self]
  have hy' : y = x := by rw [hy]; split <;> omega
  subst hy'
  rw [List.set_set]
  refine ⟨by omega, fun hne => by omega, fun he => ?_⟩
  rw [this]; simp [ht]
 ·have e2 : (U.set t x).getD h 0 = U.getD h 0 := by simp [e]
  have g2 := GM_set (U.set t x) h y (by simpa using hh) (by rw [e2]; exact hy1) hy2
  rw [e2] at g2
  refine ⟨by omega, fun hne => by omega, fun ⟨he1, he2⟩ => ?_⟩
  rw [he1, he2]
  simp [ht, hh]
set_option maxHeartbeats 1000000 in
theorem grow_any (n : Int) (A : Option Addr) (cap gcap : Nat) (es : List (Int × Int)) (both : Bool) (cnt : Nat → Bool) (fid : FuncId) (caps : Array Value) (g L : Nat) (S : List Nat) (R : Array Value) (w : World)
  (B : Nat) (hes : Cells w B A (edgeCells es)) (hB : B ≤ g) (hlen : es.length ≤ 1000)
  (hg : Blk w g 157 (u64s S ++ R)) (hn : ∀ e ∈ es, 0 ≤ e.1 ∧ e.1 < L ∧ 0 ≤ e.2 ∧ e.2 < L) (hS : ∀ s ∈ S, s < 18446744073709551616) (hL : S.length = L)
  (hcf : ∀ (u : World) (args : Array Value), (callFunc fid args).run Tryz.prog u = .ok (.enter fid args) u)
  (hcl : ∀ (i : Int) (w' : World), 0 ≤ i → i < es.length → w.grownBy w' (some g) → Calls Tryz.prog fid (#[.int .i64 i] ++ caps) w' fun e w'' => e = .returned (.bool (cnt i.toNat)) ∧ ∃ m, w'' = w'.drewN m) :
  Calls Tryz.prog 139 #[.agg #[.int .i64 n, .slice A es.length cap], .slice (some ⟨g, 0, none⟩) L gcap, .bool both, .func (.func fid) #[] caps] w fun e w' =>
   e = .returned (.tuple #[]) ∧ w.grownBy w' (some g) ∧ ∃ T, Blk w' g 157 (u64s T ++ R) ∧ GrowOk S T ∧ GrowTo both cnt es S T ∧ (∀ i, i < es.length → growStep both cnt es T i = T) := by
 have Hcl := Lib.hid hcl; clear hcl
 have HL := Lib.hid hL; clear hL
 have Hn := Lib.hid hn; clear hn
 have HS := Lib.hid hS; clear hS
 have hgl := hg.lt
 go_enter Tryz.func139, Tryz.ntmps139
 go_wp2
 go_loopg [8] (GM S + 1) (fun k s8 wr => ∃ (T : List Nat) (m : Bool), s8 = .bool m ∧ Blk wr g 157 (u64s T ++ R) ∧ w.grownBy wr (some g) ∧
  Blk wr w.heap.size 24 #[.int .i64 n, .slice A es.length cap] ∧ GrowOk S T ∧ GrowTo both cnt es S T ∧ (m = false → ∀ i, i < es.length → growStep both cnt es T i = T) ∧ k = GM T + if m then 1 else 0)
 case atStart => exact ⟨S, true, rfl, hg.alloc _, World.grownBy_alloc _ _ _, Blk.new _ _ _, ⟨rfl, HS.out⟩, fun P h _ => h, by simp, rfl⟩
 case round =>
  obtain ⟨T, m, rfl, hT, hgr, hbox, hok, hto, hfix, hk⟩ := hrel
  have Hto := Lib.hid hto; clear hto
  have Hfix := Lib.hid hfix; clear hfix
  have Hk := Lib.hid hk; clear hk
  have b0 := hbox.cell 0
  have b1 := hbox.cell 1
  simp only [List.getElem?_toArray, List.getElem?_cons_zero, List.getElem?_cons_succ] at b0 b1
  cases m with
  | false =>
   go_wp2
   go_end0
   exact ⟨rfl, hgr, T, hT, hok, Hto.out, Hfix.out (by simp)⟩
  | true =>
   go_wp2
   obtain ⟨wo, rfl⟩ : ∃ wo : World, wo = wr := ⟨_, rfl⟩
   go_loopg [8, 17] (es.length) (fun k s8 s17 wr => ∃ (U : List Nat) (m : Bool) (i : Nat), s8 = .bool m ∧ s17 = .int .i64 i ∧ i ≤ es.length ∧ k = es.length - i ∧ Blk wr g 157 (u64s U ++ R) ∧ w.grownBy wr (some g) ∧
    Blk wr w.heap.size 24 #[.int .i64 n, .slice A es.length cap] ∧ GrowOk S U ∧ GrowTo both cnt es S U ∧ (m = true → GM U < GM T) ∧ (m = false → U = T ∧ ∀ j, j < i → growStep both cnt es T j = T))
   case atStart => exact ⟨T, false, 0, rfl, rfl, Nat.zero_le _, rfl, hT, hgr, hbox, hok, Hto.out, by simp, fun _ => ⟨rfl, fun j hj => absurd hj (by omega)⟩⟩
   case round =>
    obtain ⟨U, m, i, rfl, rfl, hi, hk2, hU, hgr2, hbox2, hok2, hto2, hmt, hmf⟩ := hrel
    have Hto2 := Lib.hid hto2; clear hto2
    have Hmt := Lib.hid hmt; clear hmt
    have Hmf := Lib.hid hmf; clear hmf
    have Hk2 := Lib.hid hk2; clear hk2
    clear b0 b1
    by_cases hlt : i < es.length
    ·obtain ⟨b, off, rfl, hb, hc⟩ := hes.edges (by omega)
     obtain ⟨c0, c1⟩ := hc i hlt
     clear hc
     have c0' : wr.cell? ⟨b, off + i * 2, none⟩ = some (.int .i64 es[i].1) := (World.cell?_of_block (hgr2.block b (by omega) (by simp; omega))).trans c0
     have c1' : wr.cell? ⟨b, off + i * 2 + 1, none⟩ = some (.int .i64 es[i].2) := (World.cell?_of_block (hgr2.block b (by omega) (by simp; omega))).trans c1
     clear c0 c1
     obtain ⟨q0, q1, q2, q3⟩ := Hn.out es[i] (List.getElem_mem hlt)
     obtain ⟨t, ht⟩ := Int.eq_ofNat_of_zero_le q0
     obtain ⟨h, hh⟩ := Int.eq_ofNat_of_zero_le q2
     rw [ht] at c0' q1
     rw [hh] at c1' q3
     have Ht := Lib.hid ht; clear ht q0
     have Hh := Lib.hid hh; clear hh q2
     have ut := (hU.cell t).trans (u64s_at U R t (by rw [hok2.len, HL.out]; omega))
     have uh := (hU.cell h).trans (u64s_at U R h (by rw [hok2.len, HL.out]; omega))
     have hgr0 := hU.lt
     have hbr0 := hbox2.lt
     have ft := hU.frozen t
     have fh := hU.frozen h
     have hua := hok2.at_ t
     have hud := hok2.at_ h
     have eo := u64_or_nat _ _ hua hud
     have Gm := Lib.hid (@grow_more both U t h (by rw [hok2.len, HL.out]; omega) (by rw [hok2.len, HL.out]; omega) ⟨rfl, hok2.lt⟩ _ _ rfl rfl)
     have Gs := Lib.hid (fun hc => @growStep_is both cnt es U i t h hlt hc Ht.out Hh.out)
     have hax := or_lt hua hud
     generalize ha : U.getD t 0 = a at *
     generalize hd : U.getD h 0 = d at *
     clear ha hd hua hud
     go_wp2_with fail
     refine (Hcl.out i _ (by omega) (by omega) (only_alloc hgr2 _)).mono ?_
     rintro e w' ⟨rfl, m0, rfl⟩
     rw [show ((i : Int)).toNat = i from rfl]
     cases hci : cnt i with
     | false =>
      have Hci := Lib.hid hci; clear hci
      go_wp2_with fail
      go_roundg (es.length - (i + 1))
      case measure => rw [Hk2.out]; omega
      case rel =>
       refine ⟨U, m, i + 1, rfl, by go_num, by omega, rfl, (hU.alloc _).drewN _, only_drewN (only_alloc hgr2 _) _, (hbox2.alloc _).drewN _, hok2, Hto2.out, Hmt.out, fun hm => ⟨(Hmf.out hm).1, fun j hj => ?_⟩⟩
       by_cases hji : j = i
       ·subst hji; exact growStep_skip Hci.out
       ·exact (Hmf.out hm).2 j (by omega)
     | true =>
      have Hci := Lib.hid hci; clear hci
      go_wp2_with fail
      go_quiet (fail)
      go_upto_if 42 with fail
      go_cut [12] (fun s12 wc => s12 = .int .u64 ((if both then a ||| d else d : Nat) : Int) ∧ ∃ kk, wc = (wr.alloc (.cells #[.int .i64 t, .int .i64 h] 66)).drewN kk)
      case first =>
       cases both <;> (go_wp2_with fail) <;> go_meet <;> exact ⟨by simp, m0 + nq, (by first | rfl | exact World.drewN_drewN _ _ _)⟩
      obtain ⟨rfl, kk, rfl⟩ := hcut
      have hyx : (if both then a ||| d else d) < 18446744073709551616 := by
       have := Nat.right_le_or (n := a) (m := d)
       split <;> omega
      clear eo
      generalize (if both then a ||| d else d) = y at *
      generalize (a ||| d) = x at *
      go_upto_region 11 with fail
      go_cut [8, 11] (fun s8 s11 wc => s8 = .bool (m || (x != a) || (y != d)) ∧ s11 = .int .u64 (x : Int) ∧ ∃ kk, wc = (wr.alloc (.cells #[.int .i64 t, .int .i64 h] 66)).drewN kk)
      case first =>
       cases m <;> (go_wp2_with fail)
       all_goals go_meet
       ·have e : x = a := by have : (x : Int) = a := by assumption
                             omega
        exact ⟨by simp [e, int_bne], by rw [e], _, rfl⟩
       ·have e : ¬ x = a := by have : ¬ (x : Int) = a := by assumption
                               omega
        exact ⟨by simp [e], rfl, _, rfl⟩
       ·exact ⟨by simp, rfl, _, rfl⟩
      obtain ⟨rfl, rfl, kk, rfl⟩ := hcut
      generalize hm2 : (m || (x != a) || (y != d)) = m2 at *
      have Hm2 := Lib.hid hm2; clear hm2
      obtain ⟨v', hv'⟩ := setCell_some (wr.alloc (.cells #[.int .i64 t, .int .i64 h] 66)) ⟨g, t, none⟩ ⟨g, h, none⟩ (.int .u64 (x : Int)) (.int .u64 (d : Int)) (by rw [World.cell?_alloc_past _ _ _ hgr0]; exact uh)
      go_wp2_with fail
      go_region
      go_wp2_with fail
      clear hv' v' ft fh ut uh c0' c1'
      have R1 : Blk ((((wr.alloc (.cells #[.int .i64 t, .int .i64 h] 66)).drewN (kk + 1)).setCell ⟨g, t, none⟩ (.int .u64 (x : Int))).setCell ⟨g, h, none⟩ (.int .u64 (y : Int))) g 157 (u64s ((U.set t x).set h y) ++ R) := by
       rw [← u64s_set _ _ _ _ (by simp; rw [hok2.len, HL.out]; omega), ← u64s_set _ _ _ _ (by rw [hok2.len, HL.out]; omega)]
       exact (((hU.alloc _).drewN _).set_ t _).set_ h _
      go_roundg (es.length - (i + 1))
      case measure => rw [Hk2.out]; omega
      case rel =>
       obtain ⟨g1, g2, g3⟩ := Gm.out
       have gs := Gs.out Hci.out
       refine ⟨(U.set t x).set h y, m2, i + 1, rfl, by go_num, by omega, rfl, R1, only_setCell (only_setCell (only_drewN (only_alloc hgr2 _) _) (.inl rfl) _) (.inl rfl) _,
        (((hbox2.alloc _).drewN _).far (by simp; omega) _).far (by simp; omega) _, (hok2.set t x hax).set h y hyx, fun P p0 p1 => by rw [← gs]; exact p1 U i hlt (Hto2.out P p0 p1), ?_, ?_⟩
       ·intro hm
        rw [← Hm2.out] at hm
        cases m with
        | true => exact Nat.lt_of_le_of_lt g1 (Hmt.out (by simp))
        | false =>
         obtain ⟨rfl, _⟩ := Hmf.out (by simp)
         exact g2 (by simpa using hm)
       ·intro hm
        rw [← Hm2.out] at hm
        simp only [Bool.or_eq_false_iff, bne_eq_false_iff_eq] at hm
        obtain ⟨⟨hm0, hx0⟩, hy0⟩ := hm
        obtain ⟨rfl, hj⟩ := Hmf.out hm0
        have e := g3 ⟨hx0, hy0⟩
        refine ⟨e, fun j hji => ?_⟩
        by_cases hj2 : j = i
        ·subst hj2; rw [gs, e]
        ·exact hj j (by omega)
    ·go_wp2_with fail
     have hie : i = es.length := by omega
     go_roundg (GM U + if m then 1 else 0)
     case measure =>
      rw [Hk.out]
      cases m with
      | true => have := Hmt.out (by simp); simp; omega
      | false => rw [(Hmf.out (by simp)).1]; simp
     case rel =>
      refine ⟨U, m, rfl, hU, hgr2, hbox2, hok2, Hto2.out, fun hm => ?_, rfl⟩
      obtain ⟨rfl, hj⟩ := Hmf.out hm
      rw [← hie]; exact hj
#print axioms grow_any
end Go.Proofs.YtneeknlhlkpnpaaGreat
