/-
  (*View).run, Order: what they compute. Written by an AI agent.
-/
import Derived.Test.YtnjikhhegebkiaaDoorViewB
import Derived.Test.YtnjikhhegebkiaaDoorRunLaw
namespace Go.Proofs.YtnjikhhegebkiaaDoor
open Go.RowKit

theorem own_some {w : World} {base n c : Nat} {A : Option Addr} {t : TypeId} {xs : List Value} (h : w.ownsRow base t 1 (.slice A n c) n xs) (hn : 0 < n) :
    ∃ g R, A = some ⟨g, 0, none⟩ ∧ base ≤ g ∧ Blk w g t (xs.toArray ++ R) ∧ xs.length + R.size = c ∧ n ≤ c ∧ c ≤ maxLen ∧ xs.length = n := by
  obtain ⟨g, cap, R, he, h1, h2, h3, h4, h5, h6⟩ := own_blk h hn
  injection he with e1 e2 e3
  subst e1 e3
  exact ⟨g, R, rfl, h1, h2, by omega, h4, h5, by omega⟩
theorem own_back {w : World} {base n c g : Nat} {t : TypeId} {xs : List Value} {R : Array Value} (hb : base ≤ g) (h : Blk w g t (xs.toArray ++ R)) (h1 : xs.length + R.size = c) (h2 : n ≤ c) (h3 : c ≤ maxLen) (h4 : xs.length = n) : w.ownsRow base t 1 (.slice (some ⟨g, 0, none⟩) n c) n xs :=
  blk_own hb h (by omega) h2 h3 (by omega)
theorem ne_ownBlock {w : World} {base n size g : Nat} {v : Value} {e : TypeId} {xs : List Value} (h : w.ownsRow base e size v n xs) (hg : g < base) : v.ownBlock = none ∨ v.ownBlock ≠ some g := by
  cases hv : v.ownBlock with
  | none => exact .inl rfl
  | some k =>
    have := (h.lt k hv).1
    exact .inr (by simp; omega)
theorem apart_base {w : World} {base n size : Nat} {u v : Value} {e : TypeId} {xs : List Value} (h : w.ownsRow base e size u n xs) (hv : ∀ k, v.ownBlock = some k → k < base) : v.ownBlock = none ∨ v.ownBlock ≠ u.ownBlock := by
  cases hk : v.ownBlock with
  | none => exact .inl rfl
  | some k =>
    refine .inr fun e => ?_
    have := (h.lt k e.symm).1
    have := hv k hk
    omega
set_option maxRecDepth 20000 in
set_option maxHeartbeats 4000000 in
theorem run_any (gv n : Nat) (es : List (Int × Int)) (w : World) (hv : ViewAt w gv n es) (hE : ∀ e ∈ es, 0 ≤ e.1 ∧ e.1 < (n : Int) ∧ 0 ≤ e.2 ∧ e.2 < (n : Int)) (hn : n ≤ 64) (hl : es.length ≤ 1000) :
    Calls Tryd.prog 48 #[.pointer (some ⟨gv, 0, none⟩)] w (fun e w' => ∃ v1 v2, e = .returned (.tuple #[v1, v2]) ∧ Below w.heap.size w w' ∧ w'.ownsRow w.heap.size 3 1 v1 (orderF es n).length (intCells (orderF es n))) := by
  obtain ⟨A, c, go, gi, os, is, hbv, hes, hol, hil, hgo, hgi, hrw⟩ := hv
  have HV := Lib.hid hbv
  have HES := Lib.hid hes
  have HGO := Lib.hid hgo
  have HGI := Lib.hid hgi
  have HRW := Lib.hid hrw
  have HE := Lib.hid hE
  have z2 : w.cell? ⟨gv, 2, none⟩ = some (.slice (some ⟨go, 0, none⟩) n n) := hbv.cell 2
  have z3 : w.cell? ⟨gv, 3, none⟩ = some (.slice (some ⟨gi, 0, none⟩) n n) := hbv.cell 3
  have lv := hbv.lt
  have lgo := hgo.lt
  have lgi := hgi.lt
  clear hbv hes hgo hgi hrw hE
  go_enter Tryd.func48, Tryd.ntmps48
  go_wp2_with fail
  go_loopg [3, 14] n (fun k s3 s14 wr => ∃ i : Nat, s14 = .int .i64 i ∧ i ≤ n ∧ k = n - i ∧ Below w.heap.size w wr ∧ wr.ownsRow w.heap.size 3 1 s3 i (intCells ((waitsF n es []).take i)))
  case atStart => exact ⟨0, rfl, Nat.zero_le _, rfl, Below.refl _ _, World.ownsRow_nil _ _ _ _⟩
  case round =>
    obtain ⟨i, rfl, hi, hk, hb, hown⟩ := hrel
    have Hk := Lib.hid hk
    have HB := Lib.hid hb
    have HO := Lib.hid hown
    have hsz := hb.size
    have y3 := (hb.cell (p := ⟨gv, 3, none⟩) lv).trans z3
    clear hk hb hown
    by_cases hlt : i < n
    · have hlt' : (i : Int) < n := by omega
      have hix : n + i < (os ++ is).length := by simp; omega
      have hro := HRW.out.own (n + i) hix (by rw [← HRW.out.len]; exact hix)
      rw [List.getElem_append_right (by omega), lsV_at_snd hlt] at hro
      simp only [show n + i - os.length = i by omega] at hro
      obtain ⟨Ai, ci, hiv⟩ := own_slice hro
      have yi : wr.cell? ⟨gi, i, none⟩ = some (.slice Ai (endsF es Prod.snd i es.length).length ci) := (HB.out.cell (p := ⟨gi, i, none⟩) lgi).trans ((HGI.out.cell i).trans (by rw [← hiv]; simp [List.getElem?_eq_getElem (show i < is.length by omega)]))
      obtain ⟨li, hli⟩ : ∃ z, z = (endsF es Prod.snd i es.length).length := ⟨_, rfl⟩
      have hli2 : li ≤ es.length := by rw [hli]; exact endsF_length _ _ _ _
      rw [← hli] at yi
      have HW := Lib.hid (show (waitsF n es []).take (i + 1) = (waitsF n es []).take i ++ [(li : Int)] by
        rw [List.take_succ_eq_append_getElem (by rw [waitsF_length]; exact hlt)]
        congr 2
        have : (waitsF n es [])[i]'(by rw [waitsF_length]; exact hlt) = ((List.range n).map fun h : Nat => ((endsF es Prod.snd h es.length).length : Int))[i]'(by simpa using hlt) := by
          congr 1; exact waitsF_nil n es
        rw [this, hli]
        simp)
      clear hro hiv hli
      go_wp2_with (at_builtin; refine wp_app elemInt rfl _ _ rfl w.heap.size u3 _ _ rfl wr.heap.size [.int .i64 (li : Int)] rfl rfl HO.out rfl rfl ?h2 ?h3 ?h4 ?_)
      case h2 => omega
      case h3 => omega
      case h4 => omega
      intro v5 w5 ho5 hg5 _
      have HB5 := Lib.hid (below_app HB.out HO.out hg5 hsz (Nat.le_refl _))
      have HO5 := Lib.hid (show w5.ownsRow w.heap.size 3 1 v5 (i + 1) (intCells ((waitsF n es []).take (i + 1))) by rw [HW.out]; simpa [intCells] using ho5)
      clear ho5 hg5 HO HB y3 yi
      go_wp2_with fail
      go_roundg (n - (i + 1))
      case measure => rw [Hk.out]; omega
      case rel => exact ⟨i + 1, by go_num, by omega, rfl, HB5.out, HO5.out⟩
    · have hie : n = i := by omega
      subst hie
      have hlt' : ¬ (n : Int) < n := by omega
      obtain ⟨A3, c3, hs3⟩ := own_slice HO.out
      have HO1 := Lib.hid (show wr.ownsRow w.heap.size 3 1 (.slice A3 n c3) n (intCells (waitsF n es [])) by
        have := HO.out
        rw [List.take_of_length_le (by rw [waitsF_length]; exact Nat.le_refl _)] at this
        rw [← hs3]; exact this)
      rw [hs3]
      have HA3 := Lib.hid (fun k hk => (HO1.out.lt k hk).2)
      clear HO hs3 y3
      go_wp2_with fail
      obtain ⟨w1, rfl⟩ : ∃ x, x = wr := ⟨_, rfl⟩
      go_loopg [2, 3] n (fun k s2 s3 wr => ∃ out : List Int, s3 = .slice A3 n c3 ∧ Ord es n out ∧ orderF es n = runF es n (n - out.length) out ∧ k = n - out.length ∧ Below w.heap.size w wr ∧ w1.heap.size ≤ wr.heap.size ∧ wr.ownsRow w1.heap.size 3 1 s2 out.length (intCells out) ∧ wr.ownsRow w.heap.size 3 1 (.slice A3 n c3) n (intCells (waitsF n es out)))
      case atStart => exact ⟨[], rfl, Ord.nil es n, rfl, rfl, HB.out, Nat.le_refl _, World.ownsRow_nil _ _ _ _, HO1.out⟩
      case round =>
        obtain ⟨out, rfl, hord, hrun, hk, hb, hsw, hown, hwt⟩ := hrel
        have Hk := Lib.hid hk
        have HRun := Lib.hid hrun
        have HOrd := Lib.hid hord
        have HB2 := Lib.hid hb
        have HO2 := Lib.hid hown
        have HW2 := Lib.hid hwt
        have hidx := index_any A3 c3 (waitsF n es out) 0 wr (Cells.of_own hwt) (by rw [waitsF_length]; omega)
        rw [waitsF_length] at hidx
        clear hk hrun hord hb hown hwt
        go_wp2_with fail
        refine hidx.mono ?_
        rintro e w2 ⟨rfl, rfl⟩
        clear hidx
        cases hx : nextF es n out with
        | none =>
          rw [idx_next_none hx]
          have HF := Lib.hid (show orderF es n = out by rw [HRun.out, runF_stop hx])
          clear hx
          go_wp2_with fail
          go_ret2
          exact ⟨_, _, rfl, HB2.out, by rw [HF.out]; exact own_mono HO2.out HB.out.size⟩
        | some x =>
          obtain ⟨hxn, hix⟩ := idx_next_some hx
          rw [hix]
          have HX := Lib.hid hx
          have hxn' : (x : Int) < n := by omega
          have hx0 : ¬ (x : Int) < 0 := by omega
          have hll := (HOrd.out.push hx).le
          simp only [List.length_append, List.length_singleton] at hll
          clear hx hix
          have hsz2 := HB2.out.size
          go_wp2_with (at_builtin; refine wp_app elemInt rfl _ _ rfl w1.heap.size u2 _ _ rfl wr.heap.size [.int .i64 (x : Int)] rfl rfl HO2.out rfl rfl ?h2 ?h3 ?h4 ?_)
          case h2 => omega
          case h3 => omega
          case h4 => omega
          intro v5 w5 ho5 hg5 hat5
          have hsz5 := hg5.size
          have hwt5 := HW2.out.kept hg5 (apart_base HO2.out HA3.out)
          have HB5 := Lib.hid (below_app HB2.out HO2.out hg5 hsz2 HB.out.size)
          have HO5 := Lib.hid (show w5.ownsRow w1.heap.size 3 1 v5 (out ++ [(x : Int)]).length (intCells (out ++ [(x : Int)])) by simpa [intCells] using ho5)
          obtain ⟨g, R, hA3, hgb, hgB, hR, hnc, hcm, _⟩ := own_some hwt5 (by omega)
          have HRl := Lib.hid hR
          have hg1 : g < w1.heap.size := HA3.out g (by rw [hA3]; rfl)
          have HGB := Lib.hid hgB
          have cx := hgB.intR (k := x) (by rw [waitsF_length]; exact hxn)
          have fx := hgB.frozen x
          have hgs : g < w5.heap.size := hgB.lt
          have HG6 := Lib.hid (hgB.setIntR x (-1) (by rw [waitsF_length]; exact hxn))
          have HB6 := Lib.hid (HB5.out.setCell (p := ⟨g, x, none⟩) hgb (.int .i64 (-1)))
          have HO6 := Lib.hid (HO5.out.kept (only_setCell (World.grownBy.refl w5 (some g)) (p := ⟨g, x, none⟩) (.inl rfl) (.int .i64 (-1))) (ne_ownBlock HO5.out hg1))
          have y2 := (HB6.out.cell (p := ⟨gv, 2, none⟩) lv).trans z2
          have y1 := (HB6.out.cell (p := ⟨gv, 1, none⟩) lv).trans (HV.out.cell 1)
          simp only [List.getElem?_toArray, List.getElem?_cons_zero, List.getElem?_cons_succ] at y1
          have hix : x < (os ++ is).length := by simp; omega
          have hro := HRW.out.own x hix (by rw [← HRW.out.len]; exact hix)
          rw [List.getElem_append_left (by omega), lsV_at_fst hxn] at hro
          obtain ⟨Ax, cx2, hxv⟩ := own_slice hro
          have yx : (w5.setCell ⟨g, x, none⟩ (.int .i64 (-1))).cell? ⟨go, x, none⟩ = some (.slice Ax (endsF es Prod.fst x es.length).length cx2) := (HB6.out.cell (p := ⟨go, x, none⟩) lgo).trans ((HGO.out.cell x).trans (by rw [← hxv]; simp [List.getElem?_eq_getElem (show x < os.length by omega)]))
          rw [hxv] at hro
          have HAx := Lib.hid (Cells.of_own hro)
          subst hA3
          obtain ⟨lx, hlx⟩ : ∃ z, z = (endsF es Prod.fst x es.length).length := ⟨_, rfl⟩
          have hlx2 : lx ≤ es.length := by rw [hlx]; exact endsF_length _ _ _ _
          rw [← hlx] at yx
          have HLX := Lib.hid hlx
          have hss : (w5.setCell ⟨g, x, none⟩ (.int .i64 (-1))).heap.size = w5.heap.size := by simp
          clear ho5 hg5 hat5 hwt5 HW2 HO2 HB2 HO5 HB5 hR hgB HGB hro hxv hlx
          go_wp2_with fail
          generalize w5.setCell ⟨g, x, none⟩ (.int .i64 (-1)) = w6 at *
          rw [waitsP_zero] at HG6
          obtain ⟨w4, rfl⟩ : ∃ y, y = wr := ⟨_, rfl⟩
          go_loopg [45] lx (fun k s45 wr => ∃ j : Nat, s45 = .int .i64 j ∧ j ≤ lx ∧ k = lx - j ∧ w6.grownBy wr (some g) ∧ Blk wr g 3 ((intCells (waitsP n es out x j)).toArray ++ R))
          case atStart => exact ⟨0, rfl, Nat.zero_le _, rfl, World.grownBy.refl _ _, HG6.out⟩
          case round =>
            obtain ⟨j, rfl, hj, hk2, hgr, hbj⟩ := hrel
            have Hk2 := Lib.hid hk2
            have HGR := Lib.hid hgr
            have HBJ := Lib.hid hbj
            have HBW := Lib.hid (HB6.out.trans ((Below.refl w.heap.size w6).grown hgr (by omega) (fun k hk => by injection hk; omega)))
            have hszr := hgr.size
            clear hk2 hgr hbj
            by_cases hjl : j < lx
            · have hjl' : (j : Int) < lx := by omega
              have hjl2 : j < (endsF es Prod.fst x es.length).length := by have := HLX.out; omega
              obtain ⟨i, hei, hil, hi1⟩ := endsF_at hjl2
              obtain ⟨bx, offx, hAxe, hbx, hcx⟩ := HAx.out.ints (by omega)
              obtain ⟨b, off, hAe, hbb, hcc⟩ := HES.out.edges (by omega)
              have c0 := (HBW.out.cell (p := ⟨bx, offx + j, none⟩) hbx).trans (hcx j hjl2)
              rw [hei] at c0
              obtain ⟨_, c1⟩ := hcc i hil
              have c1' := (HBW.out.cell (p := ⟨b, off + i * 2 + 1, none⟩) hbb).trans c1
              obtain ⟨q0, q1, q2, q3⟩ := HE.out es[i] (List.getElem_mem hil)
              obtain ⟨t, ht⟩ := Int.eq_ofNat_of_zero_le q2
              have ht' : es[i].2 = (t : Int) := ht
              rw [ht'] at c1'
              have htn : t < n := by omega
              have htn' : (t : Int) < n := by omega
              have hil' : (i : Int) < es.length := by omega
              have HS := Lib.hid (waitsP_succ HOrd.out HX.out hjl2 hei hil ht' htn)
              obtain ⟨vb1, vb2⟩ := waitsP_bound (n := n) (es := es) (out := out) (x := (x : Int)) (j := j) (t := t) hl
              have ct := HBJ.out.intR (k := t) (by rw [waitsP_length]; exact htn)
              obtain ⟨v, hv⟩ : ∃ v, v = (waitsP n es out x j).getD t 0 := ⟨_, rfl⟩
              rw [← hv] at ct vb1 vb2
              have hwv : wrap64 (v - 1) = v - 1 := by unfold wrap64; omega
              have ft := HBJ.out.frozen t
              have y1r := (HBW.out.cell (p := ⟨gv, 1, none⟩) lv).trans (HV.out.cell 1)
              simp only [List.getElem?_toArray, List.getElem?_cons_zero, List.getElem?_cons_succ] at y1r
              have HBS := Lib.hid (show Blk (wr.setCell ⟨g, t, none⟩ (.int .i64 (v - 1))) g 3 ((intCells (waitsP n es out x (j + 1))).toArray ++ R) by
                rw [← HS.out, ← hv]
                exact HBJ.out.setIntR t (v - 1) (by rw [waitsP_length]; exact htn))
              have HGS := Lib.hid (only_setCell HGR.out (p := ⟨g, t, none⟩) (.inl rfl) (.int .i64 (v - 1)))
              subst hAxe hAe
              clear hcx hcc c1 ht ht' q0 q1 q2 q3 hi1 hei hv HS y1 y2 yx
              go_wp2_with fail
              go_roundg (lx - (j + 1))
              case measure => rw [Hk2.out]; omega
              case rel => exact ⟨j + 1, by go_num, by omega, rfl, HGS.out, HBS.out⟩
            · have hje : j = lx := by omega
              have HBF := Lib.hid (show Blk wr g 3 ((intCells (waitsF n es (out ++ [(x : Int)]))).toArray ++ R) by
                rw [← waitsP_all HX.out, ← HLX.out, ← hje]; exact HBJ.out)
              have hjl' : ¬ (j : Int) < lx := by omega
              have HOF := Lib.hid (HO6.out.kept HGR.out (ne_ownBlock HO6.out hg1))
              have HWF := Lib.hid (own_back (base := w.heap.size) (n := n) (c := c3) hgb HBF.out (by have := HRl.out; simp [intCells, waitsF_length] at this ⊢; omega) hnc hcm (by simp [intCells, waitsF_length]))
              have HRF := Lib.hid (show orderF es n = runF es n (n - (out ++ [(x : Int)]).length) (out ++ [(x : Int)]) by
                rw [HRun.out, List.length_append, List.length_singleton, ← runF_more HX.out]; congr 1; omega)
              have HOrF := Lib.hid (HOrd.out.push HX.out)
              clear HBF HBJ hje y1 y2 yx
              go_wp2_with fail
              go_roundg (n - (out.length + 1))
              case measure => rw [Hk.out]; omega
              case rel => exact ⟨out ++ [(x : Int)], rfl, HOrF.out, HRF.out, by simp, HBW.out, by omega, HOF.out, HWF.out⟩
end Go.Proofs.YtnjikhhegebkiaaDoor
