import Derived.Test.YtnjikhhegebkiaaDoorRefs
import Derived.Test.YtnjikhhegebkiaaDoorWays
namespace Go.Proofs.YtnjikhhegebkiaaDoor
open Go.RowKit

def goStep (both : Bool) (cnts : List Bool) (es : List (Int × Int)) (U : List Bool) (i : Nat) : List Bool :=
  if cnts.getD i false && (U.getD (es.getD i (0, 0)).1.toNat false || both && U.getD (es.getD i (0, 0)).2.toNat false) then
    (U.set (es.getD i (0, 0)).2.toNat true).set (es.getD i (0, 0)).1.toNat ((U.set (es.getD i (0, 0)).2.toNat true).getD (es.getD i (0, 0)).1.toNat false || both)
  else U
def goPass (both : Bool) (cnts : List Bool) (es : List (Int × Int)) (U : List Bool) (k : Nat) : List Bool := (List.range k).foldl (goStep both cnts es) U
def goN (both : Bool) (cnts : List Bool) (es : List (Int × Int)) (U : List Bool) (r : Nat) : List Bool := (List.range r).foldl (fun U _ => goPass both cnts es U es.length) U
def goInit (n f : Nat) : List Bool := (List.replicate n false).set f true
def goAll (both : Bool) (cnts : List Bool) (es : List (Int × Int)) (n f : Nat) : List Bool := goN both cnts es (goInit n f) n
theorem goPass_succ (both : Bool) (cnts : List Bool) (es : List (Int × Int)) (U : List Bool) (k : Nat) : goPass both cnts es U (k + 1) = goStep both cnts es (goPass both cnts es U k) k := by
  unfold goPass; rw [List.range_succ, List.foldl_append]; rfl
theorem goN_succ (both : Bool) (cnts : List Bool) (es : List (Int × Int)) (U : List Bool) (r : Nat) : goN both cnts es U (r + 1) = goPass both cnts es (goN both cnts es U r) es.length := by
  unfold goN; rw [List.range_succ, List.foldl_append]; rfl
theorem goStep_length (both : Bool) (cnts : List Bool) (es : List (Int × Int)) (U : List Bool) (i : Nat) : (goStep both cnts es U i).length = U.length := by
  unfold goStep; split <;> simp
theorem goPass_length (both : Bool) (cnts : List Bool) (es : List (Int × Int)) (U : List Bool) (k : Nat) : (goPass both cnts es U k).length = U.length := by
  induction k with
  | zero => rfl
  | succ k ih => rw [goPass_succ, goStep_length, ih]
theorem goN_length (both : Bool) (cnts : List Bool) (es : List (Int × Int)) (U : List Bool) (r : Nat) : (goN both cnts es U r).length = U.length := by
  induction r with
  | zero => rfl
  | succ k ih => rw [goN_succ, goPass_length, ih]
theorem goStep_is {both : Bool} {cnts : List Bool} {es : List (Int × Int)} {U : List Bool} {i t h : Nat} (hi : i < es.length) (ht : es[i].1 = t) (hh : es[i].2 = h) :
    goStep both cnts es U i = if cnts.getD i false && (U.getD t false || both && U.getD h false) then (U.set h true).set t ((U.set h true).getD t false || both) else U := by
  unfold goStep; simp [hi, ht, hh]

set_option maxHeartbeats 1000000 in
theorem go_any (n f : Nat) (A C : Option Addr) (cap ccap : Nat) (es : List (Int × Int)) (both : Bool) (cnts : List Bool) (w : World) (B : Nat) (hB : B ≤ w.heap.size) (hes : Cells w B A (edgeCells es)) (hcs : Cells w B C (boolCells cnts))
    (hin : InN n es) (hn : n ≤ 64) (hlen : es.length ≤ 128) (hf : f < n) (hc : cnts.length = es.length) :
    Calls Tryd.prog 28 #[.agg #[.int .i64 n, .slice A es.length cap], .int .i64 f, .bool both, .slice C es.length ccap] w (OwnPost 4 (boolCells (goAll both cnts es n f)) w) := by
  have hmk := fun W => run_make1 elemBool rfl n (by omega) (by omega) W
  have Hin := Lib.hid hin; clear hin
  have Hc := Lib.hid hc; clear hc
  have hf' : (f : Int) < n := by omega
  go_enter Tryd.func28, Tryd.ntmps28
  go_wp2_with fail
  have s0 : Blk ((w.alloc (.cells #[.int .i64 n, .slice A es.length cap] 24)).alloc (.cells ((Array.replicate n (.bool false)).setIfInBounds f (.bool true)) 4)) (w.heap.size + 1) 4 (boolCells (goInit n f)).toArray := by
    have := Blk.new (w.alloc (.cells #[.int .i64 n, .slice A es.length cap] 24)) 4 ((Array.replicate n (.bool false)).setIfInBounds f (.bool true))
    rw [World.size_alloc] at this
    have e : ((Array.replicate n (Value.bool false)).setIfInBounds f (.bool true)) = (boolCells (goInit n f)).toArray := by
      simp [boolCells, goInit, List.map_set, ← List.toArray_replicate]
    rw [← e]; exact this
  have x0 : Blk ((w.alloc (.cells #[.int .i64 n, .slice A es.length cap] 24)).alloc (.cells ((Array.replicate n (.bool false)).setIfInBounds f (.bool true)) 4)) w.heap.size 24 #[.int .i64 n, .slice A es.length cap] := (Blk.new _ _ _).alloc _
  have hbw := ((Below.refl w.heap.size w).alloc (Nat.le_refl _) (.cells #[.int .i64 n, .slice A es.length cap] 24)).alloc (by simp) (.cells ((Array.replicate n (.bool false)).setIfInBounds f (.bool true)) 4)
  generalize ((w.alloc (.cells #[.int .i64 n, .slice A es.length cap] 24)).alloc (.cells ((Array.replicate n (.bool false)).setIfInBounds f (.bool true)) 4)) = w1 at *
  go_loopg [10] n (fun k s10 wr => ∃ r : Nat, s10 = .int .i64 r ∧ r ≤ n ∧ k = n - r ∧ Below w.heap.size w wr ∧ Blk wr w.heap.size 24 #[.int .i64 n, .slice A es.length cap] ∧ Blk wr (w.heap.size + 1) 4 (boolCells (goN both cnts es (goInit n f) r)).toArray)
  case atStart => exact ⟨0, rfl, Nat.zero_le _, rfl, hbw, x0, s0⟩
  case round =>
    obtain ⟨r, rfl, hr, hk, hb, hx, hs⟩ := hrel
    have Hk := Lib.hid hk; clear hk
    have b0 := hx.cell 0
    have b1 := hx.cell 1
    simp only [List.getElem?_toArray, List.getElem?_cons_zero, List.getElem?_cons_succ] at b0 b1
    have hUl := goN_length both cnts es (goInit n f) r
    rw [show (goInit n f).length = n by simp [goInit]] at hUl
    by_cases hrn : r < n
    · go_wp2_with fail
      have NS := Lib.hid (goN_succ both cnts es (goInit n f) r)
      generalize goN both cnts es (goInit n f) r = U0 at *
      have HUl := Lib.hid hUl; clear hUl
      obtain ⟨wo, rfl⟩ : ∃ wo : World, wo = wr := ⟨_, rfl⟩
      go_loopg [11] es.length (fun k s11 wr => ∃ i : Nat, s11 = .int .i64 i ∧ i ≤ es.length ∧ k = es.length - i ∧ Below w.heap.size w wr ∧ Blk wr w.heap.size 24 #[.int .i64 n, .slice A es.length cap] ∧ Blk wr (w.heap.size + 1) 4 (boolCells (goPass both cnts es U0 i)).toArray)
      case atStart => exact ⟨0, rfl, Nat.zero_le _, rfl, hb, hx, hs⟩
      case round =>
        obtain ⟨i, rfl, hi, hk2, hb2, hx2, hs2⟩ := hrel
        have Hk2 := Lib.hid hk2; clear hk2
        clear b0 b1 hx hs
        have b0 := hx2.cell 0
        have b1 := hx2.cell 1
        simp only [List.getElem?_toArray, List.getElem?_cons_zero, List.getElem?_cons_succ] at b0 b1
        have l3 := hx2.lt
        have l4 := hs2.lt
        by_cases hlt : i < es.length
        · obtain ⟨b, off, rfl, hbb, hcc⟩ := hes.edges (by omega)
          obtain ⟨c0, c1⟩ := hcc i hlt
          obtain ⟨bc, offc, rfl, hbc, hcc2⟩ := hcs.bools (by have := Hc.out; omega)
          have d0 := hcc2 i (by have := Hc.out; omega)
          clear hcc hcc2
          have c0' := (hb2.cell (p := ⟨b, off + i * 2, none⟩) (Nat.lt_of_lt_of_le hbb hB)).trans c0
          have c1' := (hb2.cell (p := ⟨b, off + i * 2 + 1, none⟩) (Nat.lt_of_lt_of_le hbb hB)).trans c1
          have d0' := (hb2.cell (p := ⟨bc, offc + i, none⟩) (Nat.lt_of_lt_of_le hbc hB)).trans d0
          have l5 : bc < wr.heap.size := by have := hb2.size; omega
          clear c0 c1 d0
          obtain ⟨t, u, e, ht, hu⟩ := Hin.out.at_ hlt
          rw [e] at c0' c1'
          have PS := Lib.hid (goPass_succ both cnts es U0 i)
          have hVl := goPass_length both cnts es U0 i
          have GS := Lib.hid (goStep_is (both := both) (cnts := cnts) (U := goPass both cnts es U0 i) (t := t) (h := u) hlt (by rw [e]) (by rw [e]))
          clear e
          have ht' : (t : Int) < n := by omega
          have hu' : (u : Int) < n := by omega
          generalize goPass both cnts es U0 i = V at *
          rw [HUl.out] at hVl
          have ct := hs2.bool (k := t) (by omega)
          have cu := hs2.bool (k := u) (by omega)
          have ft := hs2.frozen t
          have fu := hs2.frozen u
          have HVl := Lib.hid hVl; clear hVl
          generalize hc : cnts.getD i false = c at *
          generalize ha : V.getD t false = a at *
          generalize hd : V.getD u false = d at *
          clear hc ha hd
          go_upto_region 10 with fail
          go_cut [57] (fun s57 wc => s57 = .bool (c && (a || both && d)) ∧ wc = wr.alloc (.cells #[.int .i64 t, .int .i64 u] 40))
          case first =>
            cases c <;> cases a <;> cases both <;> cases d <;> (go_wp2_with fail) <;> go_meet <;> exact ⟨rfl, rfl⟩
          obtain ⟨rfl, rfl⟩ := hcut
          generalize hq : (c && (a || both && d)) = q at *
          clear hq
          cases q with
          | false =>
            go_wp2_with fail
            go_roundg (es.length - (i + 1))
            case measure => rw [Hk2.out]; omega
            case rel => exact ⟨i + 1, by go_num, by omega, rfl, hb2.alloc (by omega) _, hx2.alloc _, by rw [PS.out, GS.out]; exact hs2.alloc _⟩
          | true =>
            have S1 := hs2.setBool u true
            have y0 := S1.bool (k := t) (by simp [HVl.out]; exact ht)
            have y1 := S1.frozen t
            generalize hy : (V.set u true).getD t false = y at *
            clear hy
            cases y <;> go_wp2_with fail
            · go_region
              go_wp2_with fail
              clear ct cu ft fu y0 y1 c0' c1' d0'
              go_roundg (es.length - (i + 1))
              case measure => rw [Hk2.out]; omega
              case rel => 
                refine ⟨i + 1, by go_num, by omega, rfl, (((hb2.setCell (p := ⟨w.heap.size + 1, u, none⟩) (by simp) _).setCell (p := ⟨w.heap.size + 1, t, none⟩) (by simp) _).alloc (by simp [World.setCell]; omega) _).drew, (((hx2.far (p := ⟨w.heap.size + 1, u, none⟩) (by simp) _).far (p := ⟨w.heap.size + 1, t, none⟩) (by simp) _).alloc _).drew, ?_⟩
                rw [PS.out, GS.out]
                exact ((S1.setBool t _).alloc _).drew
            · go_region
              go_wp2_with fail
              clear ct cu ft fu y0 y1 c0' c1' d0'
              go_roundg (es.length - (i + 1))
              case measure => rw [Hk2.out]; omega
              case rel => 
                refine ⟨i + 1, by go_num, by omega, rfl, (((hb2.setCell (p := ⟨w.heap.size + 1, u, none⟩) (by simp) _).setCell (p := ⟨w.heap.size + 1, t, none⟩) (by simp) _).alloc (by simp [World.setCell]; omega) _).drew, (((hx2.far (p := ⟨w.heap.size + 1, u, none⟩) (by simp) _).far (p := ⟨w.heap.size + 1, t, none⟩) (by simp) _).alloc _).drew, ?_⟩
                rw [PS.out, GS.out]
                exact ((S1.setBool t _).alloc _).drew
        · have hie : i = es.length := by omega
          subst hie
          go_wp2_with fail
          go_roundg (n - (r + 1))
          case measure => rw [Hk.out]; omega
          case rel => exact ⟨r + 1, by go_num, by omega, rfl, hb2, hx2, by rw [NS.out]; exact hs2⟩
    · have hrn' : r = n := by omega
      subst hrn'
      go_wp2_with fail
      go_ret
      refine ⟨_, rfl, hb, ?_⟩
      rw [boolCells_length, show (goAll both cnts es r f).length = r from hUl]
      exact own_of_blk hs (by omega) (by rw [boolCells_length]; exact hUl) (by omega)
end Go.Proofs.YtnjikhhegebkiaaDoor
