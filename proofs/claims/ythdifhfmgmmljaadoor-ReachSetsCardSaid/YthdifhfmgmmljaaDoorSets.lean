/-
  Law ReachSets: walked. Condition: the table lies in its variable. Written by an AI agent.
-/
import Derived.Test.YthdifhfmgmmljaaDoorBits
import Derived.Deep.WholeRow
namespace Go.Proofs.YthdifhfmgmmljaaDoor
open Go.RowKit

theorem ofStep_bit (s : Nat) (x : Int) (y : Nat) (hy : y < 64) : (ofStep s x).testBit y = (s.testBit y || decide (x = y)) := by
  unfold ofStep
  split
  · rw [Nat.testBit_or, Nat.shiftLeft_eq, Nat.one_mul, Nat.testBit_two_pow]
    congr 1
    rw [decide_eq_decide]; omega
  · rw [decide_eq_false (by omega)]; simp
theorem ofFold_bit (l : List Int) (s : Nat) (y : Nat) (hy : y < 64) : (l.foldl ofStep s).testBit y = (s.testBit y || l.any fun x => decide (x = y)) := by
  induction l generalizing s with
  | nil => simp
  | cons x r ih => rw [List.foldl_cons, ih, ofStep_bit s x y hy, List.any_cons, Bool.or_assoc]
theorem ofSet_bit (l : List Int) (y : Nat) (hy : y < 64) : (ofSet l).testBit y = l.any fun x => decide (x = y) := by
  unfold ofSet; rw [ofFold_bit l 0 y hy]; simp
theorem ofSet_bits (s : Nat) (hs : s < 18446744073709551616) : ofSet (bitsL s 64) = s := by
  refine Nat.eq_of_testBit_eq fun y => ?_
  by_cases hy : y < 64
  · rw [ofSet_bit _ y hy, Bool.eq_iff_iff, List.any_eq_true]
    simp only [decide_eq_true_eq]
    constructor
    · rintro ⟨x, hx, rfl⟩
      obtain ⟨k, hk, he⟩ := List.mem_map.1 hx
      rw [List.mem_filter] at hk
      have : k = y := by have : (k : Int) = y := he; omega
      exact this ▸ hk.2
    · intro h
      exact ⟨y, List.mem_map.2 ⟨y, List.mem_filter.2 ⟨List.mem_range.2 hy, h⟩, rfl⟩, rfl⟩
  · rw [Nat.testBit_lt_two_pow (Nat.lt_of_lt_of_le (ofSet_lt _) (Nat.pow_le_pow_right (n := 2) (i := 64) (by omega) (by omega))), Nat.testBit_lt_two_pow (Nat.lt_of_lt_of_le hs (Nat.pow_le_pow_right (n := 2) (i := 64) (by omega) (by omega)))]

/-- what the law's array holds -/
def isL (s : Nat) : List Bool := (List.range 64).map s.testBit
theorem isL_length (s : Nat) : (isL s).length = 64 := by simp [isL]
theorem isL_at (s k : Nat) (hk : k < 64) : (isL s).getD k false = s.testBit k := by simp [isL, hk]
theorem isL_step (s : Nat) (x : Int) (h0 : 0 ≤ x) (h1 : x < 64) : (isL s).set x.toNat true = isL (ofStep s x) := by
  apply List.ext_getElem (by simp [isL])
  intro i hi1 hi2
  have hi : i < 64 := by simpa [isL] using hi1
  rw [List.getElem_set]
  simp only [isL, List.getElem_map, List.getElem_range]
  rw [ofStep_bit s x i hi]
  split
  · rw [decide_eq_true (by omega)]; simp
  · rw [decide_eq_false (by omega)]; simp
theorem isL_skip (s : Nat) (x : Int) (h : ¬ (0 ≤ x ∧ x < 64)) : ofStep s x = s := if_neg h

theorem getD_of_get {xs ys : Array Value} {t : Nat} (h : xs[t]? = ys[t]?) : xs.getD t undef = ys.getD t undef := by
  simp only [Array.getD_eq_getD_getElem?, h]

theorem put_size (a : Act) (d : Option Tmp) (v : Value) : (a.put d v).tmps.size = a.tmps.size := by cases d <;> simp [Act.put]
/-- what a slot holds behind a put -/
theorem put_eval (a : Act) (d t : Tmp) (v u : Value) (hd : d ≠ t) (h : a.eval (.tmp t) = u) : (a.put (some d) v).eval (.tmp t) = u := by
  rw [← h]
  show (a.tmps.setIfInBounds d v).getD t undef = a.tmps.getD t undef
  exact getD_of_get (Array.getElem?_setIfInBounds_ne hd)
theorem put_eval_same (a : Act) (d : Tmp) (v : Value) (hd : d < a.tmps.size) : (a.put (some d) v).eval (.tmp d) = v := by
  show (a.tmps.setIfInBounds d v).getD d undef = v
  simp [Array.getD_eq_getD_getElem?, hd]
/-- the law's array, made -/
def F64 : Array Value := (boolCells (List.replicate 64 false)).toArray
theorem F64_isL : F64 = (boolCells (isL 0)).toArray := by
  have : isL 0 = List.replicate 64 false := by decide +kernel
  rw [this]; rfl
theorem wp_array {id : Nat} {o0 o1 o2 : Oper} {d0 d1 : Tmp} {Q : Exit → Act → World → Prop} {a : Act} {w : World}
    (g0 : o0.guard = none) (p0 : o0.op = .build 27 #[]) (q0 : o0.dst = some d0) (g1 : o1.guard = none) (p1 : o1.op = .alloc 27) (q1 : o1.dst = some d1)
    (g2 : o2.guard = none) (p2 : o2.op = .store 27 (.tmp d1) (.tmp d0)) (q2 : o2.dst = none) (hd : d1 ≠ d0) (h0 : d0 < a.tmps.size) (h1 : d1 < a.tmps.size)
    (hK : Q .normal ((a.put (some d0) (.agg F64)).put (some d1) (.pointer (some ⟨w.heap.size, 0, none⟩))) (w.alloc (.cells F64 27))) : (Code.region id #[o0, o1, o2] false).wp Tryd.prog Q a w := by
  refine wp_region_lit (l := [o0, o1, o2]) (wpList_build g0 27 #[] p0 (by kernel_rfl) ?_)
  rw [show (.agg ((Tryd.prog.built 27 ((#[] : Array (Nat × Operand)).map fun (i, x) => (i, a.eval x)).toList).getD #[]) : Value) = .agg F64 by kernel_rfl, q0]
  refine wpList_plain g1 fun K hK' => ?_
  have hz := (zero_of_info (P := Tryd.prog) (t := 27) (v := .agg F64) (n := 64) (by kernel_rfl)).1
  have hrun : (execOp (a.put (some d0) (.agg F64)).eval o1).run Tryd.prog w = .ok (.value (.pointer (some ⟨w.heap.size, 0, none⟩))) (w.alloc (.cells F64 27)) := by
    unfold execOp
    simp [p1, Instr.alloc, hz, newVar, Value.cells, go_sem]
  unfold Oper.wp
  rw [hrun]
  refine hK' _ _ ?_
  rw [q1]
  refine wpList_plain g2 fun K hK' => ?_
  refine wp_store_row 27 _ _ p2 w.heap.size F64 (put_eval_same _ _ _ (by rw [put_size]; exact h1)) (put_eval _ _ _ _ _ hd (put_eval_same _ _ _ h0)) 27 F64 (heap_alloc_new w _) (by kernel_rfl) rfl (by decide +kernel) (hK' _ _ ?_)
  rw [World.setRow_alloc_new, q2]
  exact hK

theorem setHas_lt (S : Nat) {y : Nat} (h : y < 64) : setHas S (y : Int) = S.testBit y := by
  show (decide (0 ≤ (y : Int)) && decide ((y : Int) < 64) && S.testBit y) = S.testBit y
  rw [decide_eq_true (show 0 ≤ (y : Int) by omega), decide_eq_true (show (y : Int) < 64 by omega)]
  rfl
theorem setHas_out (S : Nat) {x : Int} (h : ¬ (0 ≤ x ∧ x < 64)) : setHas S x = false := by
  show (decide (0 ≤ x) && decide (x < 64) && S.testBit x.toNat) = false
  by_cases h0 : 0 ≤ x
  · rw [decide_eq_false (show ¬ x < 64 by omega)]; simp
  · rw [decide_eq_false h0]; simp
theorem and63 {x : Nat} (h : x < 64) : bits .and .i64 (x : Int) 63 = (x : Int) := by
  have hw : IntKind.i64.wrap ((x : Nat) : Int) = x := by rw [IntKind.wrap_i64]; omega
  have h1 : (BitVec.ofInt 64 (x : Int)).toNat = x := by
    rw [BitVec.ofInt_natCast, BitVec.toNat_ofNat]; exact Nat.mod_eq_of_lt (by omega)
  have h2 : (BitVec.ofInt 64 (63 : Int)).toNat = 2 ^ 6 - 1 := by decide
  show IntKind.i64.wrap ((BitVec.ofInt 64 (x : Int) &&& BitVec.ofInt 64 (63 : Int)).toNat : Int) = _
  rw [BitVec.toNat_and, h1, h2, Nat.and_two_pow_sub_one_eq_mod, Nat.mod_eq_of_lt h, hw]
theorem run_index64 {cs : Array Value} {y : Nat} {b : Bool} {wx : World} (h : y < 64) (hc : cs[y]? = some (.bool b)) : (Instr.index 27 (.agg cs) (.int .i64 y)).run Tryd.prog wx = .ok (.bool b) wx := by
  have h2 : (sizeOf 4).run Tryd.prog wx = .ok 1 wx := by kernel_rfl
  simp [Instr.index, asIntOf, run_underlying Tryd.underlying27, part, h2, hc]
  intro h4; omega

set_option maxHeartbeats 2000000 in
theorem sets_any (A B : Option Addr) (ca cb : Nat) (l ask : List Int) (w : World) (hl : Cells w w.heap.size A (intCells l)) (ha : Cells w w.heap.size B (intCells ask)) (hT : Tab w) (hB : 0 < w.heap.size) :
    Calls Tryd.prog 3 #[.slice A l.length ca, .slice B ask.length cb] w (fun e w' => e = .returned (.bool true) ∧ Below w.heap.size w w') := by
  go_enter Tryd.func3, Tryd.ntmps3
  go_wp2_with fail
  refine (speaks_any _).mono ?_
  rintro e w1 ⟨rfl, hb1⟩
  by_cases hl1 : 200 < l.length
  · go_wp2_with fail
    go_ret
    exact ⟨rfl, hb1⟩
  by_cases ha1 : 100 < ask.length
  · go_wp2_with fail
    go_ret
    exact ⟨rfl, hb1⟩
  have hl2 := hl.below hb1
  have ha2 := ha.below hb1
  have hT1 := hT.below hb1 hB
  have hs1 := hb1.size
  go_wp2_with fail
  refine (of_any A ca l w1 (hl2.more (by omega)) (by omega)).mono ?_
  rintro e w2 ⟨rfl, rfl⟩
  have hS := ofSet_lt l
  go_upto_region 6 with fail
  refine wp_array rfl rfl rfl rfl rfl rfl rfl rfl rfl (by decide) (by simp) (by simp) ?_
  have hbl : Blk (w1.alloc (.cells F64 27)) w1.heap.size 27 (boolCells (isL (ofSet (l.take 0)))).toArray := by
    have := Blk.new w1 27 F64
    rw [F64_isL] at this
    exact this
  have hb2 := hb1.alloc hs1 (.cells F64 27)
  generalize w1.alloc (.cells F64 27) = w2 at *
  generalize w1.heap.size = g at *
  clear hb1 hT1
  have hg : w.heap.size ≤ g := hs1
  go_wp2_with fail
  go_loopg [29] l.length (fun k s29 wr => ∃ i : Nat, s29 = .int .i64 i ∧ i ≤ l.length ∧ k = l.length - i ∧ Below w.heap.size w wr ∧ Blk wr g 27 (boolCells (isL (ofSet (l.take i)))).toArray)
  case atStart => exact ⟨0, rfl, Nat.zero_le _, rfl, hb2, hbl⟩
  case round =>
    clear hb2 hbl
    obtain ⟨i, rfl, hi, hk, hb, hbl⟩ := hrel
    have Hk := Lib.hid hk; clear hk
    by_cases hlt : i < l.length
    · have hlr := hl.below hb
      obtain ⟨b, off, rfl, hbb, hc⟩ := hlr.ints (by omega)
      have c0 := hc i hlt
      clear hc hl2
      have E := Lib.hid (show ofSet (l.take (i + 1)) = ofStep (ofSet (l.take i)) l[i] by unfold ofSet; rw [List.take_succ_eq_append_getElem hlt, List.foldl_append]; rfl)
      generalize ofSet (l.take i) = s at *
      generalize l[i] = x at *
      by_cases h0 : 0 ≤ x
      · by_cases h1 : x < 64
        · obtain ⟨x, rfl⟩ := Int.eq_ofNat_of_zero_le h0
          have h1' : x < 64 := by omega
          have f0 := hbl.frozen x
          have d0 := hbl.bool (k := x) (by rw [isL_length]; exact h1')
          have S1 := hbl.setBool x true
          rw [show (isL s).set x true = isL (ofStep s x) from isL_step s x h0 h1] at S1
          have hb2 := hb.setCell (p := ⟨g, x, none⟩) (by simp; omega) (.bool true)
          have hlt' : (i : Int) < l.length := by omega
          go_wp2_with fail
          go_roundg (l.length - (i + 1))
          case measure => rw [Hk.out]; omega
          case rel => exact ⟨i + 1, by go_num, by omega, rfl, hb2, by rw [E.out]; exact S1⟩
        · go_wp2_with fail
          go_roundg (l.length - (i + 1))
          case measure => rw [Hk.out]; omega
          case rel => exact ⟨i + 1, by go_num, by omega, rfl, hb, by rw [E.out, isL_skip s x (by omega)]; exact hbl⟩
      · go_wp2_with fail
        go_roundg (l.length - (i + 1))
        case measure => rw [Hk.out]; omega
        case rel => exact ⟨i + 1, by go_num, by omega, rfl, hb, by rw [E.out, isL_skip s x (by omega)]; exact hbl⟩
    · have hie : i = l.length := by omega
      subst hie
      rw [List.take_length] at hbl
      have hgl := hbl.lt
      have hTr := hT.below hb hB
      have har := ha.below hb
      go_upto_region 14 with fail
      have hb3 := hb.alloc hb.size (.cells #[] 3)
      have hbl3 := hbl.alloc (.cells #[] 3)
      have hT3 : Tab (wr.alloc (.cells #[] 3)) := hT.below hb3 hB
      have hcs : (boolCells (isL (ofSet l))).toArray.size = 64 := by simp [boolCells, isL]
      have hown3 : (wr.alloc (.cells #[] 3)).ownsRow wr.heap.size 3 1 (.slice (some ⟨wr.heap.size, 0, none⟩) 0 0) 0 [] :=
        blk_own (R := #[]) (Nat.le_refl _) (by simpa using Blk.new wr 3 #[]) (by simp) (Nat.le_refl _) (by unfold maxLen; omega) (by simp)
      have hs3 : wr.heap.size ≤ (wr.alloc (.cells #[] 3)).heap.size := by simp
      have HcsL := Lib.hid (fun (y : Nat) (hy : y < 64) => (show (boolCells (isL (ofSet l))).toArray[y]? = some (.bool ((ofSet l).testBit y)) by
        have := hbl.bool (k := y) (by rw [isL_length]; exact hy)
        rw [hbl.cell y] at this
        rw [this, isL_at _ _ hy]))
      have Hdl := Lib.hid (fun (wv : World) (h : Blk wv g 27 (boolCells (isL (ofSet l))).toArray) (y : Nat) (hy : y < 64) => (show wv.cell? ⟨g, y, none⟩ = some (.bool ((ofSet l).testBit y)) from (h.cell y).trans (HcsL.out y hy)))
      clear hbl hb hl2 ha2 hTr har
      refine wp_region_lit (l := [_, _]) (wpList_plain rfl fun K hK => wp_load_row 27 _ rfl g rfl 27 _ (0, 0) _ hbl3 Tryd.underlying27 rfl (by rw [hcs]; kernel_rfl) (hK _ _ ?_))
      clear K hK
      generalize (boolCells (isL (ofSet l))).toArray = cs at *
      generalize wr.alloc (.cells #[] 3) = w3 at *
      generalize wr.heap.size = g3 at *
      generalize ofSet l = S at *
      go_wp2_with fail
      go_loopg [9, 44] 64 (fun k s9 s44 wr => ∃ y : Nat, s44 = .int .i64 y ∧ y ≤ 64 ∧ k = 64 - y ∧ Below w.heap.size w wr ∧ Blk wr g 27 cs ∧ g3 ≤ wr.heap.size ∧ wr.ownsRow g3 3 1 s9 (bitsL S y).length (intCells (bitsL S y)))
      case atStart => exact ⟨0, rfl, Nat.zero_le _, rfl, hb3, hbl3, hs3, hown3⟩
      case round =>
        clear hb3 hbl3 hown3 hs3 hT3
        obtain ⟨y, rfl, hy, hk, hb, hbl, hs3, hown⟩ := hrel
        have Hk2 := Lib.hid hk; clear hk
        have hlen := bitsL_length S y
        by_cases hy64 : y < 64
        · have hy64' : (y : Int) < 64 := by omega
          have hc := HcsL.out y hy64
          have HE := Lib.hid (setHas_lt S hy64)
          have HS := Lib.hid (bitsL_succ S y)
          generalize S.testBit y = bb at *
          have hidx := fun wx => run_index64 (wx := wx) hy64 hc
          have eb : (bb != bb) = false := by cases bb <;> rfl
          go_wp2_with fail
          refine (has_is wr HE.out hS).mono ?_
          rintro e w' ⟨rfl, rfl⟩
          cases bb with
          | true =>
            go_wp2_with (at_builtin; refine wp_app elemInt rfl _ _ rfl g3 u9 _ _ rfl wr.heap.size [.int .i64 (y : Int)] rfl rfl hown rfl rfl ?h2 ?h3 ?h4 ?_)
            case h2 => omega
            case h3 => omega
            case h4 => omega
            intro v' w' hown' hg' _
            have hb' := below_app hb hown hg' hb.size (by omega)
            have hbl' := hbl.grown hg' (fun e => by have := (hown.lt g e.symm).1; omega)
            have hs' := hg'.size
            clear hown hg' hb hbl
            go_wp2_with fail
            go_roundg (64 - (y + 1))
            case measure => rw [Hk2.out]; omega
            case rel => exact ⟨y + 1, by go_num, by omega, rfl, hb', hbl', by omega, by rw [HS.out]; simpa [intCells] using hown'⟩
          | false =>
            go_wp2_with fail
            go_roundg (64 - (y + 1))
            case measure => rw [Hk2.out]; omega
            case rel => exact ⟨y + 1, by go_num, by omega, rfl, hb, hbl, hs3, by rw [HS.out]; simpa [intCells] using hown⟩
        · have hy0 : y = 64 := by omega
          subst hy0
          have hTr := hT.below hb hB
          have har := ha.below hb
          obtain ⟨A9, c9, rfl⟩ := own_slice hown
          have HC9 := Lib.hid (Cells.of_own hown)
          have Hd := Lib.hid (Hdl.out wr hbl)
          clear hown hbl HcsL Hdl
          obtain ⟨w5, rfl⟩ : ∃ x, x = wr := ⟨_, rfl⟩
          have hd0 := Hd.out
          go_wp2_with fail
          go_loopg [61] ask.length (fun k s61 wr => ∃ i : Nat, s61 = .int .i64 i ∧ i ≤ ask.length ∧ k = ask.length - i ∧ wr = w5)
          case atStart => exact ⟨0, rfl, Nat.zero_le _, rfl, rfl⟩
          case round =>
            clear hd0
            obtain ⟨i, rfl, hi, hk, hwr⟩ := hrel
            have Hk3 := Lib.hid hk; clear hk
            by_cases hlt2 : i < ask.length
            · obtain ⟨b, off, rfl, hbb, hc⟩ := har.ints (by omega)
              have c0 : wr.cell? ⟨b, off + i, none⟩ = some (.int .i64 ask[i]) := by rw [hwr]; exact hc i hlt2
              clear hc
              generalize ask[i] = x at *
              by_cases h0 : 0 ≤ x
              · by_cases h1 : x < 64
                · obtain ⟨x, rfl⟩ := Int.eq_ofNat_of_zero_le h0
                  have h1' : x < 64 := by omega
                  have d0 : wr.cell? ⟨g, x, none⟩ = some (.bool (S.testBit x)) := by rw [hwr]; exact Hd.out x h1'
                  have HE := Lib.hid (setHas_lt S h1')
                  have hm := and63 h1'
                  have Hwr := Lib.hid hwr; clear hwr
                  generalize S.testBit x = bb at *
                  have eb : (bb != bb) = false := by cases bb <;> rfl
                  go_wp2_with fail
                  refine (has_is wr HE.out hS).mono ?_
                  rintro e w' ⟨rfl, rfl⟩
                  go_wp2_with fail
                  go_roundg (ask.length - (i + 1))
                  case measure => rw [Hk3.out]; omega
                  case rel => exact ⟨i + 1, by go_num, by omega, rfl, Hwr.out⟩
                · have HE := Lib.hid (setHas_out S (x := x) (by omega))
                  have Hwr := Lib.hid hwr; clear hwr
                  go_wp2_with fail
                  refine (has_is wr HE.out hS).mono ?_
                  rintro e w' ⟨rfl, rfl⟩
                  go_wp2_with fail
                  go_roundg (ask.length - (i + 1))
                  case measure => rw [Hk3.out]; omega
                  case rel => exact ⟨i + 1, by go_num, by omega, rfl, Hwr.out⟩
              · have HE := Lib.hid (setHas_out S (x := x) (by omega))
                have Hwr := Lib.hid hwr; clear hwr
                go_wp2_with fail
                refine (has_is wr HE.out hS).mono ?_
                rintro e w' ⟨rfl, rfl⟩
                go_wp2_with fail
                go_roundg (ask.length - (i + 1))
                case measure => rw [Hk3.out]; omega
                case rel => exact ⟨i + 1, by go_num, by omega, rfl, Hwr.out⟩
            · subst hwr
              go_wp2_with fail
              refine (all_any S hS wr hTr (by have := hb.size; omega)).mono ?_
              rintro e w6 ⟨v6, rfl, hb6, ho6⟩
              obtain ⟨A6, c6, rfl⟩ := own_slice ho6
              have hC6 := Cells.of_own ho6
              have hC9 := HC9.out.below hb6
              have hl64 := bitsL_length S 64
              go_wp2_with fail
              refine (same_any A6 A9 c6 c9 (bitsL S 64) (bitsL S 64) w6 w6.heap.size hC6 (hC9.more hb6.size) (by omega) (by omega)).mono ?_
              rintro e w7 ⟨rfl, m, rfl⟩
              rw [decide_eq_true rfl]
              have hb7 := (hb.trans (hb6.mono hb.size))
              have hTr7 := hT.below hb7 hB
              go_wp2_with fail
              refine (all_any S hS _ (by exact hTr7) (by have := hb7.size; simp; omega)).mono ?_
              rintro e w8 ⟨v8, rfl, hb8, ho8⟩
              obtain ⟨A8, c8, rfl⟩ := own_slice ho8
              go_wp2_with fail
              refine (of_any A8 c8 (bitsL S 64) w8 (Cells.of_own ho8) (by omega)).mono ?_
              rintro e w9 ⟨rfl, rfl⟩
              rw [ofSet_bits S hS]
              have eS : ((S : Int) == (S : Int)) = true := by simp
              go_wp2_with fail
              go_ret
              exact ⟨rfl, (below_drewN hb7 m).trans (hb8.mono (by have := hb7.size; simpa using this))⟩
end Go.Proofs.YthdifhfmgmmljaaDoor
