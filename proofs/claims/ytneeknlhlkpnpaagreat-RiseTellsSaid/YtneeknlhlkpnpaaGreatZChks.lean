import Derived.Test.YtneeknlhlkpnpaaGreatZFit2
import Derived.Test.YtneeknlhlkpnpaaGreatZOrdm
import Derived.Test.YtneeknlhlkpnpaaGreatZVw
import Derived.Test.YtneeknlhlkpnpaaGreatZReg
import Derived.Test.YtneeknlhlkpnpaaGreatZAng0
/-
 What graph.Check calls: small functions. Written by an AI agent.
-/
namespace Go.Proofs.YtneeknlhlkpnpaaGreat
open Go.RowKit
theorem pos1_any (x : Int) (w : World) : Calls Tryz.prog 132 #[.int .i64 x] w fun e w' => e = .returned (.bool (decide (x > 0))) ∧ w = w' := by
 go_enter Tryz.func132, Tryz.ntmps132
 go_wp2
 go_ret
 exact ⟨rfl, rfl⟩
theorem callFunc_pos (u : World) (args : Array Value) : (callFunc 132 args).run Tryz.prog u = .ok (.enter 132 args) u := by
 go_simp
def PosPost (l : List Int) (w : World) (e : Ending) (w' : World) : Prop :=
 ∃ r : Int, e = .returned (.int .i64 r) ∧ w = w' ∧ (r = -1 ∧ (∀ i, i < l.length → l.getD i 0 ≤ 0) ∨ ∃ k : Nat, r = k ∧ k < l.length ∧ l.getD k 0 > 0)
set_option maxHeartbeats 1000000 in
theorem idxPos_any (A : Option Addr) (cap : Nat) (l : List Int) (w : World) (hlen : l.length ≤ 1000) (h : Cells w w.heap.size A (intCells l)) :
  Calls Tryz.prog 108 #[.slice A l.length cap, .func (.func 132) #[] #[]] w (PosPost l w) := by
 have H := Lib.hid h
 have hcf := callFunc_pos
 clear h
 go_enter Tryz.func108, Tryz.ntmps108
 go_wp2_with fail
 go_loopg [8] l.length (fun k s8 wr => ∃ i : Nat, s8 = .int .i64 i ∧ i ≤ l.length ∧ k = l.length - i ∧ w = wr ∧ ∀ j, j < i → l.getD j 0 ≤ 0)
 case atStart => exact ⟨0, rfl, Nat.zero_le _, rfl, rfl, fun j hj => absurd hj (by omega)⟩
 case round =>
  obtain ⟨i, rfl, hi, hk, rfl, hf⟩ := hrel
  have Hk := Lib.hid hk
  have Hf := Lib.hid hf
  clear hk hf
  by_cases hlt : i < l.length
  ·have hlt' : (i : Int) < l.length := by omega
   obtain ⟨b, off, rfl, hb, hc⟩ := H.out.ints (by omega)
   have e0 := hc i hlt
   have HV := Lib.hid (show l.getD i 0 = l[i] by rw [List.getD_eq_getElem?_getD, List.getElem?_eq_getElem hlt]; rfl)
   clear hc
   obtain ⟨v, hv⟩ : ∃ v, v = l[i] := ⟨_, rfl⟩
   rw [← hv] at e0 HV
   clear hv
   go_wp2_with fail
   refine (pos1_any v w).mono ?_
   rintro e w' ⟨rfl, rfl⟩
   by_cases hp : v > 0
   ·rw [decide_eq_true hp]
    have HP := Lib.hid (show l.getD i 0 > 0 by rw [HV.out]; exact hp)
    clear hp
    go_wp2_with fail
    go_ret
    exact ⟨_, rfl, rfl, .inr ⟨i, rfl, hlt, HP.out⟩⟩
   ·rw [decide_eq_false hp]
    have HP := Lib.hid (show l.getD i 0 ≤ 0 by rw [HV.out]; omega)
    clear hp
    go_wp2_with fail
    go_roundg (l.length - (i + 1))
    case measure => rw [Hk.out]; omega
    case rel => exact ⟨i + 1, by go_num, by omega, rfl, rfl, fun j hj => by
     by_cases h : j = i
     ·rw [h]; exact HP.out
     ·exact Hf.out j (by omega)⟩
  ·have hlt' : ¬ (i : Int) < l.length := by omega
   go_wp2_with fail
   go_ret
   exact ⟨_, rfl, rfl, .inl ⟨rfl, fun j hj => Hf.out j (by omega)⟩⟩
theorem loop1_any (a b : Int) (w : World) : Calls Tryz.prog 93 #[.agg #[.int .i64 a, .int .i64 b]] w fun e w' => e = .returned (.bool (a == b)) ∧ Below w.heap.size w w' := by
 go_enter Tryz.func93, Tryz.ntmps93
 go_wp2_with fail
 go_ret
 exact ⟨rfl, (Below.refl _ _).alloc (Nat.le_refl _) _⟩
theorem callFunc_loop (u : World) (args : Array Value) : (callFunc 93 args).run Tryz.prog u = .ok (.enter 93 args) u := by
 go_simp
def EdgePost (es : List (Int × Int)) (e0 : Int × Int) (k : Nat) (w : World) (e : Ending) (w' : World) : Prop :=
 ∃ r : Int, e = .returned (.int .i64 r) ∧ Below w.heap.size w w' ∧ (r = -1 ∧ (∀ j, j < k → es.getD j (0, 0) ≠ e0) ∨ ∃ j : Nat, r = j ∧ j < k ∧ es.getD j (0, 0) = e0)
set_option maxHeartbeats 1000000 in
theorem indexE_any (A : Option Addr) (cap : Nat) (es : List (Int × Int)) (a b : Int) (k : Nat) (w : World) (hk : k ≤ es.length) (hlen : es.length ≤ 1000) (hes : Cells w w.heap.size A (edgeCells es)) :
  Calls Tryz.prog 130 #[.slice A k cap, .agg #[.int .i64 a, .int .i64 b]] w (EdgePost es (a, b) k w) := by
 have H := Lib.hid hes
 have HK := Lib.hid hk
 clear hes hk
 have HB1 := Lib.hid (Blk.new w 66 #[.int .i64 a, .int .i64 b])
 have HB := Lib.hid ((Below.refl w.heap.size w).alloc (Nat.le_refl _) (.cells #[.int .i64 a, .int .i64 b] 66))
 go_enter Tryz.func130, Tryz.ntmps130
 go_upto_region 1 with fail
 obtain ⟨g, hg⟩ : ∃ g, g = w.heap.size := ⟨_, rfl⟩
 rw [← hg] at HB1
 rw [← hg]
 generalize w.alloc (.cells #[.int .i64 a, .int .i64 b] 66) = w1 at *
 clear hg
 go_wp2_with fail
 go_loopg [8] k (fun m s8 wr => ∃ i : Nat, s8 = .int .i64 i ∧ i ≤ k ∧ m = k - i ∧ Below w1.heap.size w1 wr ∧ ∀ j, j < i → es.getD j (0, 0) ≠ (a, b))
 case atStart => exact ⟨0, rfl, Nat.zero_le _, rfl, Below.refl _ _, fun j hj => absurd hj (by omega)⟩
 case round =>
  obtain ⟨i, rfl, hi, hm, hbw, hf⟩ := hrel
  have Hk := Lib.hid hm
  have Hf := Lib.hid hf
  have HW := Lib.hid hbw
  clear hm hf hbw
  have HBq := Lib.hid (HB.out.trans (HW.out.mono HB.out.size))
  by_cases hlt : i < k
  ·have hlt' : (i : Int) < k := by omega
   have hle : i < es.length := by have := HK.out; omega
   obtain ⟨be, oe, rfl, hbe, hce⟩ := H.out.edges (by omega)
   obtain ⟨c0, c1⟩ := hce i hle
   have d0 := (HBq.out.cell (p := ⟨be, oe + i * 2, none⟩) hbe).trans c0
   have d1 := (HBq.out.cell (p := ⟨be, oe + i * 2 + 1, none⟩) hbe).trans c1
   have hG := HB1.out.below HW.out HB1.out.lt
   have z0 := hG.cell 0
   have z1 := hG.cell 1
   have hgl := hG.lt
   have hbl : be < wr.heap.size := by have := HBq.out.size; omega
   simp only [List.getElem?_toArray, List.getElem?_cons_zero, List.getElem?_cons_succ] at z0 z1
   have HV := Lib.hid (show es.getD i (0, 0) = (es[i].1, es[i].2) by rw [List.getD_eq_getElem?_getD, List.getElem?_eq_getElem hle]; rfl)
   obtain ⟨u, hu⟩ : ∃ u, u = es[i].1 := ⟨_, rfl⟩
   obtain ⟨v, hv⟩ : ∃ v, v = es[i].2 := ⟨_, rfl⟩
   rw [← hu] at d0 HV
   rw [← hv] at d1 HV
   clear hce c0 c1 hu hv
   go_upto_region 4 with fail
   refine R3.wp_region_i wr.heap.size [[]] [0, 0, 0, 0, 0, 0]
    [([], .val (.agg #[.int .i64 a, .int .i64 b])), ([], .val (.slice (some ⟨be, oe, none⟩) k cap)), ([], .val (.int .i64 i)), ([1, 2], .val (.pointer (some ⟨be, oe + i * 2, none⟩))), ([3], .val (.agg #[.int .i64 u, .int .i64 v])), ([0, 4], .val (.bool (decide (a = u) && decide (b = v))))] [5] (by kernel_rfl) (by kernel_rfl) (fun us => ?_) ?_
   ·refine R3.pgo_pure _ rfl rfl (fun wv hw hu => ⟨.agg #[.int .i64 a, .int .i64 b], ?_, rfl⟩) ?_
    ·have tok := True.intro
     have z0 := (below_undrew (evo_nil (by kernel_rfl) hw)).cell (p := ⟨g, 0, none⟩) hgl |>.trans z0
     have z1 := (below_undrew (evo_nil (by kernel_rfl) hw)).cell (p := ⟨g, 1, none⟩) hgl |>.trans z1
     clear hw hu
     go_simp
    refine R3.pgo_pure _ rfl rfl (fun wv hw hu => ⟨.slice (some ⟨be, oe, none⟩) k cap, ?_, rfl⟩) ?_
    ·have tok := True.intro
     clear hw hu
     go_simp
    refine R3.pgo_pure _ rfl rfl (fun wv hw hu => ⟨.int .i64 i, ?_, rfl⟩) ?_
    ·have tok := True.intro
     clear hw hu
     go_simp
    refine R3.pgo_pure _ rfl rfl (fun wv hw hu => ⟨.pointer (some ⟨be, oe + i * 2, none⟩), ?_, rfl⟩) ?_
    ·have tok := True.intro
     have h1 : us 1 = .slice (some ⟨be, oe, none⟩) k cap := hu.1
     have h2 : us 2 = .int .i64 i := hu.2.1
     clear hw hu
     go_simp
    refine R3.pgo_pure _ rfl rfl (fun wv hw hu => ⟨.agg #[.int .i64 u, .int .i64 v], ?_, rfl⟩) ?_
    ·have tok := True.intro
     have h3 : us 3 = .pointer (some ⟨be, oe + i * 2, none⟩) := hu.1
     have d0 := (below_undrew (evo_nil (by kernel_rfl) hw)).cell (p := ⟨be, oe + i * 2, none⟩) hbl |>.trans d0
     have d1 := (below_undrew (evo_nil (by kernel_rfl) hw)).cell (p := ⟨be, oe + i * 2 + 1, none⟩) hbl |>.trans d1
     clear hw hu
     go_simp
    refine R3.pgo_pure _ rfl rfl (fun wv hw hu => ⟨.bool (decide (a = u) && decide (b = v)), ?_, rfl⟩) ?_
    ·have tok := True.intro
     have h0 : us 0 = .agg #[.int .i64 a, .int .i64 b] := hu.1
     have h4 : us 4 = .agg #[.int .i64 u, .int .i64 v] := hu.2.1
     clear hw hu
     go_simp
     by_cases h1 : a = u <;> by_cases h2 : b = v <;> simp [h1, h2]
    trivial
   ·intro us w5 hw hu
    have h5 : us 5 = .bool (decide (a = u) && decide (b = v)) := hu.1
    have HW5 := Lib.hid (HW.out.trans ((below_undrew (evo_nil (by kernel_rfl) hw)).mono HW.out.size))
    clear hw hu
    simp only [lexL]
    go_simp
    by_cases h1 : a = u
    ·by_cases h2 : b = v
     ·have HR := Lib.hid (show es.getD i (0, 0) = (a, b) by rw [HV.out, h1, h2])
      rw [decide_eq_true h1, decide_eq_true h2, Bool.and_true]
      clear h1 h2 h5
      go_wp2_with fail
      go_ret
      exact ⟨_, rfl, HB.out.trans (HW5.out.mono HB.out.size), .inr ⟨i, rfl, hlt, HR.out⟩⟩
     ·have HR := Lib.hid (show es.getD i (0, 0) ≠ (a, b) by rw [HV.out]; intro e; injection e with e1 e2; exact h2 e2.symm)
      rw [decide_eq_false h2, Bool.and_false]
      clear h1 h2 h5
      go_wp2_with fail
      go_roundg (k - (i + 1))
      case measure => rw [Hk.out]; omega
      case rel => exact ⟨i + 1, by go_num, by omega, rfl, HW5.out, fun j hj => by
       by_cases h : j = i
       ·rw [h]; exact HR.out
       ·exact Hf.out j (by omega)⟩
    ·have HR := Lib.hid (show es.getD i (0, 0) ≠ (a, b) by rw [HV.out]; intro e; injection e with e1 e2; exact h1 e1.symm)
     rw [decide_eq_false h1, Bool.false_and]
     clear h1 h5
     go_wp2_with fail
     go_roundg (k - (i + 1))
     case measure => rw [Hk.out]; omega
     case rel => exact ⟨i + 1, by go_num, by omega, rfl, HW5.out, fun j hj => by
      by_cases h : j = i
      ·rw [h]; exact HR.out
      ·exact Hf.out j (by omega)⟩
  ·have hlt' : ¬ (i : Int) < k := by omega
   have hie : i = k := by omega
   subst hie
   go_wp2_with fail
   go_ret
   exact ⟨_, rfl, HBq.out, .inl ⟨rfl, Hf.out⟩⟩
theorem containsE_any (A : Option Addr) (cap : Nat) (es : List (Int × Int)) (a b : Int) (k : Nat) (w : World) (hk : k ≤ es.length) (hlen : es.length ≤ 1000) (hes : Cells w w.heap.size A (edgeCells es)) :
  Calls Tryz.prog 94 #[.slice A k cap, .agg #[.int .i64 a, .int .i64 b]] w (fun e w' => ∃ r, e = .returned (.bool r) ∧ Below w.heap.size w w' ∧ (r = true ↔ ∃ j, j < k ∧ es.getD j (0, 0) = (a, b))) := by
 have HB := Lib.hid ((Below.refl w.heap.size w).alloc (Nat.le_refl _) (.cells #[.int .i64 a, .int .i64 b] 66))
 have HES := Lib.hid ((hes.below HB.out).more HB.out.size)
 clear hes
 go_enter Tryz.func94, Tryz.ntmps94
 go_upto_region 1 with fail
 go_wp2_with fail
 refine (indexE_any A cap es a b k _ hk hlen HES.out).mono ?_
 rintro e w2 ⟨r, rfl, hb2, hr⟩
 have HB2 := Lib.hid (HB.out.trans (hb2.mono HB.out.size))
 have HR := Lib.hid hr
 clear hr hb2
 go_wp2_with fail
 go_ret
 refine ⟨_, rfl, HB2.out, ?_⟩
 rw [decide_eq_true_eq]
 rcases HR.out with ⟨rfl, h⟩ | ⟨j, rfl, h1, h2⟩
 ·exact ⟨fun h0 => absurd h0 (by omega), fun ⟨j, h1, h2⟩ => absurd h2 (h j h1)⟩
 ·exact ⟨fun _ => ⟨j, h1, h2⟩, fun _ => by omega⟩
theorem containsI_any (A : Option Addr) (c : Nat) (l : List Int) (v : Int) (w : World) (h : Cells w w.heap.size A (intCells l)) (hl : l.length ≤ 100000) :
  Calls Tryz.prog 56 #[.slice A l.length c, .int .i64 v] w (fun e w' => e = .returned (.bool (decide (idxF l v ≥ 0))) ∧ w = w') := by
 have H := Lib.hid h
 clear h
 go_enter Tryz.func56, Tryz.ntmps56
 go_wp2_with fail
 refine (index_any A c l v w H.out hl).mono ?_
 rintro e w2 ⟨rfl, rfl⟩
 go_wp2_with fail
 go_ret
 exact ⟨rfl, rfl⟩
end Go.Proofs.YtneeknlhlkpnpaaGreat
namespace Go.Proofs.YtneeknlhlkpnpaaGreat
open Go.RowKit
section
variable {n : Nat} {es : List (Int × Int)}
theorem order_stop (x : Nat) (hx : x < n) (hno : (x : Int) ∉ orderF es n) : ∃ e ∈ es, e.2 = (x : Int) ∧ e.1 ∉ orderF es n := by
 have ho := orderF_ord es n
 apply Classical.byContradiction
 intro hn
 have hok : nextOk es (orderF es n) x = true := nextOk_iff.2 ⟨hno, fun e he h2 => Classical.byContradiction fun h1 => hn ⟨e, he, h2, h1⟩⟩
 rcases runF_or (es := es) (N := n) n [] with h | h
 ·have h' : nextF es n (orderF es n) = none := h
  unfold nextF at h'
  rw [List.find?_eq_none] at h'
  exact h' x (List.mem_range.2 hx) hok
 ·have h' : (orderF es n).length = n := by
   show (runF es n n []).length = n
   rw [h]; simp
  exact hno (ord_all ho h' hx)
theorem waits_getD {out : List Int} {x : Nat} (hx : x < n) : (waitsF n es out).getD x 0 = if out.contains (x : Int) then -1 else (cntW es out x : Int) := by
 unfold waitsF
 rw [List.getD_eq_getElem?_getD, List.getElem?_map, List.getElem?_range hx]
 rfl
theorem wait_pos {x : Nat} (hx : x < n) : (waitsF n es (orderF es n)).getD x 0 > 0 ↔ (x : Int) ∉ orderF es n := by
 rw [waits_getD hx]
 by_cases h : (x : Int) ∈ orderF es n
 ·rw [if_pos (List.contains_iff_mem.2 h)]
  exact ⟨fun h2 => absurd h2 (by omega), fun h2 => absurd h h2⟩
 ·rw [if_neg (by rw [List.contains_iff_mem]; exact h)]
  refine ⟨fun _ => h, fun _ => ?_⟩
  obtain ⟨e, he, h2, h1⟩ := order_stop x hx h
  have : cntW es (orderF es n) x ≠ 0 := fun h0 => h1 (cntW_zero.1 h0 e he h2)
  omega
theorem ordB_iff : ordB n es = true ↔ ∀ x, x < n → (x : Int) ∈ orderF es n := by
 unfold ordB
 rw [decide_eq_true_eq]
 exact ⟨fun h x hx => ord_all (orderF_ord es n) h hx, fun h => Nat.le_antisymm (orderF_ord es n).le (all_length h)⟩
theorem no_wait (h : ∀ i, i < n → (waitsF n es (orderF es n)).getD i 0 ≤ 0) : ordB n es = true :=
 ordB_iff.2 fun x hx => Classical.byContradiction fun hno => by
  have h1 := (wait_pos hx).2 hno
  have h2 := h x hx
  omega
theorem some_wait {k : Nat} (hk : k < n) (h : (waitsF n es (orderF es n)).getD k 0 > 0) : ordB n es = false := by
 cases ho : ordB n es with
 | false => rfl
 | true => exact absurd (ordB_iff.1 ho k hk) ((wait_pos hk).1 h)
theorem wait_back (hin : InN n es) {x : Nat} (hx : x < n) (h : (waitsF n es (orderF es n)).getD x 0 > 0) : ∃ j, ∃ hj : j < (endsF es Prod.snd x es.length).length, ∃ i t : Nat, (endsF es Prod.snd x es.length)[j] = (i : Int) ∧ i < es.length ∧ (es.getD i (0, 0)).1 = (t : Int) ∧ t < n ∧ (waitsF n es (orderF es n)).getD t 0 > 0 := by
 obtain ⟨e, he, h2, h1⟩ := order_stop x hx ((wait_pos hx).1 h)
 obtain ⟨i, hi, hie⟩ := mem_getD he
 have hm : ((i : Nat) : Int) ∈ endsF es Prod.snd x es.length := mem_endsF.2 ⟨i, rfl, hi, by rw [hie]; exact h2⟩
 obtain ⟨j, hj, hje⟩ := List.getElem_of_mem hm
 have hb := hin e he
 obtain ⟨t, ht⟩ := Int.eq_ofNat_of_zero_le hb.1
 refine ⟨j, hj, i, t, hje, hi, by rw [hie]; exact ht, by omega, (wait_pos (by omega)).2 ?_⟩
 rw [← ht]
 exact h1
end
theorem nodup_lt_len {n : Nat} {l : List Nat} (h : l.Nodup) (hl : ∀ a ∈ l, a < n) : l.length ≤ n := by
 have := nodup_sub_len (l := l.map fun z : Nat => (z : Int)) (l' := (List.range n).map fun z : Nat => (z : Int)) (nodup_map_on h fun a _ b _ e => by omega) fun a ha => by
  obtain ⟨b, hb, rfl⟩ := List.mem_map.1 ha
  exact List.mem_map.2 ⟨b, List.mem_range.2 (hl b hb), rfl⟩
 simpa using this
end Go.Proofs.YtneeknlhlkpnpaaGreat
namespace Go.Proofs.YtneeknlhlkpnpaaGreat
open Go.RowKit
set_option maxRecDepth 20000 in
set_option maxHeartbeats 4000000 in
theorem run2_any (gv n : Nat) (es : List (Int × Int)) (w : World) (hv : ViewAt w gv n es) (hE : ∀ e ∈ es, 0 ≤ e.1 ∧ e.1 < (n : Int) ∧ 0 ≤ e.2 ∧ e.2 < (n : Int)) (hn : n ≤ 64) (hl : es.length ≤ 1000) :
  Calls Tryz.prog 131 #[.pointer (some ⟨gv, 0, none⟩)] w (fun e w' => ∃ v1 v2, e = .returned (.tuple #[v1, v2]) ∧ Below w.heap.size w w' ∧ w'.ownsRow w.heap.size 3 1 v1 (orderF es n).length (intCells (orderF es n)) ∧ w'.ownsRow w.heap.size 3 1 v2 n (intCells (waitsF n es (orderF es n)))) := by
 obtain ⟨A, c, go, gi, os, is, hbv, hes, hol, hil, hgo, hgi, hrw⟩ := hv
 have HV := Lib.hid hbv
 have HES := Lib.hid hes
 have HGO := Lib.hid hgo
 have HGI := Lib.hid hgi
 have HRW := Lib.hid hrw
 have HE := Lib.hid hE
 have z2 : w.cell? ⟨gv, 2, none⟩ = some (.slice (some ⟨go, 0, none⟩) n n) := hbv.cell 2
 have z3 : w.cell? ⟨gv, 3, none⟩ = some (.slice (some ⟨gi, 0, none⟩) n n) := hbv.cell 3
 have lv := hbv.lt
 have lgo := hgo.lt
 have lgi := hgi.lt
 clear hbv hes hgo hgi hrw hE
 go_enter Tryz.func131, Tryz.ntmps131
 go_wp2_with fail
 go_loopg [3, 14] n (fun k s3 s14 wr => ∃ i : Nat, s14 = .int .i64 i ∧ i ≤ n ∧ k = n - i ∧ Below w.heap.size w wr ∧ wr.ownsRow w.heap.size 3 1 s3 i (intCells ((waitsF n es []).take i)))
 case atStart => exact ⟨0, rfl, Nat.zero_le _, rfl, Below.refl _ _, World.ownsRow_nil _ _ _ _⟩
 case round =>
  obtain ⟨i, rfl, hi, hk, hb, hown⟩ := hrel
  have Hk := Lib.hid hk
  have HB := Lib.hid hb
  have HO := Lib.hid hown
  have hsz := hb.size
  have y3 := (hb.cell (p := ⟨gv, 3, none⟩) lv).trans z3
  clear hk hb hown
  by_cases hlt : i < n
  ·have hlt' : (i : Int) < n := by omega
   have hix : n + i < (os ++ is).length := by simp; omega
   have hro := HRW.out.own (n + i) hix (by rw [← HRW.out.len]; exact hix)
   rw [List.getElem_append_right (by omega), lsV_at_snd hlt] at hro
   simp only [show n + i - os.length = i by omega] at hro
   obtain ⟨Ai, ci, hiv⟩ := own_slice hro
   have yi : wr.cell? ⟨gi, i, none⟩ = some (.slice Ai (endsF es Prod.snd i es.length).length ci) := (HB.out.cell (p := ⟨gi, i, none⟩) lgi).trans ((HGI.out.cell i).trans (by rw [← hiv]; simp [List.getElem?_eq_getElem (show i < is.length by omega)]))
   obtain ⟨li, hli⟩ : ∃ z, z = (endsF es Prod.snd i es.length).length := ⟨_, rfl⟩
   have hli2 : li ≤ es.length := by rw [hli]; exact endsF_length _ _ _ _
   rw [← hli] at yi
   have HW := Lib.hid (show (waitsF n es []).take (i + 1) = (waitsF n es []).take i ++ [(li : Int)] by
    rw [List.take_succ_eq_append_getElem (by rw [waitsF_length]; exact hlt)]
    congr 2
    have : (waitsF n es [])[i]'(by rw [waitsF_length]; exact hlt) = ((List.range n).map fun h : Nat => ((endsF es Prod.snd h es.length).length : Int))[i]'(by simpa using hlt) := by
     congr 1; exact waitsF_nil n es
    rw [this, hli]
    simp)
   clear hro hiv hli
   go_wp2_with (at_builtin; refine wp_app elemInt rfl _ _ rfl w.heap.size u3 _ _ rfl wr.heap.size [.int .i64 (li : Int)] rfl rfl HO.out rfl rfl ?h2 ?h3 ?h4 ?_)
   case h2 => omega
   case h3 => omega
   case h4 => omega
   intro v5 w5 ho5 hg5 _
   have HB5 := Lib.hid (below_app HB.out HO.out hg5 hsz (Nat.le_refl _))
   have HO5 := Lib.hid (show w5.ownsRow w.heap.size 3 1 v5 (i + 1) (intCells ((waitsF n es []).take (i + 1))) by rw [HW.out]; simpa [intCells] using ho5)
   clear ho5 hg5 HO HB y3 yi
   go_wp2_with fail
   go_roundg (n - (i + 1))
   case measure => rw [Hk.out]; omega
   case rel => exact ⟨i + 1, by go_num, by omega, rfl, HB5.out, HO5.out⟩
  ·have hie : n = i := by omega
   subst hie
   have hlt' : ¬ (n : Int) < n := by omega
   obtain ⟨A3, c3, hs3⟩ := own_slice HO.out
   have HO1 := Lib.hid (show wr.ownsRow w.heap.size 3 1 (.slice A3 n c3) n (intCells (waitsF n es [])) by
    have := HO.out
    rw [List.take_of_length_le (by rw [waitsF_length]; exact Nat.le_refl _)] at this
    rw [← hs3]; exact this)
   rw [hs3]
   have HA3 := Lib.hid (fun k hk => (HO1.out.lt k hk).2)
   clear HO hs3 y3
   go_wp2_with fail
   obtain ⟨w1, rfl⟩ : ∃ x, x = wr := ⟨_, rfl⟩
   go_loopg [2, 3] n (fun k s2 s3 wr => ∃ out : List Int, s3 = .slice A3 n c3 ∧ Ord es n out ∧ orderF es n = runF es n (n - out.length) out ∧ k = n - out.length ∧ Below w.heap.size w wr ∧ w1.heap.size ≤ wr.heap.size ∧ wr.ownsRow w1.heap.size 3 1 s2 out.length (intCells out) ∧ wr.ownsRow w.heap.size 3 1 (.slice A3 n c3) n (intCells (waitsF n es out)))
   case atStart => exact ⟨[], rfl, Ord.nil es n, rfl, rfl, HB.out, Nat.le_refl _, World.ownsRow_nil _ _ _ _, HO1.out⟩
   case round =>
    obtain ⟨out, rfl, hord, hrun, hk, hb, hsw, hown, hwt⟩ := hrel
    have Hk := Lib.hid hk
    have HRun := Lib.hid hrun
    have HOrd := Lib.hid hord
    have HB2 := Lib.hid hb
    have HO2 := Lib.hid hown
    have HW2 := Lib.hid hwt
    have hidx := index_any A3 c3 (waitsF n es out) 0 wr (Cells.of_own hwt) (by rw [waitsF_length]; omega)
    rw [waitsF_length] at hidx
    clear hk hrun hord hb hown hwt
    go_wp2_with fail
    refine hidx.mono ?_
    rintro e w2 ⟨rfl, rfl⟩
    clear hidx
    cases hx : nextF es n out with
    | none =>
     rw [idx_next_none hx]
     have HF := Lib.hid (show orderF es n = out by rw [HRun.out, runF_stop hx])
     clear hx
     go_wp2_with fail
     go_ret2
     exact ⟨_, _, rfl, HB2.out, by rw [HF.out]; exact own_mono HO2.out HB.out.size, by rw [HF.out]; exact HW2.out⟩
    | some x =>
     obtain ⟨hxn, hix⟩ := idx_next_some hx
     rw [hix]
     have HX := Lib.hid hx
     have hxn' : (x : Int) < n := by omega
     have hx0 : ¬ (x : Int) < 0 := by omega
     have hll := (HOrd.out.push hx).le
     simp only [List.length_append, List.length_singleton] at hll
     clear hx hix
     have hsz2 := HB2.out.size
     go_wp2_with (at_builtin; refine wp_app elemInt rfl _ _ rfl w1.heap.size u2 _ _ rfl wr.heap.size [.int .i64 (x : Int)] rfl rfl HO2.out rfl rfl ?h2 ?h3 ?h4 ?_)
     case h2 => omega
     case h3 => omega
     case h4 => omega
     intro v5 w5 ho5 hg5 hat5
     have hsz5 := hg5.size
     have hwt5 := HW2.out.kept hg5 (apart_base HO2.out HA3.out)
     have HB5 := Lib.hid (below_app HB2.out HO2.out hg5 hsz2 HB.out.size)
     have HO5 := Lib.hid (show w5.ownsRow w1.heap.size 3 1 v5 (out ++ [(x : Int)]).length (intCells (out ++ [(x : Int)])) by simpa [intCells] using ho5)
     obtain ⟨g, R, hA3, hgb, hgB, hR, hnc, hcm, _⟩ := own_some hwt5 (by omega)
     have HRl := Lib.hid hR
     have hg1 : g < w1.heap.size := HA3.out g (by rw [hA3]; rfl)
     have HGB := Lib.hid hgB
     have cx := hgB.intR (k := x) (by rw [waitsF_length]; exact hxn)
     have fx := hgB.frozen x
     have hgs : g < w5.heap.size := hgB.lt
     have HG6 := Lib.hid (hgB.setIntR x (-1) (by rw [waitsF_length]; exact hxn))
     have HB6 := Lib.hid (HB5.out.setCell (p := ⟨g, x, none⟩) hgb (.int .i64 (-1)))
     have HO6 := Lib.hid (HO5.out.kept (only_setCell (World.grownBy.refl w5 (some g)) (p := ⟨g, x, none⟩) (.inl rfl) (.int .i64 (-1))) (ne_ownBlock HO5.out hg1))
     have y2 := (HB6.out.cell (p := ⟨gv, 2, none⟩) lv).trans z2
     have y1 := (HB6.out.cell (p := ⟨gv, 1, none⟩) lv).trans (HV.out.cell 1)
     simp only [List.getElem?_toArray, List.getElem?_cons_zero, List.getElem?_cons_succ] at y1
     have hix : x < (os ++ is).length := by simp; omega
     have hro := HRW.out.own x hix (by rw [← HRW.out.len]; exact hix)
     rw [List.getElem_append_left (by omega), lsV_at_fst hxn] at hro
     obtain ⟨Ax, cx2, hxv⟩ := own_slice hro
     have yx : (w5.setCell ⟨g, x, none⟩ (.int .i64 (-1))).cell? ⟨go, x, none⟩ = some (.slice Ax (endsF es Prod.fst x es.length).length cx2) := (HB6.out.cell (p := ⟨go, x, none⟩) lgo).trans ((HGO.out.cell x).trans (by rw [← hxv]; simp [List.getElem?_eq_getElem (show x < os.length by omega)]))
     rw [hxv] at hro
     have HAx := Lib.hid (Cells.of_own hro)
     subst hA3
     obtain ⟨lx, hlx⟩ : ∃ z, z = (endsF es Prod.fst x es.length).length := ⟨_, rfl⟩
     have hlx2 : lx ≤ es.length := by rw [hlx]; exact endsF_length _ _ _ _
     rw [← hlx] at yx
     have HLX := Lib.hid hlx
     have hss : (w5.setCell ⟨g, x, none⟩ (.int .i64 (-1))).heap.size = w5.heap.size := by simp
     clear ho5 hg5 hat5 hwt5 HW2 HO2 HB2 HO5 HB5 hR hgB HGB hro hxv hlx
     go_wp2_with fail
     generalize w5.setCell ⟨g, x, none⟩ (.int .i64 (-1)) = w6 at *
     rw [waitsP_zero] at HG6
     obtain ⟨w4, rfl⟩ : ∃ y, y = wr := ⟨_, rfl⟩
     go_loopg [45] lx (fun k s45 wr => ∃ j : Nat, s45 = .int .i64 j ∧ j ≤ lx ∧ k = lx - j ∧ w6.grownBy wr (some g) ∧ Blk wr g 3 ((intCells (waitsP n es out x j)).toArray ++ R))
     case atStart => exact ⟨0, rfl, Nat.zero_le _, rfl, World.grownBy.refl _ _, HG6.out⟩
     case round =>
      obtain ⟨j, rfl, hj, hk2, hgr, hbj⟩ := hrel
      have Hk2 := Lib.hid hk2
      have HGR := Lib.hid hgr
      have HBJ := Lib.hid hbj
      have HBW := Lib.hid (HB6.out.trans ((Below.refl w.heap.size w6).grown hgr (by omega) (fun k hk => by injection hk; omega)))
      have hszr := hgr.size
      clear hk2 hgr hbj
      by_cases hjl : j < lx
      ·have hjl' : (j : Int) < lx := by omega
       have hjl2 : j < (endsF es Prod.fst x es.length).length := by have := HLX.out; omega
       obtain ⟨i, hei, hil, hi1⟩ := endsF_at hjl2
       obtain ⟨bx, offx, hAxe, hbx, hcx⟩ := HAx.out.ints (by omega)
       obtain ⟨b, off, hAe, hbb, hcc⟩ := HES.out.edges (by omega)
       have c0 := (HBW.out.cell (p := ⟨bx, offx + j, none⟩) hbx).trans (hcx j hjl2)
       rw [hei] at c0
       obtain ⟨_, c1⟩ := hcc i hil
       have c1' := (HBW.out.cell (p := ⟨b, off + i * 2 + 1, none⟩) hbb).trans c1
       obtain ⟨q0, q1, q2, q3⟩ := HE.out es[i] (List.getElem_mem hil)
       obtain ⟨t, ht⟩ := Int.eq_ofNat_of_zero_le q2
       have ht' : es[i].2 = (t : Int) := ht
       rw [ht'] at c1'
       have htn : t < n := by omega
       have htn' : (t : Int) < n := by omega
       have hil' : (i : Int) < es.length := by omega
       have HS := Lib.hid (waitsP_succ HOrd.out HX.out hjl2 hei hil ht' htn)
       obtain ⟨vb1, vb2⟩ := waitsP_bound (n := n) (es := es) (out := out) (x := (x : Int)) (j := j) (t := t) hl
       have ct := HBJ.out.intR (k := t) (by rw [waitsP_length]; exact htn)
       obtain ⟨v, hv⟩ : ∃ v, v = (waitsP n es out x j).getD t 0 := ⟨_, rfl⟩
       rw [← hv] at ct vb1 vb2
       have hwv : wrap64 (v - 1) = v - 1 := by unfold wrap64; omega
       have ft := HBJ.out.frozen t
       have y1r := (HBW.out.cell (p := ⟨gv, 1, none⟩) lv).trans (HV.out.cell 1)
       simp only [List.getElem?_toArray, List.getElem?_cons_zero, List.getElem?_cons_succ] at y1r
       have HBS := Lib.hid (show Blk (wr.setCell ⟨g, t, none⟩ (.int .i64 (v - 1))) g 3 ((intCells (waitsP n es out x (j + 1))).toArray ++ R) by
        rw [← HS.out, ← hv]
        exact HBJ.out.setIntR t (v - 1) (by rw [waitsP_length]; exact htn))
       have HGS := Lib.hid (only_setCell HGR.out (p := ⟨g, t, none⟩) (.inl rfl) (.int .i64 (v - 1)))
       subst hAxe hAe
       clear hcx hcc c1 ht ht' q0 q1 q2 q3 hi1 hei hv HS y1 y2 yx
       go_wp2_with fail
       go_roundg (lx - (j + 1))
       case measure => rw [Hk2.out]; omega
       case rel => exact ⟨j + 1, by go_num, by omega, rfl, HGS.out, HBS.out⟩
      ·have hje : j = lx := by omega
       have HBF := Lib.hid (show Blk wr g 3 ((intCells (waitsF n es (out ++ [(x : Int)]))).toArray ++ R) by
        rw [← waitsP_all HX.out, ← HLX.out, ← hje]; exact HBJ.out)
       have hjl' : ¬ (j : Int) < lx := by omega
       have HOF := Lib.hid (HO6.out.kept HGR.out (ne_ownBlock HO6.out hg1))
       have HWF := Lib.hid (own_back (base := w.heap.size) (n := n) (c := c3) hgb HBF.out (by have := HRl.out; simp [intCells, waitsF_length] at this ⊢; omega) hnc hcm (by simp [intCells, waitsF_length]))
       have HRF := Lib.hid (show orderF es n = runF es n (n - (out ++ [(x : Int)]).length) (out ++ [(x : Int)]) by
        rw [HRun.out, List.length_append, List.length_singleton, ← runF_more HX.out]; congr 1; omega)
       have HOrF := Lib.hid (HOrd.out.push HX.out)
       clear HBF HBJ hje y1 y2 yx
       go_wp2_with fail
       go_roundg (n - (out.length + 1))
       case measure => rw [Hk.out]; omega
       case rel => exact ⟨out ++ [(x : Int)], rfl, HOrF.out, HRF.out, by simp, HBW.out, by omega, HOF.out, HWF.out⟩
end Go.Proofs.YtneeknlhlkpnpaaGreat
namespace Go.Proofs.YtneeknlhlkpnpaaGreat
open Go.RowKit
set_option maxRecDepth 20000 in
set_option maxHeartbeats 4000000 in
theorem revO_any (g o m cap : Nat) (L : List Int) (R : Array Value) (w : World) (hb : Blk w g 3 ((intCells L).toArray ++ R)) (ho : o + m ≤ L.length) (hm : m ≤ 1000) (_hc : m ≤ cap) :
  Calls Tryz.prog 69 #[.slice (some ⟨g, o, none⟩) m cap] w (fun e w' => e = .returned (.tuple #[]) ∧ Below g w w' ∧ ∃ L' : List Int, L'.length = L.length ∧ Blk w' g 3 ((intCells L').toArray ++ R)) := by
 have HB0 := Lib.hid hb
 have hgw := hb.lt
 clear hb
 go_enter Tryz.func69, Tryz.ntmps69
 have hwm : IntKind.i64.wrap ((m : Int) - 1) = (m : Int) - 1 := by rw [IntKind.wrap_i64]; omega
 go_wp2_with fail
 go_loopg [2, 3] m (fun k s2 s3 wr => ∃ (i : Nat) (P : List Int), s2 = .int .i64 i ∧ s3 = .int .i64 ((m : Int) - 1 - i) ∧ 2 * i ≤ m ∧ k = m - i ∧ P.length = L.length ∧ Below g w wr ∧ Blk wr g 3 ((intCells P).toArray ++ R))
 case atStart => exact ⟨0, L, rfl, by simp, by omega, rfl, rfl, Below.refl _ _, HB0.out⟩
 case round =>
  obtain ⟨i, P, rfl, rfl, hi, hk, hP, hbl, hb⟩ := hrel
  have hwi : IntKind.i64.wrap ((m : Int) - 1 - i - 1) = (m : Int) - 1 - i - 1 := by rw [IntKind.wrap_i64]; omega
  by_cases hlt : i + 1 < m - i
  ·obtain ⟨j, hj⟩ : ∃ j, j = m - 1 - i := ⟨_, rfl⟩
   have hji : (m : Int) - 1 - i = (j : Int) := by omega
   have hlt' : (i : Int) < (j : Int) := by omega
   have hjl : j < m := by omega
   have hil : i < m := by omega
   have hjl' : (j : Int) < m := by omega
   have hil' : (i : Int) < m := by omega
   rw [hji] at hwi
   rw [hji]
   have HJ := Lib.hid hj
   have Hk := Lib.hid hk
   have HP := Lib.hid hP
   have HB := Lib.hid hb
   have HBL := Lib.hid hbl
   obtain ⟨li, hli⟩ : ∃ z, z = P.getD (o + i) 0 := ⟨_, rfl⟩
   obtain ⟨lj, hlj⟩ : ∃ z, z = P.getD (o + j) 0 := ⟨_, rfl⟩
   have ci := hb.intR (k := o + i) (by omega)
   have cj := hb.intR (k := o + j) (by omega)
   rw [← hli] at ci
   rw [← hlj] at cj
   have Hci := Lib.hid ((hb.cell (o + i)).symm.trans ci)
   have Hcj := Lib.hid ((hb.cell (o + j)).symm.trans cj)
   have hsD : L.length ≤ ((intCells P).toArray ++ R).size := by simp [intCells, hP]
   have HsD := Lib.hid hsD
   obtain ⟨D0, hD0⟩ : ∃ D, D = (intCells P).toArray ++ R := ⟨_, rfl⟩
   obtain ⟨D1, hD1⟩ : ∃ D, D = (intCells (P.set (o + i) lj)).toArray ++ R := ⟨_, rfl⟩
   obtain ⟨D2, hD2⟩ : ∃ D, D = (intCells ((P.set (o + i) lj).set (o + j) li)).toArray ++ R := ⟨_, rfl⟩
   have HsD1 := Lib.hid (show L.length ≤ D1.size by rw [hD1]; simp [intCells, hP])
   have HD1 := Lib.hid (fun (wv : World) (h : Blk wv g 3 ((intCells P).toArray ++ R)) => (by rw [hD1]; exact h.setIntR (o + i) lj (by omega) : Blk (wv.setCell ⟨g, o + i, none⟩ (.int .i64 lj)) g 3 D1))
   have HD2 := Lib.hid (fun (wv : World) (h : Blk wv g 3 D1) => (by rw [hD2]; rw [hD1] at h; exact h.setIntR (o + j) li (by rw [List.length_set]; omega) : Blk (wv.setCell ⟨g, o + j, none⟩ (.int .i64 li)) g 3 D2))
   have HR2 := Lib.hid hD2
   have hsz := hbl.size
   clear hb hbl hk hj hsD hD0 hD1 hD2 ci cj hli hlj hP
   go_upto_region 3 with fail
   refine R3.wp_region_i g [[], [3]] [0, 0, 0, 0, 0, 0, 0, 0, 0, 0, 0, 0, 0, 1, 0, 1]
    [([], .val (.slice (some ⟨g, o, none⟩) m cap)), ([], .val (.int .i64 i)), ([], .val (.slice (some ⟨g, o, none⟩) m cap)), ([], .val (.int .i64 j)), ([], .val (.slice (some ⟨g, o, none⟩) m cap)), ([], .val (.int .i64 j)), ([4, 5], .val (.pointer (some ⟨g, o + j, none⟩))), ([6], .val (.int .i64 lj)), ([], .val (.slice (some ⟨g, o, none⟩) m cap)), ([], .val (.int .i64 i)), ([8, 9], .val (.pointer (some ⟨g, o + i, none⟩))), ([10], .val (.int .i64 li)), ([0, 1], .val (.pointer (some ⟨g, o + i, none⟩))), ([12, 7], pfB g 3 D1), ([2, 3], .val (.pointer (some ⟨g, o + j, none⟩))), ([14, 11, 13], pfB g 3 D2)] [15] (by kernel_rfl) (by kernel_rfl) (fun us => ?_) ?_
   ·refine R3.pgo_pure _ rfl rfl (fun wv hw hu => ⟨.slice (some ⟨g, o, none⟩) m cap, ?_, rfl⟩) ?_
    ·have tok := True.intro
     clear hw hu
     go_simp
    refine R3.pgo_pure _ rfl rfl (fun wv hw hu => ⟨.int .i64 i, ?_, rfl⟩) ?_
    ·have tok := True.intro
     clear hw hu
     go_simp
    refine R3.pgo_pure _ rfl rfl (fun wv hw hu => ⟨.slice (some ⟨g, o, none⟩) m cap, ?_, rfl⟩) ?_
    ·have tok := True.intro
     clear hw hu
     go_simp
    refine R3.pgo_pure _ rfl rfl (fun wv hw hu => ⟨.int .i64 j, ?_, rfl⟩) ?_
    ·have tok := True.intro
     clear hw hu
     go_simp
    refine R3.pgo_pure _ rfl rfl (fun wv hw hu => ⟨.slice (some ⟨g, o, none⟩) m cap, ?_, rfl⟩) ?_
    ·have tok := True.intro
     clear hw hu
     go_simp
    refine R3.pgo_pure _ rfl rfl (fun wv hw hu => ⟨.int .i64 j, ?_, rfl⟩) ?_
    ·have tok := True.intro
     clear hw hu
     go_simp
    refine R3.pgo_pure _ rfl rfl (fun wv hw hu => ⟨.pointer (some ⟨g, o + j, none⟩), ?_, rfl⟩) ?_
    ·have tok := True.intro
     have h4 : us 4 = .slice (some ⟨g, o, none⟩) m cap := hu.1
     have h5 : us 5 = .int .i64 j := hu.2.1
     clear hw hu
     go_simp
    refine R3.pgo_pure _ rfl rfl (fun wv hw hu => ⟨.int .i64 lj, ?_, rfl⟩) ?_
    ·have tok := True.intro
     have h6 : us 6 = .pointer (some ⟨g, o + j, none⟩) := hu.1
     have zy : wv.cell? ⟨g, o + j, none⟩ = some (.int .i64 lj) := ((HB.out.drew.evo hw (.inr (of_decide_eq_true (by kernel_rfl)))).cell (o + j)).trans Hcj.out
     clear hw hu
     go_simp
    refine R3.pgo_pure _ rfl rfl (fun wv hw hu => ⟨.slice (some ⟨g, o, none⟩) m cap, ?_, rfl⟩) ?_
    ·have tok := True.intro
     clear hw hu
     go_simp
    refine R3.pgo_pure _ rfl rfl (fun wv hw hu => ⟨.int .i64 i, ?_, rfl⟩) ?_
    ·have tok := True.intro
     clear hw hu
     go_simp
    refine R3.pgo_pure _ rfl rfl (fun wv hw hu => ⟨.pointer (some ⟨g, o + i, none⟩), ?_, rfl⟩) ?_
    ·have tok := True.intro
     have h8 : us 8 = .slice (some ⟨g, o, none⟩) m cap := hu.1
     have h9 : us 9 = .int .i64 i := hu.2.1
     clear hw hu
     go_simp
    refine R3.pgo_pure _ rfl rfl (fun wv hw hu => ⟨.int .i64 li, ?_, rfl⟩) ?_
    ·have tok := True.intro
     have h10 : us 10 = .pointer (some ⟨g, o + i, none⟩) := hu.1
     have zy : wv.cell? ⟨g, o + i, none⟩ = some (.int .i64 li) := ((HB.out.drew.evo hw (.inr (of_decide_eq_true (by kernel_rfl)))).cell (o + i)).trans Hci.out
     clear hw hu
     go_simp
    refine R3.pgo_pure _ rfl rfl (fun wv hw hu => ⟨.pointer (some ⟨g, o + i, none⟩), ?_, rfl⟩) ?_
    ·have tok := True.intro
     have h0 : us 0 = .slice (some ⟨g, o, none⟩) m cap := hu.1
     have h1 : us 1 = .int .i64 i := hu.2.1
     clear hw hu
     go_simp
    refine R3.pgo_skip _ rfl rfl (fun wv hw hu => ?_) ?_
    ·have tok := True.intro
     have h12 : us 12 = .pointer (some ⟨g, o + i, none⟩) := hu.1
     have h7 : us 7 = .int .i64 lj := hu.2.1
     have hbv := HB.out.drew.evo hw (.inr (of_decide_eq_true (by kernel_rfl)))
     have fy := hbv.frozen (o + i)
     obtain ⟨zq, zy⟩ : ∃ z, wv.cell? ⟨g, o + i, none⟩ = some z := ⟨_, (hbv.cell (o + i)).trans (Array.getElem?_eq_getElem (by have := HsD.out; omega))⟩
     refine ⟨wv.setCell ⟨g, o + i, none⟩ (.int .i64 lj), ?_, Evo.set_ hbv (by simp) (Nat.le_refl _) (o + i) _, HD1.out wv hbv⟩
     clear hw hu
     clear hbv
     go_simp
    refine R3.pgo_pure _ rfl rfl (fun wv hw hu => ⟨.pointer (some ⟨g, o + j, none⟩), ?_, rfl⟩) ?_
    ·have tok := True.intro
     have h2 : us 2 = .slice (some ⟨g, o, none⟩) m cap := hu.1
     have h3 : us 3 = .int .i64 j := hu.2.1
     clear hw hu
     go_simp
    refine R3.pgo_skip _ rfl rfl (fun wv hw hu => ?_) ?_
    ·have tok := True.intro
     have h14 : us 14 = .pointer (some ⟨g, o + j, none⟩) := hu.1
     have h11 : us 11 = .int .i64 li := hu.2.1
     have hbv := hu.2.2.1
     have fy := hbv.frozen (o + j)
     obtain ⟨zq, zy⟩ : ∃ z, wv.cell? ⟨g, o + j, none⟩ = some z := ⟨_, (hbv.cell (o + j)).trans (Array.getElem?_eq_getElem (by have := HsD1.out; omega))⟩
     refine ⟨wv.setCell ⟨g, o + j, none⟩ (.int .i64 li), ?_, Evo.set_ hbv (by simp) (Nat.le_refl _) (o + j) _, HD2.out wv hbv⟩
     clear hw hu hbv
     go_simp
    trivial
   ·intro us w' hw hu
    have hb15 : Blk w' g 3 D2 := hu.1
    rw [HR2.out] at hb15
    have HB15 := Lib.hid hb15
    have HW15 := Lib.hid (HBL.out.trans (below_undrew' (hw.below (Nat.le_of_lt HB.out.lt))))
    clear hw hu hb15
    simp only [lexL]
    go_simp
    go_wp2_with fail
    go_roundg (m - (i + 1))
    case measure => rw [Hk.out]; omega
    case rel => exact ⟨i + 1, _, by go_num, by first | rfl | (congr 1; omega) | (congr 2; have := HJ.out; omega), by omega, rfl, by rw [List.length_set, List.length_set]; exact HP.out, HW15.out, HB15.out⟩
  ·have hlt' : ¬ (i : Int) < (m : Int) - 1 - i := by omega
   have HX := Lib.hid hb
   have HY := Lib.hid hbl
   have HP := Lib.hid hP
   clear hb hbl hP
   go_wp2_with fail
   refine bodyPost_end (results_none rfl _ _ _) rfl ?_
   exact ⟨rfl, HY.out, P, HP.out, HX.out⟩
end Go.Proofs.YtneeknlhlkpnpaaGreat
namespace Go.Proofs.YtneeknlhlkpnpaaGreat
open Go.RowKit
theorem idxF_at {l : List Int} {v : Int} (h : v ∈ l) : ∃ i : Nat, idxF l v = i ∧ i < l.length ∧ l.getD i 0 = v := by
 have : ∃ i, (i < l.length ∧ l.getD i 0 = v) ∧ ∀ j, j < i → ¬ (j < l.length ∧ l.getD j 0 = v) := by
  obtain ⟨i, hi, e⟩ := List.getElem_of_mem h
  obtain ⟨m, _, hm, hmin⟩ := least_of (P := fun i => i < l.length ∧ l.getD i 0 = v) ⟨hi, by rw [List.getD_eq_getElem?_getD, List.getElem?_eq_getElem hi]; exact e⟩
  exact ⟨m, hm, hmin⟩
 obtain ⟨i, ⟨h1, h2⟩, h3⟩ := this
 refine ⟨i, idx_at h1 ?_ fun j hj e => h3 j hj ⟨by omega, ?_⟩, h1, h2⟩
 ·rw [List.getD_eq_getElem?_getD, List.getElem?_eq_getElem h1] at h2
  exact h2.symm
 ·rw [List.getD_eq_getElem?_getD, List.getElem?_eq_getElem (by omega)]
  exact e.symm
theorem idxF_not {l : List Int} {v : Int} (h : v ∉ l) : idxF l v = -1 := idx_none fun _j hj e => h (e ▸ List.getElem_mem hj)
theorem Cells.part {w : World} {g i : Nat} {t : TypeId} {L : List Int} {R : Array Value} (h : Blk w g t ((intCells L).toArray ++ R)) : Cells w w.heap.size (some ⟨g, i, none⟩) (intCells (L.drop i)) := fun hn => by
 refine ⟨g, i, rfl, h.lt, fun j u hj => ?_⟩
 have hj2 : j < (intCells (L.drop i)).length := by
  rcases Nat.lt_or_ge j (intCells (L.drop i)).length with h | h
  ·exact h
  ·rw [List.getElem?_eq_none h] at hj; cases hj
 have hj3 : i + j < L.length := by simp [intCells] at hj2; omega
 rw [h.cell, Array.getElem?_append_left (by simpa [intCells] using hj3)]
 rw [← hj]
 simp [intCells]
theorem Cells.drop_ {w : World} {B g i : Nat} {l : List Int} (h : Cells w B (some ⟨g, i, none⟩) (intCells l)) (j : Nat) : Cells w B (some ⟨g, i + j, none⟩) (intCells (l.drop j)) := fun hn => by
 obtain ⟨b, off, e, hb, hc⟩ := h (by simp [intCells] at hn ⊢; omega)
 injection e with e
 injection e with e1 e2 _
 subst e1 e2
 refine ⟨g, i + j, rfl, hb, fun k u hk => ?_⟩
 rw [Nat.add_assoc]
 refine hc (j + k) u ?_
 rw [← hk]
 simp [intCells]
theorem Cells.take_ {w : World} {B : Nat} {A : Option Addr} {l : List Int} (h : Cells w B A (intCells l)) (j : Nat) : Cells w B A (intCells (l.take j)) := fun hn => by
 obtain ⟨b, off, e, hb, hc⟩ := h (by simp [intCells] at hn ⊢; omega)
 refine ⟨b, off, e, hb, fun k u hk => hc k u ?_⟩
 have hk2 : k < (intCells (l.take j)).length := by
  rcases Nat.lt_or_ge k (intCells (l.take j)).length with h | h
  ·exact h
  ·rw [List.getElem?_eq_none h] at hk; cases hk
 rw [← hk]
 simp [intCells] at hk2 ⊢
 rw [List.getElem?_take_of_lt (by omega), List.getElem?_map]
def CycPost (n : Nat) (es : List (Int × Int)) (w : World) (e : Ending) (w' : World) : Prop := ∃ A L c, e = .returned (.slice A L c) ∧ Below w.heap.size w w' ∧ (ordB n es = true → L = 0) ∧ (ordB n es = false → 0 < L) ∧ L ≤ 100000
structure WayP (n : Nat) (W : List Int) (way : List Nat) : Prop where
 nd : way.Nodup
 lt : ∀ a ∈ way, a < n
def wayI (way : List Nat) : List Int := way.map fun z : Nat => (z : Int)
theorem wayI_length (way : List Nat) : (wayI way).length = way.length := by simp [wayI]
theorem wayI_mem {way : List Nat} {x : Nat} : (x : Int) ∈ wayI way ↔ x ∈ way := by
 unfold wayI
 rw [List.mem_map]
 constructor
 ·rintro ⟨a, ha, e⟩
  have : a = x := by omega
  exact this ▸ ha
 ·exact fun h => ⟨x, h, rfl⟩
set_option maxRecDepth 20000 in
set_option maxHeartbeats 4000000 in
theorem cycle_any (gv n : Nat) (es : List (Int × Int)) (w : World) (hv : ViewAt w gv n es) (hE : InN n es) (hn : n ≤ 64) (hl : es.length ≤ 1000) :
  Calls Tryz.prog 95 #[.pointer (some ⟨gv, 0, none⟩)] w (CycPost n es w) := by
 have hrun := run2_any gv n es w hv hE hn hl
 obtain ⟨A, c, go, gi, os, is, hbv, hes, hol, hil, hgo, hgi, hrw⟩ := hv
 have HV := Lib.hid hbv
 have HES := Lib.hid hes
 have HGI := Lib.hid hgi
 have HRW := Lib.hid hrw
 have HE := Lib.hid hE
 have lv := hbv.lt
 have lgi := hgi.lt
 clear hbv hes hgo hgi hrw hE
 go_enter Tryz.func95, Tryz.ntmps95
 go_wp2_with fail
 refine hrun.mono ?_
 rintro e w1 ⟨v1, v2, rfl, hb1, _, ho2⟩
 obtain ⟨A2, c2, rfl⟩ := own_slice ho2
 have HB1 := Lib.hid hb1
 have HW1 := Lib.hid (Cells.of_own ho2)
 have hwl := waitsF_length n es (orderF es n)
 have HWL := Lib.hid hwl
 have HWP := Lib.hid (fun k (hk : k < n) (h : (waitsF n es (orderF es n)).getD k 0 > 0) => wait_back HE.out hk h)
 have HNO := Lib.hid (fun (h : ∀ i, i < n → (waitsF n es (orderF es n)).getD i 0 ≤ 0) => no_wait (es := es) h)
 have HSO := Lib.hid (fun k (hk : k < n) (h : (waitsF n es (orderF es n)).getD k 0 > 0) => some_wait (es := es) hk h)
 have hip := idxPos_any A2 c2 (waitsF n es (orderF es n)) w1 (by omega) HW1.out
 rw [hwl] at hip
 generalize waitsF n es (orderF es n) = W at *
 clear hrun hb1 ho2
 go_wp2_with fail
 refine hip.mono ?_
 rintro e w2 ⟨r, rfl, rfl, hr⟩
 clear hip
 rcases hr with ⟨rfl, hno⟩ | ⟨k, rfl, hk, hpos⟩
 ·have HO := Lib.hid (HNO.out fun i hi => hno i (by rw [HWL.out]; exact hi))
  clear hno
  go_wp2_with fail
  refine wp_loop_rounds 1 ?_
  rw [rounds_succ]
  go_wp2_with fail
  go_ret
  refine ⟨none, 0, 0, rfl, HB1.out, fun _ => rfl, fun h => ?_, by omega⟩
  rw [HO.out] at h
  cases h
 ·rw [hwl] at hk
  have HO := Lib.hid (HSO.out k hk hpos)
  have HPOS := Lib.hid hpos
  clear hwl hpos
  go_wp2_with fail
  go_loopg [5, 6] n (fun m s5 s6 wr => ∃ (x : Nat) (way : List Nat), s5 = .int .i64 x ∧ x < n ∧ W.getD x 0 > 0 ∧ WayP n W way ∧ m = n - way.length ∧ Below w1.heap.size w1 wr ∧ wr.ownsRow w1.heap.size 3 1 s6 way.length (intCells (wayI way)))
  case atStart => exact ⟨k, [], rfl, hk, HPOS.out, ⟨List.nodup_nil, by simp⟩, rfl, Below.refl _ _, World.ownsRow_nil _ _ _ _⟩
  case round =>
   obtain ⟨x, way, rfl, hx, hxp, hway, hm, hb, hown⟩ := hrel
   have Hm := Lib.hid hm
   have HXP := Lib.hid hxp
   have HWY := Lib.hid hway
   have HB := Lib.hid hb
   have HOW := Lib.hid hown
   obtain ⟨A6, c6, rfl⟩ := own_slice hown
   have hwln := nodup_lt_len hway.nd hway.lt
   have HLN := Lib.hid (wayI_length way)
   have hcon := containsI_any A6 c6 (wayI way) x wr (Cells.of_own HOW.out) (by rw [HLN.out]; omega)
   rw [HLN.out] at hcon
   have hx0 : ((x : Int) ≥ 0) := Int.natCast_nonneg x
   clear hm hxp hway hb hown
   go_wp2_with fail
   refine hcon.mono ?_
   rintro e w3 ⟨rfl, rfl⟩
   clear hcon
   by_cases hxw : x ∈ way
   ·obtain ⟨i, hi, hil2, hie⟩ := idxF_at (wayI_mem.2 hxw)
    rw [HLN.out] at hil2
    have hi0 : decide (idxF (wayI way) (x : Int) ≥ 0) = true := by rw [hi]; exact decide_eq_true (Int.natCast_nonneg i)
    rw [hi0]
    obtain ⟨g, R, hA6, hgb, hgB, hR, hnc, hcm, hxl⟩ := own_some HOW.out (by omega)
    subst hA6
    have hidx := index_any (some ⟨g, 0, none⟩) c6 (wayI way) x wr (Cells.of_own HOW.out) (by rw [HLN.out]; omega)
    rw [HLN.out, hi] at hidx
    have hxl0 : ¬ (x : Int) < 0 := by omega
    have hil' : (i : Int) ≤ way.length := by omega
    have hi0' : (0 : Int) ≤ i := Int.natCast_nonneg i
    have hrev := revO_any g i (way.length - i) (c6 - i) (wayI way) R wr hgB (by rw [HLN.out]; omega) (by omega) (by omega)
    clear hi hie hi0 hxw
    go_upto_region 15 with fail
    go_wp2_with fail
    refine hidx.mono ?_
    rintro e w4 ⟨rfl, rfl⟩
    go_wp2_with fail
    refine hrev.mono ?_
    rintro e w5 ⟨rfl, hb5, L', hL', hB5⟩
    have hlm : (L'.drop i).length = way.length - i := by rw [List.length_drop, hL', HLN.out]
    have hC5 := Cells.part hB5 (i := i)
    obtain ⟨l5, hl5⟩ : ∃ l5, l5 = L'.drop i := ⟨_, rfl⟩
    rw [← hl5] at hlm hC5
    obtain ⟨m, hm⟩ : ∃ m, m = way.length - i := ⟨_, rfl⟩
    obtain ⟨c5, hc5⟩ : ∃ c5, c5 = c6 - i := ⟨_, rfl⟩
    rw [← hm] at hlm
    rw [← hm, ← hc5]
    have hm0 : 0 < m := by omega
    have hm1 : m ≤ 64 := by omega
    have hmc : m ≤ c5 := by omega
    have hmin := min_any (some ⟨g, i, none⟩) c5 l5 w5 hC5 (by omega) (by omega)
    have hmem := minL_mem (l := l5) l5.length (by omega) (Nat.le_refl _)
    rw [hlm] at hmin hmem
    obtain ⟨mv, hmv⟩ : ∃ mv, mv = minL l5 m := ⟨_, rfl⟩
    rw [← hmv] at hmin hmem
    obtain ⟨j, hj, hjm, _⟩ := idxF_at hmem
    rw [hlm] at hjm
    have hix := index_any (some ⟨g, i, none⟩) c5 l5 mv w5 hC5 (by omega)
    rw [hlm, hj] at hix
    have HB5 := Lib.hid (HB1.out.trans ((HB.out.trans (hb5.mono hgb)).mono HB1.out.size))
    have hjl' : (j : Int) ≤ m := by omega
    have hjl2 : (j : Int) < m := by omega
    have hjc : (j : Int) ≤ c5 := by omega
    have hcj : ¬ c5 = j := by omega
    have hj0 : (0 : Int) ≤ j := Int.natCast_nonneg j
    have hC5a := Lib.hid hC5
    have hl1 : (l5.drop j).length = m - j := by rw [List.length_drop, hlm]
    have hl2 : (l5.take j).length = j := by rw [List.length_take, hlm]; omega
    have HL1 := Lib.hid hl1
    have HL2 := Lib.hid hl2
    clear hrev hidx hb5 hL' hB5 hl5 hm hc5 hmem hmv hj hl1 hl2 hgB hC5
    go_upto_region 19 with fail
    go_wp2_with fail
    refine hmin.mono ?_
    rintro e w6 ⟨rfl, rfl⟩
    go_wp2_with fail
    refine hix.mono ?_
    rintro e w7 ⟨rfl, rfl⟩
    clear hmin hix
    go_upto_region 20 with fail
    have hD := Lib.hid (show ∀ W : World, Below w5.heap.size w5 W → RowsAt (W.alloc (.cells #[.slice (some ⟨g, i + j, none⟩) (m - j) (c5 - j), .slice (some ⟨g, i, none⟩) j c5] 25)) (W.alloc (.cells #[.slice (some ⟨g, i + j, none⟩) (m - j) (c5 - j), .slice (some ⟨g, i, none⟩) j c5] 25)).heap.size (some ⟨W.heap.size, 0, none⟩) [l5.drop j, l5.take j] from fun W hW _ => by
     have hb := Blk.new W 25 #[.slice (some ⟨g, i + j, none⟩) (m - j) (c5 - j), .slice (some ⟨g, i, none⟩) j c5]
     have hc := ((hC5a.out.below hW).alloc hW.size (.cells #[.slice (some ⟨g, i + j, none⟩) (m - j) (c5 - j), .slice (some ⟨g, i, none⟩) j c5] 25)).more (show w5.heap.size ≤ (W.alloc (.cells #[.slice (some ⟨g, i + j, none⟩) (m - j) (c5 - j), .slice (some ⟨g, i, none⟩) j c5] 25)).heap.size by rw [World.size_alloc]; have := hW.size; omega)
     refine ⟨W.heap.size, 0, rfl, hb.lt, fun k hk => ?_⟩
     match k, hk with
     | 0, _ => exact ⟨some ⟨g, i + j, none⟩, c5 - j, by rw [show ([l5.drop j, l5.take j] : List (List Int))[0] = l5.drop j from rfl, HL1.out]; exact hb.cell 0, Cells.drop_ hc j⟩
     | 1, _ => exact ⟨some ⟨g, i, none⟩, c5, by rw [show ([l5.drop j, l5.take j] : List (List Int))[1] = l5.take j from rfl, HL2.out]; exact hb.cell 1, Cells.take_ hc j⟩)
    have HCAT := Lib.hid (fun W (h : RowsAt W W.heap.size (some ⟨w5.heap.size, 0, none⟩) [l5.drop j, l5.take j]) => concat_any (some ⟨w5.heap.size, 0, none⟩) 2 [l5.drop j, l5.take j] W h (by simp) (by simp; omega))
    have hfl : ([l5.drop j, l5.take j] : List (List Int)).flatten.length = m := by simp [hlm]; omega
    rw [hfl] at HCAT
    go_region_held3 (fun _ => True)
     (exact True.intro)
     (first
      | (go_at_call 74; refine (HCAT.out _ (by exact hD.out w5 (Below.refl _ _))).mono ?_; rintro e w8 ⟨A8, c8, rfl, hb8, _⟩))
    have HB8 := Lib.hid (HB5.out.trans (((below_drew' ((Below.refl w5.heap.size w5).alloc (Nat.le_refl _) (.cells #[.slice (some ⟨g, i + j, none⟩) (m - j) (c5 - j), .slice (some ⟨g, i, none⟩) j c5] 25))).trans (hb8.mono (by show w5.heap.size ≤ (w5.alloc _).heap.size; rw [World.size_alloc]; exact Nat.le_succ _))).mono HB5.out.size))
    clear hb8
    go_wp2_with fail
    go_ret
    refine ⟨A8, m, c8, rfl, HB8.out, fun h => ?_, fun _ => hm0, by omega⟩
    rw [HO.out] at h
    cases h
   ·have hi0 : decide (idxF (wayI way) (x : Int) ≥ 0) = false := by rw [idxF_not (fun h => hxw (wayI_mem.1 h))]; rfl
    rw [hi0]
    have HWY2 := Lib.hid (show WayP n W (way ++ [x]) from ⟨List.nodup_append.2 ⟨HWY.out.nd, by simp, fun a ha b hb e => by
     rw [List.mem_singleton] at hb
     subst hb
     exact hxw (e ▸ ha)⟩, fun a ha => by
     rcases List.mem_append.1 ha with h | h
     ·exact HWY.out.lt a h
     ·rw [List.mem_singleton] at h; rw [h]; exact hx⟩)
    have hwl2 := nodup_lt_len HWY2.out.nd HWY2.out.lt
    rw [List.length_append, List.length_singleton] at hwl2
    have hzw := HB.out.size
    clear hi0 hxw
    go_upto_region 5 with fail
    go_wp2_with (at_builtin; refine wp_app elemInt rfl _ _ rfl w1.heap.size (.slice A6 way.length c6) _ _ rfl wr.heap.size [.int .i64 (x : Int)] rfl rfl HOW.out rfl rfl ?h2 ?h3 ?h4 ?_)
    case h2 => omega
    case h3 => omega
    case h4 => omega
    intro v5 w5 ho5 hg5 _
    obtain ⟨A5, c5, rfl⟩ := own_slice ho5
    have HB5 := Lib.hid (below_app HB.out HOW.out hg5 hzw (Nat.le_refl _))
    have HO5 := Lib.hid (show w5.ownsRow w1.heap.size 3 1 (.slice A5 (way.length + 1) c5) (way ++ [x]).length (intCells (wayI (way ++ [x]))) by
     rw [List.length_append, List.length_singleton]
     simpa [intCells, wayI] using ho5)
    have HBA := Lib.hid (HB1.out.trans (HB5.out.mono HB1.out.size))
    have hix : n + x < (os ++ is).length := by simp; omega
    have hro := HRW.out.own (n + x) hix (by rw [← HRW.out.len]; exact hix)
    rw [List.getElem_append_right (by omega), lsV_at_snd hx] at hro
    simp only [show n + x - os.length = x by omega] at hro
    obtain ⟨Ai, ci, hiv⟩ := own_slice hro
    have y3 := (HBA.out.cell (p := ⟨gv, 3, none⟩) lv).trans (HV.out.cell 3)
    have y1 := (HBA.out.cell (p := ⟨gv, 1, none⟩) lv).trans (HV.out.cell 1)
    simp only [List.getElem?_toArray, List.getElem?_cons_zero, List.getElem?_cons_succ] at y3 y1
    have yi : w5.cell? ⟨gi, x, none⟩ = some (.slice Ai (endsF es Prod.snd x es.length).length ci) := (HBA.out.cell (p := ⟨gi, x, none⟩) lgi).trans ((HGI.out.cell x).trans (by rw [← hiv]; simp [List.getElem?_eq_getElem (show x < is.length by omega)]))
    rw [hiv] at hro
    have HAI := Lib.hid ((Cells.of_own hro).below HBA.out)
    have HWB := Lib.hid (HWP.out x hx HXP.out)
    have HES5 := Lib.hid (HES.out.below HBA.out)
    have HWC := Lib.hid ((HW1.out.below HB5.out))
    obtain ⟨lx, hlx⟩ : ∃ z, z = (endsF es Prod.snd x es.length).length := ⟨_, rfl⟩
    have hlx2 : lx ≤ es.length := by rw [hlx]; exact endsF_length _ _ _ _
    rw [← hlx] at yi
    have HLX := Lib.hid hlx
    have hx' : (x : Int) < n := by omega
    clear ho5 hg5 hro hiv hlx HOW
    go_upto_region 7 with fail
    go_wp2_with fail
    go_loopg [7, 39] lx (fun m s7 s39 wr => ∃ (j : Nat) (bk : Int), s39 = .int .i64 j ∧ s7 = .int .i64 bk ∧ j ≤ lx ∧ m = lx - j ∧ w5 = wr ∧ (bk = -1 ∨ ∃ t : Nat, bk = t ∧ t < n ∧ W.getD t 0 > 0) ∧ (bk = -1 → ∀ j' (hj : j' < (endsF es Prod.snd x es.length).length), j' < j → ∀ i t : Nat, (endsF es Prod.snd x es.length)[j'] = (i : Int) → i < es.length → (es.getD i (0, 0)).1 = (t : Int) → t < n → ¬ W.getD t 0 > 0))
    case atStart => exact ⟨0, -1, rfl, rfl, Nat.zero_le _, rfl, rfl, .inl rfl, fun _ j' _ h => absurd h (Nat.not_lt_zero _)⟩
    case round =>
     obtain ⟨j, bk, rfl, rfl, hj, hm2, rfl, hbk, hno⟩ := hrel
     have Hm2 := Lib.hid hm2
     have HBK := Lib.hid hbk
     have HNO2 := Lib.hid hno
     clear hm2 hbk hno
     by_cases hjl : j < lx
     ·have hjl' : (j : Int) < lx := by omega
      have hjl2 : j < (endsF es Prod.snd x es.length).length := by have := HLX.out; omega
      obtain ⟨i, hei, hil2, _⟩ := endsF_at hjl2
      obtain ⟨bx, offx, rfl, hbx, hcx⟩ := HAI.out.ints (by omega)
      obtain ⟨b, off, rfl, hbb, hcc⟩ := HES5.out.edges (by omega)
      have c0 := hcx j hjl2
      rw [hei] at c0
      obtain ⟨e0, _⟩ := hcc i hil2
      have hge : es.getD i (0, 0) = es[i] := by rw [List.getD_eq_getElem?_getD, List.getElem?_eq_getElem hil2]; rfl
      obtain ⟨q0, q1, _, _⟩ := HE.out es[i] (List.getElem_mem hil2)
      obtain ⟨t, ht⟩ := Int.eq_ofNat_of_zero_le q0
      have ht' : es[i].1 = (t : Int) := ht
      rw [ht'] at e0
      have htn : t < n := by omega
      have htn' : (t : Int) < n := by omega
      have hil3 : (i : Int) < es.length := by omega
      obtain ⟨bw, ow, rfl, hbw, hcw⟩ := HWC.out.ints (by rw [HWL.out]; omega)
      have cw := hcw t (by rw [HWL.out]; exact htn)
      have hwv : W[t]'(by rw [HWL.out]; exact htn) = W.getD t 0 := by rw [List.getD_eq_getElem?_getD, List.getElem?_eq_getElem (by rw [HWL.out]; exact htn)]; rfl
      rw [hwv] at cw
      have HY := Lib.hid (show ¬ W.getD t 0 > 0 → (bk = -1 → ∀ j' (hj : j' < (endsF es Prod.snd x es.length).length), j' < j + 1 → ∀ i t : Nat, (endsF es Prod.snd x es.length)[j'] = (i : Int) → i < es.length → (es.getD i (0, 0)).1 = (t : Int) → t < n → ¬ W.getD t 0 > 0) from fun h hb j' hj' hl i2 t2 h1 h2 h3 h4 => by
       by_cases e : j' = j
       ·subst e
        rw [hei] at h1
        have : i2 = i := by omega
        subst this
        rw [hge, ht'] at h3
        have : t2 = t := by omega
        subst this
        exact h
       ·exact HNO2.out hb j' hj' (by omega) i2 t2 h1 h2 h3 h4)
      obtain ⟨wt, hwt⟩ : ∃ wt, wt = W.getD t 0 := ⟨_, rfl⟩
      have HWT := Lib.hid hwt
      rw [← hwt] at cw HY
      clear hcx hcc hcw q0 q1 ht ht' hei hge hwv hwt
      by_cases hpos : wt > 0
      ·have hpos' : decide (wt > 0) = true := decide_eq_true hpos
       have HPT := Lib.hid (show W.getD t 0 > 0 by rw [← HWT.out]; exact hpos)
       by_cases hb0 : bk < 0
       ·have hb0' : decide (bk < 0) = true := decide_eq_true hb0
        clear hpos
        go_wp2_with fail
        go_roundg (lx - (j + 1))
        case measure => rw [Hm2.out]; omega
        case rel => exact ⟨j + 1, t, by go_num, rfl, by omega, rfl, rfl, .inr ⟨t, rfl, htn, HPT.out⟩, fun h => absurd h (by omega)⟩
       ·have hb0' : decide (bk < 0) = false := decide_eq_false hb0
        by_cases htb : (t : Int) < bk
        ·have htb' : decide ((t : Int) < bk) = true := decide_eq_true htb
         clear hpos hb0
         go_wp2_with fail
         go_roundg (lx - (j + 1))
         case measure => rw [Hm2.out]; omega
         case rel => exact ⟨j + 1, t, by go_num, rfl, by omega, rfl, rfl, .inr ⟨t, rfl, htn, HPT.out⟩, fun h => absurd h (by omega)⟩
        ·have htb' : decide ((t : Int) < bk) = false := decide_eq_false htb
         have HB0 := Lib.hid hb0
         clear hpos hb0 htb
         go_wp2_with fail
         go_roundg (lx - (j + 1))
         case measure => rw [Hm2.out]; omega
         case rel => exact ⟨j + 1, bk, by go_num, rfl, by omega, rfl, rfl, HBK.out, fun h => absurd h (by have := HB0.out; omega)⟩
      ·have hpos' : decide (wt > 0) = false := decide_eq_false hpos
       have HY2 := Lib.hid (HY.out hpos)
       clear hpos
       go_wp2_with fail
       go_roundg (lx - (j + 1))
       case measure => rw [Hm2.out]; omega
       case rel => exact ⟨j + 1, bk, by go_num, rfl, by omega, rfl, rfl, HBK.out, HY2.out⟩
     ·have hje : j = lx := by omega
      have hjl' : ¬ (j : Int) < lx := by omega
      have HT := Lib.hid (show ∃ t : Nat, bk = t ∧ t < n ∧ W.getD t 0 > 0 by
       rcases HBK.out with h | h
       ·exfalso
        obtain ⟨j', hj', i, t, h1, h2, h3, h4, h5⟩ := HWB.out
        exact HNO2.out h j' hj' (by have := HLX.out; omega) i t h1 h2 h3 h4 h5
       ·exact h)
      obtain ⟨t, rfl, htn, htp⟩ := HT.out
      have HTP := Lib.hid htp
      clear hje htp HT
      go_wp2_with fail
      go_roundg (n - (way.length + 1))
      case measure => rw [Hm.out]; omega
      case rel => exact ⟨t, way ++ [x], rfl, htn, HTP.out, HWY2.out, by rw [List.length_append, List.length_singleton], HB5.out, HO5.out⟩
end Go.Proofs.YtneeknlhlkpnpaaGreat
namespace Go.Proofs.YtneeknlhlkpnpaaGreat
open Go.RowKit
structure GoodP (n : Int) (es : List (Int × Int)) : Prop where
 may : mayB n es = true
 loop : ∀ i, i < es.length → (es.getD i (0, 0)).1 ≠ (es.getD i (0, 0)).2
 twice : ∀ i, i < es.length → ∀ j, j < i → es.getD j (0, 0) ≠ es.getD i (0, 0)
 ord : ordB n.toNat es = true
 src : (bareV n.toNat es Prod.snd).length ≤ 1
def ChkPost (n : Int) (es : List (Int × Int)) (w : World) (e : Ending) (w' : World) : Prop := ∃ c a v, e = .returned (.agg #[.int .i64 c, .int .i64 a, v]) ∧ Below w.heap.size w w' ∧ (c = 0 ↔ GoodP n es)
theorem may_inN {n : Nat} {es : List (Int × Int)} (h : mayB n es = true) : InN n es := by
 intro e he
 obtain ⟨i, hi, hie⟩ := mem_getD he
 unfold mayB at h
 simp only [Bool.and_eq_true, Bool.not_eq_true', decide_eq_true_eq] at h
 have h2 := h.2
 unfold anyB at h2
 rw [List.any_eq_false] at h2
 have := h2 i (List.mem_range.2 hi)
 rw [hie] at this
 unfold badE outB at this
 simp only [Bool.or_eq_true, decide_eq_true_eq, not_or] at this
 omega
theorem fault_set {w : World} {g : Nat} {c0 a0 v0 : Value} (h : Blk w g 74 #[c0, a0, v0]) (c a v : Value) : Blk (((w.setCell ⟨g, 0, none⟩ c).setCell ⟨g, 1, none⟩ a).setCell ⟨g, 2, none⟩ v) g 74 #[c, a, v] :=
 ((h.set_ 0 c).set_ 1 a).set_ 2 v
theorem fault_below {B : Nat} {w0 w : World} (hb : Below B w0 w) {g : Nat} (hg : B ≤ g) (c a v : Value) : Below B w0 (((w.setCell ⟨g, 0, none⟩ c).setCell ⟨g, 1, none⟩ a).setCell ⟨g, 2, none⟩ v) :=
 ((hb.setCell (p := ⟨g, 0, none⟩) hg c).setCell (p := ⟨g, 1, none⟩) hg a).setCell (p := ⟨g, 2, none⟩) hg v
set_option maxRecDepth 20000 in
set_option maxHeartbeats 4000000 in
theorem check_any (n : Int) (A : Option Addr) (cap : Nat) (es : List (Int × Int)) (w : World) (hes : Cells w w.heap.size A (edgeCells es)) (hcap : es.length ≤ cap) :
  Calls Tryz.prog 38 #[.agg #[.int .i64 n, .slice A es.length cap]] w (ChkPost n es w) := by
 have S1 := Lib.hid (SG.start n cap hes (rs := []) (C := none) (fun h => absurd h (by simp)))
 clear hes
 have HF2 := Lib.hid (blk_new' (w.alloc (.cells #[.int .i64 n, .slice A es.length cap] 24)) (w.heap.size + 1) 74 #[.int .i64 0, .int .i64 0, .slice none 0 0] (by simp))
 have hb2 := (Below.refl (w.alloc (.cells #[.int .i64 n, .slice A es.length cap] 24)).heap.size (w.alloc (.cells #[.int .i64 n, .slice A es.length cap] 24))).alloc (Nat.le_refl _) (.cells #[.int .i64 0, .int .i64 0, .slice none 0 0] 74)
 have S2 := Lib.hid (S1.out.next hb2)
 clear hb2 S1
 go_enter Tryz.func38, Tryz.ntmps38
 go_upto_region 1 with fail
 obtain ⟨gF, hgF⟩ : ∃ gF, gF = w.heap.size + 1 := ⟨_, rfl⟩
 rw [← hgF] at HF2
 rw [← hgF]
 generalize (w.alloc (.cells #[.int .i64 n, .slice A es.length cap] 24)).alloc (.cells #[.int .i64 0, .int .i64 0, .slice none 0 0] 74) = w2 at *
 have HGF := Lib.hid hgF
 clear hgF
 have g0 := S2.out.g0
 have g1 := S2.out.g1
 go_wp2_with fail
 refine (may_any n A cap es w2 S2.out.es).mono ?_
 rintro e w3 ⟨rfl, hb3⟩
 have S3 := Lib.hid (S2.out.next hb3)
 have HF3 := Lib.hid (HF2.out.below hb3 HF2.out.lt)
 clear hb3 g0 g1
 have g0 := S3.out.g0
 have g1 := S3.out.g1
 cases hm : mayB n es with
 | false =>
  have HN := Lib.hid (show ¬ GoodP n es from fun h => by rw [h.may] at hm; cases hm)
  have f0 := HF3.out.cell 0
  have f1 := HF3.out.cell 1
  have f2 := HF3.out.cell 2
  have r0 := HF3.out.frozen 0
  have r1 := HF3.out.frozen 1
  have r2 := HF3.out.frozen 2
  simp only [List.getElem?_toArray, List.getElem?_cons_zero, List.getElem?_cons_succ] at f0 f1 f2
  clear hm
  go_wp2_with fail
  refine bodyPost_ret (results_cell_row Tryz.results38 _ _ gF 74 #[.int .i64 1, .int .i64 0, .slice none 0 0] (0, 0) _ rfl (fault_set HF3.out _ _ _) Tryz.underlying74 rfl (by kernel_rfl)) (by rfl) ?_
  exact ⟨_, _, _, rfl, fault_below S3.out.below (by have := HGF.out; omega) _ _ _, fun h => absurd h (by decide), fun h => absurd h HN.out⟩
 | true =>
  obtain ⟨hn0, hn1, hem⟩ := may_parts hm
  obtain ⟨N, rfl⟩ : ∃ N : Nat, n = N := ⟨n.toNat, by omega⟩
  have HIN := Lib.hid (may_inN hm)
  have HM := Lib.hid hm
  have hix := indexEdge_any A cap es 93 #[] (fun i => (es.getD i (0, 0)).1 == (es.getD i (0, 0)).2) w3 (by omega) S3.out.es callFunc_loop (fun i hi w' _ => by
   rw [List.getD_eq_getElem?_getD, List.getElem?_eq_getElem hi]
   exact loop1_any _ _ w')
  clear hm
  go_wp2_with fail
  refine hix.mono ?_
  rintro e w4 ⟨r, rfl, hb4, hr⟩
  have S4 := Lib.hid (S3.out.next hb4)
  have HF4 := Lib.hid (HF3.out.below hb4 HF3.out.lt)
  clear hix hb4 g0 g1
  have g0 := S4.out.g0
  have g1 := S4.out.g1
  rcases hr with ⟨rfl, hno⟩ | ⟨k, rfl, hk, hp, _⟩
  ·have HLP := Lib.hid (show ∀ i, i < es.length → (es.getD i (0, 0)).1 ≠ (es.getD i (0, 0)).2 from fun i hi e => by
    have h1 : ((es.getD i (0, 0)).1 == (es.getD i (0, 0)).2) = false := hno i hi
    rw [e] at h1
    simp at h1)
   clear hno
   go_upto_region 6 with fail
   go_wp2_with fail
   go_loopg [23] es.length (fun m s23 wr => ∃ i : Nat, s23 = .int .i64 i ∧ i ≤ es.length ∧ m = es.length - i ∧ Below w4.heap.size w4 wr ∧ ∀ i', i' < i → ∀ j, j < i' → es.getD j (0, 0) ≠ es.getD i' (0, 0))
   case atStart => exact ⟨0, rfl, Nat.zero_le _, rfl, Below.refl _ _, fun i' h => absurd h (Nat.not_lt_zero _)⟩
   case round =>
    obtain ⟨i, rfl, hi, hm2, hb, htw⟩ := hrel
    have Hk := Lib.hid hm2
    have HB := Lib.hid hb
    have HTW := Lib.hid htw
    have S5 := Lib.hid (S4.out.next hb)
    have HF5 := Lib.hid (HF4.out.below hb HF4.out.lt)
    clear hm2 hb htw g0 g1
    by_cases hil : i < es.length
    ·have hil' : (i : Int) < es.length := by omega
     obtain ⟨b, off, rfl, hbb, hcc⟩ := S5.out.es.edges (by omega)
     obtain ⟨c0, c1⟩ := hcc i hil
     have HV := Lib.hid (show es.getD i (0, 0) = (es[i].1, es[i].2) by rw [List.getD_eq_getElem?_getD, List.getElem?_eq_getElem hil]; rfl)
     obtain ⟨p, hp⟩ : ∃ p, p = es[i].1 := ⟨_, rfl⟩
     obtain ⟨q, hq⟩ : ∃ q, q = es[i].2 := ⟨_, rfl⟩
     rw [← hp] at c0 HV
     rw [← hq] at c1 HV
     have HE6 := Lib.hid (Blk.new wr 66 #[.int .i64 p, .int .i64 q])
     have hb6 := (Below.refl wr.heap.size wr).alloc (Nat.le_refl _) (.cells #[.int .i64 p, .int .i64 q] 66)
     have S6 := Lib.hid (S5.out.next hb6)
     have HB6 := Lib.hid (HB.out.trans (hb6.mono HB.out.size))
     have HF6 := Lib.hid (HF5.out.below hb6 HF5.out.lt)
     clear hb6 hcc hp hq c0 c1
     have c0 : wr.cell? ⟨b, off + i * 2, none⟩ = some (.int .i64 p) := by
      obtain ⟨b2, off2, e2, _, hcc⟩ := S5.out.es.edges (by omega)
      injection e2 with e2
      injection e2 with e3 e4 _
      subst e3 e4
      have h1 := (hcc i hil).1
      rw [show es[i].1 = p by have := HV.out; rw [List.getD_eq_getElem?_getD, List.getElem?_eq_getElem hil] at this; exact congrArg Prod.fst this] at h1
      exact h1
     have c1 : wr.cell? ⟨b, off + i * 2 + 1, none⟩ = some (.int .i64 q) := by
      obtain ⟨b2, off2, e2, _, hcc⟩ := S5.out.es.edges (by omega)
      injection e2 with e2
      injection e2 with e3 e4 _
      subst e3 e4
      have h1 := (hcc i hil).2
      rw [show es[i].2 = q by have := HV.out; rw [List.getD_eq_getElem?_getD, List.getElem?_eq_getElem hil] at this; exact congrArg Prod.snd this] at h1
      exact h1
     go_upto_region 9 with fail
     obtain ⟨gE, hgE⟩ : ∃ gE, gE = wr.heap.size := ⟨_, rfl⟩
     rw [← hgE] at HE6
     rw [← hgE]
     generalize wr.alloc (.cells #[.int .i64 p, .int .i64 q] 66) = w6 at *
     have g0 := S6.out.g0
     have g1 := S6.out.g1
     have e0 := HE6.out.cell 0
     have e1 := HE6.out.cell 1
     simp only [List.getElem?_toArray, List.getElem?_cons_zero, List.getElem?_cons_succ] at e0 e1
     have hic : (i : Int) ≤ cap := by omega
     have hi0 : (0 : Int) ≤ i := Int.natCast_nonneg i
     have hiL : i ≤ es.length := by omega
     have heL : es.length ≤ 1000 := by omega
     have hl6 := S6.out.lt
     have hgE6 := HE6.out.lt
     have KS := Lib.hid (show ∀ w', Below w6.heap.size w6 w' → w'.cell? ⟨w.heap.size, 1, none⟩ = some (.slice (some ⟨b, off, none⟩) es.length cap) ∧ (w'.cell? ⟨gE, 0, none⟩ = some (.int .i64 p) ∧ w'.cell? ⟨gE, 1, none⟩ = some (.int .i64 q)) from fun w' h => ⟨(h.cell (p := ⟨w.heap.size, 1, none⟩) hl6).trans g1, (h.cell (p := ⟨gE, 0, none⟩) hgE6).trans e0, (h.cell (p := ⟨gE, 1, none⟩) hgE6).trans e1⟩)
     clear c0 c1 hgE
     go_region_held3 (fun w' => w'.cell? ⟨w.heap.size, 1, none⟩ = some (.slice (some ⟨b, off, none⟩) es.length cap) ∧ (w'.cell? ⟨gE, 0, none⟩ = some (.int .i64 p) ∧ w'.cell? ⟨gE, 1, none⟩ = some (.int .i64 q)))
      (first | exact ⟨g1, ⟨e0, e1⟩⟩ | exact KS.out _ hb7)
      (first
       | (go_at_call 94; refine (containsE_any (some ⟨b, off, none⟩) cap es p q i _ hiL heL (by exact S6.out.es)).mono ?_; rintro e w7 ⟨r7, rfl, hb7', hr7⟩; have hb7 := below_undrew hb7'; clear hb7'))
     have S7 := Lib.hid (S6.out.next hb7)
     have HF7 := Lib.hid (HF6.out.below hb7 HF6.out.lt)
     have HB7 := Lib.hid (HB6.out.trans (hb7.mono HB6.out.size))
     have HR7 := Lib.hid hr7
     clear hb7 hr7 KS g0 g1 e0 e1
     cases r7 with
     | true =>
      have HNG := Lib.hid (show ¬ GoodP N es from fun h => by
       obtain ⟨j, h1, h2⟩ := HR7.out.1 rfl
       exact h.twice i hil j h1 (by rw [h2, HV.out]))
      have f0 := HF7.out.cell 0
      have f1 := HF7.out.cell 1
      have f2 := HF7.out.cell 2
      have r0 := HF7.out.frozen 0
      have r1 := HF7.out.frozen 1
      have r2 := HF7.out.frozen 2
      simp only [List.getElem?_toArray, List.getElem?_cons_zero, List.getElem?_cons_succ] at f0 f1 f2
      go_wp2_with fail
      refine bodyPost_ret (results_cell_row Tryz.results38 _ _ gF 74 #[.int .i64 14, .int .i64 i, .slice none 0 0] (0, 0) _ rfl (fault_set HF7.out _ _ _) Tryz.underlying74 rfl (by kernel_rfl)) (by rfl) ?_
      exact ⟨_, _, _, rfl, fault_below S7.out.below (by have := HGF.out; omega) _ _ _, fun h => absurd h (by decide), fun h => absurd h HNG.out⟩
     | false =>
      have HTW2 := Lib.hid (show ∀ i', i' < i + 1 → ∀ j, j < i' → es.getD j (0, 0) ≠ es.getD i' (0, 0) from fun i' hi' j hj e => by
       by_cases h : i' = i
       ·subst h
        have := HR7.out.2 ⟨j, hj, by rw [e, HV.out]⟩
        cases this
       ·exact HTW.out i' (by omega) j hj e)
      go_wp2_with fail
      go_roundg (es.length - (i + 1))
      case measure => rw [Hk.out]; omega
      case rel => exact ⟨i + 1, by go_num, by omega, rfl, HB7.out, HTW2.out⟩
    ·have hie : i = es.length := by omega
     have hil' : ¬ (i : Int) < es.length := by omega
     have HTW2 := Lib.hid (show ∀ i', i' < es.length → ∀ j, j < i' → es.getD j (0, 0) ≠ es.getD i' (0, 0) from fun i' h => HTW.out i' (by omega))
     have hview := view_any N A cap es wr S5.out.es
     have hv1 : vN N es = N := by unfold vN; rw [if_pos HM.out]; rfl
     have hv2 : vE N es = es := by unfold vE; rw [if_pos HM.out]
     rw [hv1, hv2] at hview
     have g0 := S5.out.g0
     have g1 := S5.out.g1
     have hN1 : N ≤ 64 := by omega
     have heL : es.length ≤ 1000 := by omega
     clear hie hv1 hv2
     go_upto_region 12 with fail
     go_wp2_with fail
     refine hview.mono ?_
     rintro e w6 ⟨gv, rfl, hb6, hvw⟩
     have S6 := Lib.hid (S5.out.next hb6)
     have HF6 := Lib.hid (HF5.out.below hb6 HF5.out.lt)
     have HVW := Lib.hid hvw
     clear hview hb6 hvw g0 g1
     go_wp2_with fail
     refine (cycle_any gv N es w6 HVW.out HIN.out hN1 heL).mono ?_
     rintro e w7 ⟨A7, L7, c7, rfl, hb7, hc1, hc2, hc3⟩
     have S7 := Lib.hid (S6.out.next hb7)
     have HF7 := Lib.hid (HF6.out.below hb7 HF6.out.lt)
     have HVW7 := Lib.hid (HVW.out.below hb7 (Nat.le_refl _))
     clear hb7
     cases ho : ordB N es with
     | false =>
      have hL : (L7 : Int) > 0 := by have := hc2 ho; omega
      have hL' : decide ((L7 : Int) > 0) = true := decide_eq_true hL
      have HNG := Lib.hid (show ¬ GoodP N es from fun h => by
       have := h.ord
       rw [Int.toNat_natCast, ho] at this
       cases this)
      have f0 := HF7.out.cell 0
      have f1 := HF7.out.cell 1
      have f2 := HF7.out.cell 2
      have r0 := HF7.out.frozen 0
      have r1 := HF7.out.frozen 1
      have r2 := HF7.out.frozen 2
      simp only [List.getElem?_toArray, List.getElem?_cons_zero, List.getElem?_cons_succ] at f0 f1 f2
      clear hc1 hc2 ho
      go_wp2_with fail
      refine bodyPost_ret (results_cell_row Tryz.results38 _ _ gF 74 #[.int .i64 15, .int .i64 0, .slice A7 L7 c7] (0, 0) _ rfl (fault_set HF7.out _ _ _) Tryz.underlying74 rfl (by kernel_rfl)) (by rfl) ?_
      exact ⟨_, _, _, rfl, fault_below S7.out.below (by have := HGF.out; omega) _ _ _, fun h => absurd h (by decide), fun h => absurd h HNG.out⟩
     | true =>
      have hL : L7 = 0 := hc1 ho
      subst hL
      have HO := Lib.hid ho
      clear hc1 hc2 ho
      go_wp2_with fail
      refine (sources_any gv N es w7 HVW7.out (by omega) heL).mono ?_
      rintro e w8 ⟨v8, rfl, hb8, ho8⟩
      obtain ⟨A8, c8, rfl⟩ := own_slice ho8
      have S8 := Lib.hid (S7.out.next hb8)
      have HF8 := Lib.hid (HF7.out.below hb8 HF7.out.lt)
      have hsl : (bareVI N es Prod.snd).length = (bareV N es Prod.snd).length := by simp [bareVI]
      have hsle := bareV_le N es Prod.snd
      have hoc : (bareVI N es Prod.snd).length ≤ c8 := by
       rcases Nat.eq_zero_or_pos (bareVI N es Prod.snd).length with h | h
       ·omega
       ·obtain ⟨_, _, _, _, _, _, h5, _⟩ := own_some ho8 h
        exact h5
      rw [hsl] at hoc
      rw [hsl]
      obtain ⟨L8, hL8⟩ : ∃ L8, L8 = (bareV N es Prod.snd).length := ⟨_, rfl⟩
      rw [← hL8] at hoc hsle
      rw [← hL8]
      have HL8 := Lib.hid hL8
      clear hb8 ho8 hsl hL8
      have f0 := HF8.out.cell 0
      have f1 := HF8.out.cell 1
      have f2 := HF8.out.cell 2
      have r0 := HF8.out.frozen 0
      have r1 := HF8.out.frozen 1
      have r2 := HF8.out.frozen 2
      simp only [List.getElem?_toArray, List.getElem?_cons_zero, List.getElem?_cons_succ] at f0 f1 f2
      by_cases h2 : (L8 : Int) > 1
      ·have h2' : decide ((L8 : Int) > 1) = true := decide_eq_true h2
       have hc8 : (2 : Int) ≤ c8 := by omega
       have hc8' : 2 ≤ c8 := by omega
       have HNG := Lib.hid (show ¬ GoodP N es from fun h => by
        have := h.src
        rw [Int.toNat_natCast, ← HL8.out] at this
        omega)
       clear h2
       go_wp2_with fail
       refine bodyPost_ret (results_cell_row Tryz.results38 _ _ gF 74 #[.int .i64 16, .int .i64 0, .slice A8 2 2] (0, 0) _ rfl (fault_set HF8.out _ _ _) Tryz.underlying74 rfl (by kernel_rfl)) (by rfl) ?_
       exact ⟨_, _, _, rfl, fault_below S8.out.below (by have := HGF.out; omega) _ _ _, fun h => absurd h (by decide), fun h => absurd h HNG.out⟩
      ·have h2' : decide ((L8 : Int) > 1) = false := decide_eq_false h2
       have HG := Lib.hid (show GoodP N es from ⟨HM.out, HLP.out, HTW2.out, by rw [Int.toNat_natCast]; exact HO.out, by rw [Int.toNat_natCast, ← HL8.out]; omega⟩)
       clear h2
       go_wp2_with fail
       refine bodyPost_ret (results_cell_row Tryz.results38 _ _ gF 74 #[.int .i64 0, .int .i64 0, .slice none 0 0] (0, 0) _ rfl (fault_set HF8.out _ _ _) Tryz.underlying74 rfl (by kernel_rfl)) (by rfl) ?_
       exact ⟨_, _, _, rfl, fault_below S8.out.below (by have := HGF.out; omega) _ _ _, fun _ => HG.out, fun _ => rfl⟩
  ·have HNG := Lib.hid (show ¬ GoodP N es from fun h => h.loop k hk (by simpa using hp))
   clear hp
   have f0 := HF4.out.cell 0
   have f1 := HF4.out.cell 1
   have f2 := HF4.out.cell 2
   have r0 := HF4.out.frozen 0
   have r1 := HF4.out.frozen 1
   have r2 := HF4.out.frozen 2
   simp only [List.getElem?_toArray, List.getElem?_cons_zero, List.getElem?_cons_succ] at f0 f1 f2
   have hk0 : (k : Int) ≥ 0 := Int.natCast_nonneg k
   go_wp2_with fail
   refine bodyPost_ret (results_cell_row Tryz.results38 _ _ gF 74 #[.int .i64 13, .int .i64 k, .slice none 0 0] (0, 0) _ rfl (fault_set HF4.out _ _ _) Tryz.underlying74 rfl (by kernel_rfl)) (by rfl) ?_
   exact ⟨_, _, _, rfl, fault_below S4.out.below (by have := HGF.out; omega) _ _ _, fun h => absurd h (by decide), fun h => absurd h HNG.out⟩
end Go.Proofs.YtneeknlhlkpnpaaGreat
namespace Go.Proofs.YtneeknlhlkpnpaaGreat
open Go.RowKit
section
variable {n : Nat} {es : List (Int × Int)}
def linkB (L : List Bool) (x : Nat) (e : Int × Int) : Bool := L.getD e.1.toNat false && (L.getD e.2.toNat false && decide (e.2 = (x : Int)))
def nextJ (n : Nat) (es : List (Int × Int)) (L : List Bool) (j : Nat) : List Bool := (List.range n).map fun x => (es.take j).any (linkB L x)
def leftR (n : Nat) (es : List (Int × Int)) : Nat → List Bool
 | 0 => List.replicate n true
 | k + 1 => nextJ n es (leftR n es k) es.length
theorem nextJ_length (n : Nat) (es : List (Int × Int)) (L : List Bool) (j : Nat) : (nextJ n es L j).length = n := by simp [nextJ]
theorem leftR_length : ∀ k, (leftR n es k).length = n
 | 0 => by simp [leftR]
 | k + 1 => nextJ_length _ _ _ _
theorem nextJ_zero (n : Nat) (es : List (Int × Int)) (L : List Bool) : nextJ n es L 0 = List.replicate n false := by
 apply List.ext_getElem
 ·simp [nextJ]
 ·intro i h1 h2
  simp [nextJ]
theorem nextJ_hit {L : List Bool} {j t : Nat} (hj : j < es.length) (ht : es[j].2 = (t : Int)) (h : (L.getD es[j].1.toNat false && L.getD t false) = true) : (nextJ n es L j).set t true = nextJ n es L (j + 1) := by
 unfold nextJ
 refine map_range_set n t _ _ true ?_ (fun x hx => ?_)
 ·rw [List.take_succ_eq_append_getElem hj, List.any_append]
  have : linkB L t es[j] = true := by
   unfold linkB
   rw [ht, Int.toNat_natCast, ← Bool.and_assoc, h]
   simp
  simp [this]
 ·rw [List.take_succ_eq_append_getElem hj, List.any_append]
  have : linkB L x es[j] = false := by
   unfold linkB
   rw [ht, decide_eq_false (by omega)]
   simp
  simp [this]
theorem nextJ_miss {L : List Bool} {j t : Nat} (hj : j < es.length) (ht : es[j].2 = (t : Int)) (h : (L.getD es[j].1.toNat false && L.getD t false) = false) : nextJ n es L (j + 1) = nextJ n es L j := by
 unfold nextJ
 refine List.map_congr_left fun x _ => ?_
 rw [List.take_succ_eq_append_getElem hj, List.any_append]
 have : linkB L x es[j] = false := by
  unfold linkB
  rw [ht, Int.toNat_natCast, ← Bool.and_assoc, h]
  rfl
 simp [this]
end
end Go.Proofs.YtneeknlhlkpnpaaGreat
namespace Go.Proofs.YtneeknlhlkpnpaaGreat
open Go.RowKit
def trueT (n i : Nat) : List Bool := List.replicate i true ++ List.replicate (n - i) false
theorem trueT_length {n i : Nat} (h : i ≤ n) : (trueT n i).length = n := by simp [trueT]; omega
theorem trueT_set {n i : Nat} (h : i < n) : (trueT n i).set i true = trueT n (i + 1) := by
 unfold trueT
 rw [List.set_append_right (h := by simp), List.length_replicate, Nat.sub_self, show n - i = (n - (i + 1)) + 1 by omega, List.replicate_succ, List.set_cons_zero, List.replicate_succ', List.append_assoc]
 rfl
def LeftPost (n : Nat) (L : List Bool) (w : World) (e : Ending) (w' : World) : Prop := ∃ g, e = .returned (.slice (some ⟨g, 0, none⟩) n n) ∧ Below w.heap.size w w' ∧ Blk w' g 4 (boolCells L).toArray ∧ w.heap.size ≤ g
set_option maxRecDepth 20000 in
set_option maxHeartbeats 4000000 in
theorem left_any (n : Nat) (A : Option Addr) (cap : Nat) (es : List (Int × Int)) (w : World) (hes : Cells w w.heap.size A (edgeCells es)) (hE : InN n es) (hn : n ≤ 64) (hl : es.length ≤ 1000) :
  Calls Tryz.prog 158 #[.agg #[.int .i64 n, .slice A es.length cap]] w (LeftPost n (leftR n es n) w) := by
 have S1 := Lib.hid (SG.start n cap hes (rs := []) (C := none) (fun h => absurd h (by simp)))
 have HE := Lib.hid hE
 clear hes hE
 have hmk := fun W => run_make1 elemBool rfl n (by omega) (by omega) W
 go_enter Tryz.func158, Tryz.ntmps158
 go_upto_region 1 with fail
 generalize w.alloc (.cells #[.int .i64 n, .slice A es.length cap] 24) = w1 at *
 have g0 := S1.out.g0
 have g1 := S1.out.g1
 have HB2 := Lib.hid (Blk.new w1 4 (Array.replicate n (.bool false)))
 have hb2 := (Below.refl w1.heap.size w1).alloc (Nat.le_refl _) (.cells (Array.replicate n (.bool false)) 4)
 have HBL2 := Lib.hid hb2
 have hz2 := World.size_alloc w1 (.cells (Array.replicate n (.bool false)) 4)
 clear hb2
 go_upto_region 2 with fail
 obtain ⟨gL, hgL⟩ : ∃ gL, gL = w1.heap.size := ⟨_, rfl⟩
 rw [← hgL] at HB2 hz2 HBL2
 rw [← hgL]
 generalize w1.alloc (.cells (Array.replicate n (.bool false)) 4) = w2 at *
 have HGL := Lib.hid hgL
 have HL0 := Lib.hid (show Blk w2 gL 4 (boolCells (trueT n 0)).toArray by simpa [trueT, boolCells] using HB2.out)
 clear hgL HB2 g0 g1
 go_wp2_with fail
 go_loopg [4] n (fun m s4 wr => ∃ i : Nat, s4 = .int .i64 i ∧ i ≤ n ∧ m = n - i ∧ But [gL] w2 wr ∧ Blk wr gL 4 (boolCells (trueT n i)).toArray)
 case atStart => exact ⟨0, rfl, Nat.zero_le _, rfl, But.refl _ _, HL0.out⟩
 case round =>
  obtain ⟨i, rfl, hi, hm, hb, hbl⟩ := hrel
  have Hm := Lib.hid hm
  have HB := Lib.hid hb
  have HBL := Lib.hid hbl
  have hbw := HBL2.out.trans (HB.out.below (B := gL) (by omega) (by simp))
  have S3 := Lib.hid (S1.out.next (w' := wr) (by rw [← HGL.out]; exact hbw))
  have HBW := Lib.hid hbw
  have g0 := S3.out.g0
  clear hm hb hbl hbw
  by_cases hil : i < n
  ·have hil' : (i : Int) < n := by omega
   have hlen := trueT_length (n := n) (i := i) hi
   have cv := HBL.out.bool (k := i) (by omega)
   have fv := HBL.out.frozen i
   have HN := Lib.hid (show Blk (wr.setCell ⟨gL, i, none⟩ (.bool true)) gL 4 (boolCells (trueT n (i + 1))).toArray by rw [← trueT_set hil]; exact HBL.out.setBool i true)
   have HBN := Lib.hid (HB.out.trans (But.set_ wr (show gL ∈ [gL] by simp) i (.bool true)))
   generalize (trueT n i).getD i false = v at *
   clear hlen
   go_wp2_with fail
   go_roundg (n - (i + 1))
   case measure => rw [Hm.out]; omega
   case rel => exact ⟨i + 1, by go_num, by omega, rfl, HBN.out, HN.out⟩
  ·have hie : i = n := by omega
   have hil' : ¬ (i : Int) < n := by omega
   have HL3 := Lib.hid (show Blk wr gL 4 (boolCells (leftR n es 0)).toArray by
    have h1 := HBL.out
    rw [hie] at h1
    simpa [trueT, leftR] using h1)
   have hglw := HBL.out.lt
   have HGW := Lib.hid (show w.heap.size ≤ gL by have := S1.out.lt; have := HGL.out; omega)
   clear hie HB HBL
   go_upto_region 6 with fail
   obtain ⟨w3, rfl⟩ : ∃ y, y = wr := ⟨_, rfl⟩
   go_wp2_with fail
   go_loopg [3, 5] n (fun m s3 s5 wr => ∃ (i g : Nat), s5 = .int .i64 i ∧ s3 = .slice (some ⟨g, 0, none⟩) n n ∧ i ≤ n ∧ m = n - i ∧ gL ≤ g ∧ Below gL w1 wr ∧ Blk wr g 4 (boolCells (leftR n es i)).toArray)
   case atStart => exact ⟨0, gL, rfl, rfl, Nat.zero_le _, rfl, Nat.le_refl _, HBW.out, HL3.out⟩
   case round =>
    obtain ⟨i, g, rfl, rfl, hi, hm, hgg, hb, hbl⟩ := hrel
    have Hm := Lib.hid hm
    have HB := Lib.hid hb
    have HBL := Lib.hid hbl
    have S4 := Lib.hid (S1.out.next (w' := wr) (by rw [← HGL.out]; exact hb))
    have g0 := S4.out.g0
    have g1 := S4.out.g1
    have hzg : gL ≤ wr.heap.size := by have := hbl.lt; omega
    clear hm hb hbl
    by_cases hil : i < n
    ·have hil' : (i : Int) < n := by omega
     have hmk := fun W => run_make1 elemBool rfl n (by omega) (by omega) W
     have HN5 := Lib.hid (Blk.new wr 4 (Array.replicate n (.bool false)))
     have hb5 := (Below.refl wr.heap.size wr).alloc (Nat.le_refl _) (.cells (Array.replicate n (.bool false)) 4)
     have hz5 := World.size_alloc wr (.cells (Array.replicate n (.bool false)) 4)
     have HB5 := Lib.hid (HB.out.trans (hb5.mono hzg))
     have HBL5 := Lib.hid (HBL.out.below hb5 HBL.out.lt)
     have hgl := HBL.out.lt
     clear hb5
     go_upto_region 10 with fail
     obtain ⟨gN, hgN⟩ : ∃ gN, gN = wr.heap.size := ⟨_, rfl⟩
     rw [← hgN] at HN5 hz5 hgl
     rw [← hgN]
     generalize wr.alloc (.cells (Array.replicate n (.bool false)) 4) = w5 at *
     have HN0 := Lib.hid (show Blk w5 gN 4 (boolCells (nextJ n es (leftR n es i) 0)).toArray by rw [nextJ_zero]; simpa [boolCells] using HN5.out)
     have hLl := leftR_length (n := n) (es := es) i
     have HLS := Lib.hid (show leftR n es (i + 1) = nextJ n es (leftR n es i) es.length from rfl)
     generalize leftR n es i = L at *
     have hgz : gL ≤ gN := by omega
     have HS5 := Lib.hid (S1.out.next (w' := w5) (by rw [← HGL.out]; exact HB5.out))
     clear hgN hmk g0 g1 HN5
     go_wp2_with fail
     go_loopg [7] es.length (fun m s7 wr => ∃ j : Nat, s7 = .int .i64 j ∧ j ≤ es.length ∧ m = es.length - j ∧ But [gN] w5 wr ∧ Blk wr gN 4 (boolCells (nextJ n es L j)).toArray)
     case atStart => exact ⟨0, rfl, Nat.zero_le _, rfl, But.refl _ _, HN0.out⟩
     case round =>
      obtain ⟨j, rfl, hj, hm2, hb, hbl⟩ := hrel
      have Hm2 := Lib.hid hm2
      have HBJ := Lib.hid hb
      have HBN := Lib.hid hbl
      have HB6 := Lib.hid (HB5.out.trans (hb.below (B := gL) (by omega) (by simpa using hgz)))
      have S6 := Lib.hid (S1.out.next (w' := wr) (by rw [← HGL.out]; exact HB6.out))
      have HBL6 := Lib.hid (hb.blk HBL5.out (by simp; omega))
      have g0 := S6.out.g0
      have g1 := S6.out.g1
      clear hm2 hb hbl
      by_cases hjl : j < es.length
      ·have hjl' : (j : Int) < es.length := by omega
       obtain ⟨b, off, rfl, hbb, hcc⟩ := S6.out.es.edges (by omega)
       obtain ⟨c0, c1⟩ := hcc j hjl
       obtain ⟨q0, q1, q2, q3⟩ := HE.out es[j] (List.getElem_mem hjl)
       obtain ⟨s, hs⟩ := Int.eq_ofNat_of_zero_le q0
       obtain ⟨t, ht⟩ := Int.eq_ofNat_of_zero_le q2
       have hs' : es[j].1 = (s : Int) := hs
       have ht' : es[j].2 = (t : Int) := ht
       have HHIT := Lib.hid (fun h => nextJ_hit (n := n) (L := L) hjl ht' h)
       have HMISS := Lib.hid (fun h => nextJ_miss (n := n) (L := L) hjl ht' h)
       rw [hs', Int.toNat_natCast] at HHIT HMISS
       rw [hs'] at c0
       rw [ht'] at c1
       have hsn : s < n := by omega
       have htn : t < n := by omega
       have hsn' : (s : Int) < n := by omega
       have htn' : (t : Int) < n := by omega
       have HE7 := Lib.hid (Blk.new wr 66 #[.int .i64 s, .int .i64 t])
       have hb7 := (Below.refl wr.heap.size wr).alloc (Nat.le_refl _) (.cells #[.int .i64 s, .int .i64 t] 66)
       have HBJ7 := Lib.hid (HBJ.out.trans (But.of_below [gN] hb7 (Nat.le_refl _)))
       have HBL7 := Lib.hid (HBL6.out.below hb7 HBL6.out.lt)
       have HBN7 := Lib.hid (HBN.out.below hb7 HBN.out.lt)
       clear hcc q0 q1 q2 q3 hs ht hs' ht' hb7
       go_upto_region 14 with fail
       obtain ⟨gE, hgE⟩ : ∃ gE, gE = wr.heap.size := ⟨_, rfl⟩
       rw [← hgE] at HE7
       rw [← hgE]
       generalize wr.alloc (.cells #[.int .i64 s, .int .i64 t] 66) = w7 at *
       have e0 := HE7.out.cell 0
       have e1 := HE7.out.cell 1
       simp only [List.getElem?_toArray, List.getElem?_cons_zero, List.getElem?_cons_succ] at e0 e1
       have ls := HBL7.out.bool (k := s) (by omega)
       have lt := HBL7.out.bool (k := t) (by omega)
       have nt := HBN7.out.bool (k := t) (by rw [nextJ_length]; exact htn)
       have fn := HBN7.out.frozen t
       obtain ⟨bs, hbs⟩ : ∃ bs, bs = L.getD s false := ⟨_, rfl⟩
       obtain ⟨bt, hbt⟩ : ∃ bt, bt = L.getD t false := ⟨_, rfl⟩
       rw [← hbs] at ls HHIT HMISS
       rw [← hbt] at lt HHIT HMISS
       obtain ⟨nv, hnv⟩ : ∃ nv, nv = (nextJ n es L j).getD t false := ⟨_, rfl⟩
       rw [← hnv] at nt
       clear c0 c1 g0 g1 hgE hbs hbt hnv
       cases bs with
       | false =>
        have HN := Lib.hid (show Blk w7 gN 4 (boolCells (nextJ n es L (j + 1))).toArray by rw [HMISS.out rfl]; exact HBN7.out)
        go_wp2_with fail
        go_roundg (es.length - (j + 1))
        case measure => rw [Hm2.out]; omega
        case rel => exact ⟨j + 1, by go_num, by omega, rfl, HBJ7.out, HN.out⟩
       | true =>
        cases bt with
        | false =>
         have HN := Lib.hid (show Blk w7 gN 4 (boolCells (nextJ n es L (j + 1))).toArray by rw [HMISS.out rfl]; exact HBN7.out)
         go_wp2_with fail
         go_roundg (es.length - (j + 1))
         case measure => rw [Hm2.out]; omega
         case rel => exact ⟨j + 1, by go_num, by omega, rfl, HBJ7.out, HN.out⟩
        | true =>
         have HN := Lib.hid (show Blk (w7.setCell ⟨gN, t, none⟩ (.bool true)) gN 4 (boolCells (nextJ n es L (j + 1))).toArray by rw [← HHIT.out rfl]; exact HBN7.out.setBool t true)
         have HBJ8 := Lib.hid (HBJ7.out.trans (But.set_ w7 (show gN ∈ [gN] by simp) t (.bool true)))
         go_wp2_with fail
         go_roundg (es.length - (j + 1))
         case measure => rw [Hm2.out]; omega
         case rel => exact ⟨j + 1, by go_num, by omega, rfl, HBJ8.out, HN.out⟩
      ·have hje : j = es.length := by omega
       have hjl' : ¬ (j : Int) < es.length := by omega
       have HNX := Lib.hid (show Blk wr gN 4 (boolCells (leftR n es (i + 1))).toArray by rw [HLS.out, ← hje]; exact HBN.out)
       clear hje
       go_wp2_with fail
       go_roundg (n - (i + 1))
       case measure => rw [Hm.out]; omega
       case rel => exact ⟨i + 1, gN, by go_num, rfl, by omega, rfl, hgz, HB6.out, HNX.out⟩
    ·have hie : i = n := by omega
     have hil' : ¬ (i : Int) < n := by omega
     have HFIN := Lib.hid (show Blk wr g 4 (boolCells (leftR n es n)).toArray by
      have h := HBL.out
      rw [hie] at h
      exact h)
     have hwg : w.heap.size ≤ g := by have := HGW.out; omega
     clear hie g1
     go_wp2_with fail
     go_ret
     exact ⟨g, rfl, S4.out.below, HFIN.out, hwg⟩
end Go.Proofs.YtneeknlhlkpnpaaGreat
namespace Go.Proofs.YtneeknlhlkpnpaaGreat
open Go.RowKit
end Go.Proofs.YtneeknlhlkpnpaaGreat
namespace Go.Proofs.YtneeknlhlkpnpaaGreat
open Go.RowKit
noncomputable def goodB (n : Int) (es : List (Int × Int)) : Bool := tst (GoodP n es)
end Go.Proofs.YtneeknlhlkpnpaaGreat
