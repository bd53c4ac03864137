import Derived.Test.YtneeknlhlkpnpaaGreatZMem
import Derived.RegionTactic
import Derived.ChangeAlike
import Derived.Laws.EntriesVeiled
namespace Go.Proofs.YtneeknlhlkpnpaaGreat
open Go.RowKit
def setHas (s : Nat) (x : Int) : Bool := decide (0 ≤ x) && decide (x < 64) && s.testBit x.toNat
theorem has_bit (s k : Nat) (hs : s < 18446744073709551616) : (bits .and .u64 ((s : Int) / 2 ^ k) 1 == 1) = s.testBit k := by
 have e1 : (s : Int) / 2 ^ k = ((s / 2 ^ k : Nat) : Int) := by simp
 have hlt : s / 2 ^ k < 18446744073709551616 := Nat.lt_of_le_of_lt (Nat.div_le_self _ _) hs
 rw [e1]
 have := u64_and_nat (s / 2 ^ k) 1 hlt (by omega)
 rw [show ((1 : Nat) : Int) = 1 from rfl] at this
 rw [this, Nat.and_one_is_mod, Nat.testBit_eq_decide_div_mod_eq, Bool.eq_iff_iff]
 simp
 omega
theorem has_any (s : Nat) (x : Int) (w : World) (hs : s < 18446744073709551616) :
  Calls Tryz.prog 141 #[.int .u64 s, .int .i64 x] w fun e w' => e = .returned (.bool (setHas s x)) ∧ w = w' := by
 by_cases h0 : 0 ≤ x
 ·by_cases h1 : x < 64
  ·go_enter Tryz.func141, Tryz.ntmps141
   go_wp2
   go_ret
   refine ⟨ret_bool ?_, rfl⟩
   rw [has_bit s _ hs]
   simp [setHas, h0, h1]
  ·go_enter Tryz.func141, Tryz.ntmps141
   go_wp2
   go_ret
   exact ⟨ret_bool (by simp [setHas]; intro _ _; omega), rfl⟩
 ·go_enter Tryz.func141, Tryz.ntmps141
  go_wp2
  go_ret
  exact ⟨ret_bool (by simp [setHas]; intro _; omega), rfl⟩
def outB (n x : Int) : Bool := decide (x < 0) || decide (n ≤ x)
theorem out_any (n x : Int) (b : Nat) (w : World) (hb : w.cell? ⟨b, 0, none⟩ = some (.int .i64 n)) :
  Calls Tryz.prog 127 #[.int .i64 x, .pointer (some ⟨b, 0, none⟩)] w fun e w' => e = .returned (.bool (outB n x)) ∧ w = w' := by
 by_cases h0 : x < 0
 ·go_enter Tryz.func127, Tryz.ntmps127
  go_wp2
  go_ret
  exact ⟨ret_bool (by simp [outB, h0]), rfl⟩
 ·go_enter Tryz.func127, Tryz.ntmps127
  go_wp2
  go_ret
  exact ⟨ret_bool (by simp [outB]; omega), rfl⟩
def badE (n : Int) (e : Int × Int) : Bool := outB n e.1 || outB n e.2
set_option maxHeartbeats 400000 in
theorem out2_any (n x y : Int) (b c : Nat) (w : World) (hb : w.cell? ⟨b, 0, none⟩ = some (.int .i64 n)) (hc : w.cell? ⟨c, 0, none⟩ = some (.func (.func 127) #[] #[.pointer (some ⟨b, 0, none⟩)])) :
  Calls Tryz.prog 129 #[.agg #[.int .i64 x, .int .i64 y], .pointer (some ⟨c, 0, none⟩)] w fun e w' => e = .returned (.bool (badE n (x, y))) ∧ Below w.heap.size w w' := by
 have lb := World.block_lt_of_cell? w _ hb
 have lc := World.block_lt_of_cell? w _ hc
 simp only at lb lc
 go_enter Tryz.func129, Tryz.ntmps129
 go_wp2_with fail
 refine (out_any n x b _ (by rw [World.cell?_alloc_past _ _ _ lb]; exact hb)).mono ?_
 rintro e w' ⟨rfl, rfl⟩
 cases hx : outB n x with
 | true =>
  have Hx := Lib.hid hx; clear hx
  go_wp2_with fail
  go_ret
  exact ⟨ret_bool (by simp [badE, Hx.out]), (Below.refl _ _).alloc (Nat.le_refl _) _⟩
 | false =>
  have Hx := Lib.hid hx; clear hx
  go_wp2_with fail
  refine (out_any n y b _ (by rw [World.cell?_alloc_past _ _ _ lb]; exact hb)).mono ?_
  rintro e w' ⟨rfl, rfl⟩
  go_wp2_with fail
  go_ret
  exact ⟨ret_bool (by simp [badE, Hx.out]), (Below.refl _ _).alloc (Nat.le_refl _) _⟩
def anyB (p : Nat → Bool) (n : Nat) : Bool := (List.range n).any p
def IdxPost (p : Nat → Bool) (n : Nat) (w : World) (e : Ending) (w' : World) : Prop :=
 ∃ r : Int, e = .returned (.int .i64 r) ∧ Below w.heap.size w w' ∧ (r = -1 ∧ (∀ i, i < n → p i = false) ∨ ∃ k : Nat, r = k ∧ k < n ∧ p k = true ∧ ∀ i, i < k → p i = false)
set_option maxHeartbeats 400000 in
theorem indexEdge_any (A : Option Addr) (cap : Nat) (es : List (Int × Int)) (fid : FuncId) (caps : Array Value) (p : Nat → Bool) (w : World) (hlen : es.length ≤ 1000)
  (hes : Cells w w.heap.size A (edgeCells es))
  (hcf : ∀ (u : World) (args : Array Value), (callFunc fid args).run Tryz.prog u = .ok (.enter fid args) u)
  (hcl : ∀ (i : Nat) (hi : i < es.length) (w' : World), Below w.heap.size w w' → Calls Tryz.prog fid (#[.agg #[.int .i64 es[i].1, .int .i64 es[i].2]] ++ caps) w' fun e w'' => e = .returned (.bool (p i)) ∧ Below w'.heap.size w' w'') :
  Calls Tryz.prog 92 #[.slice A es.length cap, .func (.func fid) #[] caps] w (IdxPost p es.length w) := by
 have Hcl := Lib.hid hcl; clear hcl
 go_enter Tryz.func92, Tryz.ntmps92
 go_wp2
 go_loopg [8] (es.length) (fun k s8 wr => ∃ i : Nat, s8 = .int .i64 i ∧ i ≤ es.length ∧ k = es.length - i ∧ Below w.heap.size w wr ∧ ∀ j, j < i → p j = false)
 case atStart => exact ⟨0, rfl, Nat.zero_le _, rfl, Below.refl _ _, fun j hj => absurd hj (by omega)⟩
 case round =>
  obtain ⟨i, rfl, hi, hk, hb, hf⟩ := hrel
  have Hk := Lib.hid hk; clear hk
  have Hf := Lib.hid hf; clear hf
  by_cases hlt : i < es.length
  ·obtain ⟨b, off, rfl, hbb, hc⟩ := hes.edges (by omega)
   obtain ⟨c0, c1⟩ := hc i hlt
   clear hc
   have c0' := (hb.cell (p := ⟨b, off + i * 2, none⟩) hbb).trans c0
   have c1' := (hb.cell (p := ⟨b, off + i * 2 + 1, none⟩) hbb).trans c1
   clear c0 c1
   go_wp2_with fail
   refine (Hcl.out i hlt _ hb).mono ?_
   rintro e w' ⟨rfl, hb2⟩
   have hb3 := hb.trans (hb2.mono hb.size)
   clear c0' c1'
   cases hp : p i with
   | true =>
    have Hp := Lib.hid hp; clear hp
    go_wp2_with fail
    go_ret
    exact ⟨_, rfl, hb3, .inr ⟨i, rfl, hlt, Hp.out, Hf.out⟩⟩
   | false =>
    have Hp := Lib.hid hp; clear hp
    go_wp2_with fail
    go_roundg (es.length - (i + 1))
    case measure => rw [Hk.out]; omega
    case rel => exact ⟨i + 1, by go_num, by omega, rfl, hb3, fun j hj => by
     by_cases h : j = i
     ·rw [h]; exact Hp.out
     ·exact Hf.out j (by omega)⟩
  ·go_wp2_with fail
   go_ret
   exact ⟨_, rfl, hb, .inl ⟨rfl, fun j hj => Hf.out j (by omega)⟩⟩
theorem containsEdge_any (A : Option Addr) (cap : Nat) (es : List (Int × Int)) (fid : FuncId) (caps : Array Value) (p : Nat → Bool) (w : World) (hlen : es.length ≤ 1000)
  (hes : Cells w w.heap.size A (edgeCells es))
  (hcf : ∀ (u : World) (args : Array Value), (callFunc fid args).run Tryz.prog u = .ok (.enter fid args) u)
  (hcl : ∀ (i : Nat) (hi : i < es.length) (w' : World), Below w.heap.size w w' → Calls Tryz.prog fid (#[.agg #[.int .i64 es[i].1, .int .i64 es[i].2]] ++ caps) w' fun e w'' => e = .returned (.bool (p i)) ∧ Below w'.heap.size w' w'') :
  Calls Tryz.prog 128 #[.slice A es.length cap, .func (.func fid) #[] caps] w fun e w' => e = .returned (.bool (anyB p es.length)) ∧ Below w.heap.size w w' := by
 have Hc := Lib.hid (indexEdge_any A cap es fid caps p w hlen hes hcf hcl)
 clear hes hcf hcl
 go_enter Tryz.func128, Tryz.ntmps128
 go_wp2_with fail
 refine Hc.out.mono ?_
 rintro e w' ⟨r, rfl, hb, hr⟩
 have Hr := Lib.hid hr; clear hr
 go_wp2_with fail
 go_ret
 refine ⟨ret_bool ?_, hb⟩
 unfold anyB
 rcases Hr.out with ⟨rfl, h⟩ | ⟨k, rfl, hk, hp, _⟩
 ·rw [show decide ((0 : Int) ≤ -1) = false from rfl, eq_comm, List.any_eq_false]
  intro i hi
  rw [h i (List.mem_range.1 hi)]; simp
 ·rw [decide_eq_true (by omega), eq_comm, List.any_eq_true]
  exact ⟨k, List.mem_range.2 hk, hp⟩
def mayB (n : Int) (es : List (Int × Int)) : Bool := decide (0 < n) && decide (n ≤ 64) && decide (es.length ≤ 128) && !anyB (fun i => badE n (es.getD i (0, 0))) es.length
theorem callFunc_out2 (u : World) (args : Array Value) : (callFunc 129 args).run Tryz.prog u = .ok (.enter 129 args) u := by
 go_simp
set_option maxHeartbeats 400000 in
theorem may_any (n : Int) (A : Option Addr) (cap : Nat) (es : List (Int × Int)) (w : World) (hes : Cells w w.heap.size A (edgeCells es)) :
  Calls Tryz.prog 91 #[.agg #[.int .i64 n, .slice A es.length cap]] w fun e w' => e = .returned (.bool (mayB n es)) ∧ Below w.heap.size w w' := by
 by_cases h1 : 0 < n
 ·by_cases h2 : n ≤ 64
  ·by_cases h3 : es.length ≤ 128
   ·go_enter Tryz.func91, Tryz.ntmps91
    go_wp2_with fail
    refine (containsEdge_any A cap es _ _ (fun i => badE n (es.getD i (0, 0))) _ (by omega) (((hes.alloc (Nat.le_refl _) _).alloc (by simp) _).more (by simp; omega)) callFunc_out2 ?_).mono ?_
    ·intro i hi w' hb
     have e : es.getD i (0, 0) = (es[i].1, es[i].2) := by simp [hi]
     rw [e]
     exact out2_any n _ _ w.heap.size (w.heap.size + 1) w' (by rw [hb.cell (by simp only [World.size_alloc]; omega)]; simp [go_sem]) (by rw [hb.cell (by simp only [World.size_alloc]; omega)]; simp [go_sem])
    rintro e w' ⟨rfl, hb⟩
    go_wp2_with fail
    go_ret
    refine ⟨ret_bool ?_, (((Below.refl _ _).alloc (Nat.le_refl _) _).alloc (by simp) _).trans (hb.mono (by simp; omega))⟩
    have h1' : 0 < n := by omega
    have h2' : n ≤ 64 := by omega
    simp [mayB, h1', h2', h3]
   ·go_enter Tryz.func91, Tryz.ntmps91
    go_wp2_with fail
    go_ret
    exact ⟨ret_bool (by have : ¬ es.length ≤ 128 := by omega
                        simp [mayB, this]), ((Below.refl _ _).alloc (Nat.le_refl _) _).alloc (by simp) _⟩
  ·go_enter Tryz.func91, Tryz.ntmps91
   go_wp2_with fail
   go_ret
   exact ⟨ret_bool (by have : ¬ n ≤ 64 := by omega
                       simp [mayB, this]), ((Below.refl _ _).alloc (Nat.le_refl _) _).alloc (by simp) _⟩
 ·go_enter Tryz.func91, Tryz.ntmps91
  go_wp2_with fail
  go_ret
  exact ⟨ret_bool (by have : ¬ 0 < n := by omega
                      simp [mayB, this]), ((Below.refl _ _).alloc (Nat.le_refl _) _).alloc (by simp) _⟩
end Go.Proofs.YtneeknlhlkpnpaaGreat
