/-
  Order, Ins, asked: what they compute. Written by an AI agent.
-/
import Derived.Test.YtnjikhhegebkiaaDoorRun
namespace Go.Proofs.YtnjikhhegebkiaaDoor
open Go.RowKit

def ordB (n : Nat) (es : List (Int × Int)) : Bool := decide ((orderF es n).length = n)
set_option maxRecDepth 20000 in
theorem order_any (gv n : Nat) (es : List (Int × Int)) (w : World) (hv : ViewAt w gv n es) (hE : ∀ e ∈ es, 0 ≤ e.1 ∧ e.1 < (n : Int) ∧ 0 ≤ e.2 ∧ e.2 < (n : Int)) (hn : n ≤ 64) (hl : es.length ≤ 1000) :
    Calls Tryd.prog 43 #[.pointer (some ⟨gv, 0, none⟩)] w (fun e w' => ∃ v, e = .returned (.tuple #[v, .bool (ordB n es)]) ∧ Below w.heap.size w w' ∧ (ordB n es = true → w'.ownsRow w.heap.size 3 1 v n (intCells (orderF es n)))) := by
  have HV := Lib.hid hv
  have HE := Lib.hid hE
  clear hv hE
  have hle := (orderF_ord es n).le
  go_enter Tryd.func43, Tryd.ntmps43
  go_wp2_with fail
  refine (run_any gv n es w HV.out HE.out hn hl).mono ?_
  rintro e w2 ⟨v1, v2, rfl, hb, hown⟩
  obtain ⟨A, c, rfl⟩ := own_slice hown
  have HB := Lib.hid hb
  have HO := Lib.hid hown
  obtain ⟨A0, c0, go, gi, os, is, hbv, _⟩ := HV.out
  have z0 : w2.cell? ⟨gv, 0, none⟩ = some (.int .i64 n) := (hb.cell (p := ⟨gv, 0, none⟩) hbv.lt).trans (hbv.cell 0)
  clear hb hown hbv
  by_cases hlt : (orderF es n).length < n
  · have hlt' : ((orderF es n).length : Int) < n := by omega
    have HF := Lib.hid (show ordB n es = false by unfold ordB; simp; omega)
    go_wp2_with fail
    go_ret2
    rw [HF.out]
    exact ⟨_, rfl, HB.out, fun h => by cases h⟩
  · have hlt' : ¬ ((orderF es n).length : Int) < n := by omega
    have HF := Lib.hid (show ordB n es = true by unfold ordB; simp; omega)
    have HL := Lib.hid (show (orderF es n).length = n by omega)
    go_wp2_with fail
    go_ret2
    rw [HF.out]
    exact ⟨_, rfl, HB.out, fun _ => by have := HO.out; rw [HL.out] at this; rw [HL.out]; exact this⟩
set_option maxRecDepth 20000 in
theorem there_any (gv n gl x c : Nat) (Ai : Option Addr) (l : List Int) (w : World) (z0 : w.cell? ⟨gv, 0, none⟩ = some (.int .i64 n)) (zi : w.cell? ⟨gl, x, none⟩ = some (.slice Ai l.length c)) (hx : x < n) (hc : Cells w w.heap.size Ai (intCells l)) (hl : l.length ≤ 1000) :
    Calls Tryd.prog 45 #[.pointer (some ⟨gv, 0, none⟩), .slice (some ⟨gl, 0, none⟩) n n, .int .i64 x] w (fun e w' => ∃ v, e = .returned v ∧ Below w.heap.size w w' ∧ w'.ownsRow w.heap.size 3 1 v l.length (intCells l)) := by
  have hxn : ¬ ((n : Int) ≤ (x : Int)) := by omega
  have hxn' : (x : Int) < n := by omega
  have hx0 : ¬ (x : Int) < 0 := by omega
  have HC := Lib.hid hc
  clear hc
  go_enter Tryd.func45, Tryd.ntmps45
  go_wp2_with fail
  refine (clone_any Ai c l w HC.out hl).mono ?_
  rintro e w2 ⟨v, rfl, hb, hown⟩
  have HB := Lib.hid hb
  have HO := Lib.hid hown
  clear hb hown
  go_wp2_with fail
  go_ret
  exact ⟨_, rfl, HB.out, HO.out⟩
set_option maxRecDepth 20000 in
theorem ins_any (gv n : Nat) (es : List (Int × Int)) (x : Nat) (w : World) (hv : ViewAt w gv n es) (hx : x < n) (hl : es.length ≤ 1000) :
    Calls Tryd.prog 31 #[.pointer (some ⟨gv, 0, none⟩), .int .i64 x] w (fun e w' => ∃ v, e = .returned v ∧ Below w.heap.size w w' ∧ w'.ownsRow w.heap.size 3 1 v (endsF es Prod.snd x es.length).length (intCells (endsF es Prod.snd x es.length))) := by
  obtain ⟨A, c, go, gi, os, is, hbv, hes, hol, hil, hgo, hgi, hrw⟩ := hv
  have hix : n + x < (os ++ is).length := by simp; omega
  have hro := hrw.own (n + x) hix (by rw [← hrw.len]; exact hix)
  rw [List.getElem_append_right (by omega), lsV_at_snd hx] at hro
  simp only [show n + x - os.length = x by omega] at hro
  obtain ⟨Ai, ci, hiv⟩ := own_slice hro
  have z0 : w.cell? ⟨gv, 0, none⟩ = some (.int .i64 n) := hbv.cell 0
  have z3 : w.cell? ⟨gv, 3, none⟩ = some (.slice (some ⟨gi, 0, none⟩) n n) := hbv.cell 3
  have zi : w.cell? ⟨gi, x, none⟩ = some (.slice Ai (endsF es Prod.snd x es.length).length ci) := (hgi.cell x).trans (by rw [← hiv, List.getElem?_toArray, List.getElem?_eq_getElem (show x < is.length by omega)])
  have hxn : ¬ ((n : Int) ≤ (x : Int)) := by omega
  have hxn' : (x : Int) < n := by omega
  have hx0 : ¬ (x : Int) < 0 := by omega
  have hll : (endsF es Prod.snd x es.length).length ≤ 1000 := Nat.le_trans (endsF_length _ _ _ _) hl
  rw [hiv] at hro
  have HC := Lib.hid (Cells.of_own hro)
  clear hro hiv hbv hes hgo hgi hrw hix
  generalize endsF es Prod.snd x es.length = l at *
  go_enter Tryd.func31, Tryd.ntmps31
  go_wp2_with fail
  refine (there_any gv n gi x ci Ai l w z0 zi hx HC.out hll).mono ?_
  rintro e w2 ⟨v, rfl, hb, hown⟩
  have HB := Lib.hid hb
  have HO := Lib.hid hown
  clear hb hown
  go_wp2_with fail
  go_ret
  exact ⟨_, rfl, HB.out, HO.out⟩
/-- may a graph be asked? -/
def askB (n : Int) (es : List (Int × Int)) : Bool := mayB n es && ordB n.toNat es
set_option maxRecDepth 20000 in
theorem asked_any (n : Int) (A : Option Addr) (cap : Nat) (es : List (Int × Int)) (w : World) (hes : Cells w w.heap.size A (edgeCells es)) :
    Calls Tryd.prog 30 #[.agg #[.int .i64 n, .slice A es.length cap]] w (fun e w' => ∃ gv v, e = .returned (.tuple #[.pointer (some ⟨gv, 0, none⟩), v, .bool (askB n es)]) ∧ Below w.heap.size w w' ∧ (askB n es = true → ViewAt w' gv n.toNat es ∧ w'.ownsRow w.heap.size 3 1 v n.toNat (intCells (orderF es n.toNat)))) := by
  have b0 := Blk.new w 24 #[.int .i64 n, .slice A es.length cap]
  have hbw := (Below.refl w.heap.size w).alloc (Nat.le_refl _) (.cells #[.int .i64 n, .slice A es.length cap] 24)
  have s1 := World.size_alloc w (.cells #[.int .i64 n, .slice A es.length cap] 24)
  have hesa := (hes.below hbw).more hbw.size
  go_enter Tryd.func30, Tryd.ntmps30
  go_upto_region 1 with fail
  generalize w.alloc (.cells #[.int .i64 n, .slice A es.length cap] 24) = w1 at *
  have HW1 := Lib.hid hbw
  have HES := Lib.hid hesa
  have HB0 := Lib.hid b0
  have g0 : w1.cell? ⟨w.heap.size, 0, none⟩ = some (.int .i64 n) := b0.cell 0
  have g1 : w1.cell? ⟨w.heap.size, 1, none⟩ = some (.slice A es.length cap) := b0.cell 1
  have l1 : w.heap.size < w1.heap.size := by omega
  clear hbw b0 hesa hes
  go_wp2_with fail
  refine (view_any n A cap es w1 HES.out).mono ?_
  rintro e w2 ⟨gv, rfl, hb2, hv2⟩
  obtain ⟨hi1, hi2, hi3⟩ := @vE_in n es
  have HI3 := Lib.hid hi3
  have HB2 := Lib.hid hb2
  have HV2 := Lib.hid hv2
  have hz2 := hb2.size
  clear hb2 hv2 g0 g1 hi3
  go_wp2_with fail
  refine (order_any gv (vN n es) (vE n es) w2 HV2.out HI3.out hi1 hi2).mono ?_
  rintro e w3 ⟨v, rfl, hb3, ho3⟩
  have HB3 := Lib.hid hb3
  have HO3 := Lib.hid ho3
  have hz3 := hb3.size
  have HW3 := Lib.hid (HW1.out.trans ((HB2.out.mono (Nat.le_of_lt l1)).trans (hb3.mono (by omega))))
  have HB03 := Lib.hid ((HB0.out.below HB2.out l1).below hb3 (by omega))
  have HES3 := Lib.hid ((((HES.out.below HB2.out).more hz2).below hb3).more hz3)
  have HV3 := Lib.hid (HV2.out.below hb3 (Nat.le_refl _))
  have g0 : w3.cell? ⟨w.heap.size, 0, none⟩ = some (.int .i64 n) := HB03.out.cell 0
  have g1 : w3.cell? ⟨w.heap.size, 1, none⟩ = some (.slice A es.length cap) := HB03.out.cell 1
  clear hb3 ho3
  cases hob : ordB (vN n es) (vE n es) with
  | false =>
    have HF := Lib.hid (show askB n es = false by
      unfold askB
      cases hm : mayB n es with
      | false => rfl
      | true =>
        rw [vN, vE, if_pos hm, if_pos hm] at hob
        rw [hob]; rfl)
    clear hob
    go_wp2_with fail
    go_ret3
    rw [HF.out]
    exact ⟨_, _, rfl, HW3.out, fun h => by cases h⟩
  | true =>
    have HF := Lib.hid (show mayB n es = askB n es by
      unfold askB
      cases hm : mayB n es with
      | false => rfl
      | true =>
        rw [vN, vE, if_pos hm, if_pos hm] at hob
        rw [hob]; rfl)
    have HOB := Lib.hid hob
    clear hob
    go_wp2_with fail
    refine (may_any n A cap es w3 HES3.out).mono ?_
    rintro e w4 ⟨rfl, hb4⟩
    have HB4 := Lib.hid hb4
    have hz4 := hb4.size
    clear hb4 g0 g1
    go_wp2_with fail
    go_ret3
    rw [HF.out]
    refine ⟨_, _, rfl, HW3.out.trans (HB4.out.mono (by omega)), fun h => ?_⟩
    have hm : mayB n es = true := by rw [HF.out]; exact h
    have h1 := HV3.out.below HB4.out (Nat.le_refl _)
    have h2 := own_below (HO3.out HOB.out) HB4.out (Nat.le_refl _)
    rw [vN, vE, if_pos hm, if_pos hm] at h1 h2
    exact ⟨h1, own_mono h2 (by omega)⟩
end Go.Proofs.YtnjikhhegebkiaaDoor
