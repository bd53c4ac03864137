import Derived.Test.YtneeknlhlkpnpaaGreatZRPl
import Derived.Test.YtneeknlhlkpnpaaGreatZReg
/-
 (*front.Front).Ready, Placed, Done: what they compute. Written by an AI agent.
-/
namespace Go.Proofs.YtneeknlhlkpnpaaGreat
open Go.RowKit
def rdyL (es : List (Int × Int)) (r : List Itm) (pl : List Int) (i : Nat) : List Int := ((List.range i).filter (readyR es r pl)).map fun x : Nat => (x : Int)
theorem rdyL_succ (es : List (Int × Int)) (r : List Itm) (pl : List Int) (i : Nat) : rdyL es r pl (i + 1) = rdyL es r pl i ++ if readyR es r pl i = true then [(i : Int)] else [] := by
 unfold rdyL
 rw [List.range_succ, List.filter_append, List.map_append]
 congr 1
 by_cases h : readyR es r pl i = true
 ·rw [if_pos h]; simp [h]
 ·rw [if_neg h]; simp [h]
theorem rdyL_le (es : List (Int × Int)) (r : List Itm) (pl : List Int) (i : Nat) : (rdyL es r pl i).length ≤ i := by
 unfold rdyL
 rw [List.length_map]
 exact Nat.le_trans (List.length_filter_le _ _) (by simp)
set_option maxRecDepth 20000 in
set_option maxHeartbeats 4000000 in
theorem readyL_any (w0 w : World) (g gv n : Nat) (es : List (Int × Int)) (r : List Itm) (pl : List Int) (h : FrontW w0 w g gv n es r pl) (hn : n ≤ 1000) (hl : es.length ≤ 1000) (hr : r.length ≤ 50000) (hp : pl.length ≤ 1000) :
  Calls Tryz.prog 13 #[.pointer (some ⟨g, 0, none⟩)] w (fun e w' => ∃ v, e = .returned v ∧ Below w.heap.size w w' ∧ w'.ownsRow w.heap.size 3 1 v (rdyL es r pl n).length (intCells (rdyL es r pl n))) := by
 have H := Lib.hid h
 obtain ⟨vi, vp, hb, _, _⟩ := h.st
 have z1 := hb.cell 1
 simp only [List.getElem?_toArray, List.getElem?_cons_zero, List.getElem?_cons_succ] at z1
 obtain ⟨_, _, _, _, hv1, _, _⟩ := h.view.tabs
 have y0 := hv1.cell 0
 simp only [List.getElem?_toArray, List.getElem?_cons_zero] at y0
 clear h hb hv1
 go_enter Tryz.func13, Tryz.ntmps13
 go_wp2_with fail
 go_loopg [2, 12] n (fun k s2 s12 wr => ∃ i : Nat, s12 = .int .i64 i ∧ i ≤ n ∧ k = n - i ∧ Below w.heap.size w wr ∧ wr.ownsRow w.heap.size 3 1 s2 (rdyL es r pl i).length (intCells (rdyL es r pl i)))
 case atStart => exact ⟨0, rfl, Nat.zero_le _, rfl, Below.refl _ _, World.ownsRow_nil _ _ _ _⟩
 case round =>
  obtain ⟨i, rfl, hi, hk, hb, ho⟩ := hrel
  have Hk := Lib.hid hk
  have HB := Lib.hid hb
  have HO := Lib.hid ho
  have hsw := hb.size
  have HFW := Lib.hid (H.out.next hb)
  clear hk hb ho
  by_cases hlt : i < n
  ·have hlt' : (i : Int) < n := by omega
   have HS := Lib.hid (rdyL_succ es r pl i)
   have HLE := Lib.hid (rdyL_le es r pl i)
   have HRD := Lib.hid (ready_any w0 wr g gv n es r pl i HFW.out hlt hl hr hp)
   cases hrd : readyR es r pl i with
   | false =>
    rw [hrd] at HRD HS
    simp only [Bool.false_eq_true, if_false, List.append_nil] at HS
    clear hrd
    go_wp2_with fail
    refine HRD.out.mono ?_
    rintro e w2 ⟨rfl, hb2⟩
    have HB2 := Lib.hid (HB.out.trans (hb2.mono hsw))
    have HO2 := Lib.hid (own_below HO.out hb2 (Nat.le_refl _))
    rw [← HS.out] at HO2
    clear hb2
    go_wp2_with fail
    go_roundg (n - (i + 1))
    case measure => rw [Hk.out]; omega
    case rel => exact ⟨i + 1, by go_num, by omega, rfl, HB2.out, HO2.out⟩
   | true =>
    rw [hrd, if_pos rfl] at HS
    rw [hrd] at HRD
    clear hrd
    go_wp2_with fail
    refine HRD.out.mono ?_
    rintro e w2 ⟨rfl, hb2⟩
    have HB2 := Lib.hid (HB.out.trans (hb2.mono hsw))
    have ho2 := own_below HO.out hb2 (Nat.le_refl _)
    have hsw2 : w.heap.size ≤ w2.heap.size := HB2.out.size
    have HLE := HLE.out
    clear hb2
    go_wp2_with (at_builtin; refine wp_app elemInt rfl _ _ rfl w.heap.size u2 _ _ rfl w2.heap.size [.int .i64 i] rfl rfl ho2 rfl rfl ?h7 ?h8 ?h9 ?_)
    case h7 => omega
    case h8 => omega
    try (case h9 => omega)
    intro v' w' hown' hg' _
    have hb' := below_app HB2.out ho2 hg' hsw2 (Nat.le_refl _)
    have ho' : w'.ownsRow w.heap.size 3 1 v' (rdyL es r pl (i + 1)).length (intCells (rdyL es r pl (i + 1))) := by
     rw [HS.out, List.length_append, intCells_snoc]
     exact hown'
    have HX := Lib.hid (And.intro hb' ho')
    clear hb' ho' ho2 hown' hg'
    go_wp2_with fail
    go_roundg (n - (i + 1))
    case measure => rw [Hk.out]; omega
    case rel => exact ⟨i + 1, by go_num, by omega, rfl, HX.out.1, HX.out.2⟩
  ·have hie : i = n := by omega
   have hlt' : ¬ (i : Int) < n := by omega
   have HF := Lib.hid (show wr.ownsRow w.heap.size 3 1 u2 (rdyL es r pl n).length (intCells (rdyL es r pl n)) by rw [← hie]; exact HO.out)
   clear hie
   go_wp2_with fail
   go_ret
   exact ⟨_, rfl, HB.out, HF.out⟩
set_option maxRecDepth 20000 in
theorem placed_any (w0 w : World) (g gv n : Nat) (es : List (Int × Int)) (r : List Itm) (pl : List Int) (h : FrontW w0 w g gv n es r pl) (hp : pl.length ≤ 1000) :
  Calls Tryz.prog 15 #[.pointer (some ⟨g, 0, none⟩)] w (fun e w' => ∃ v, e = .returned v ∧ Below w.heap.size w w' ∧ w'.ownsRow w.heap.size 3 1 v pl.length (intCells pl)) := by
 obtain ⟨vi, vp, hb, _, hpl⟩ := h.st
 obtain ⟨Ap, cp, rfl⟩ := own_slice hpl
 have z2 := hb.cell 2
 simp only [List.getElem?_toArray, List.getElem?_cons_zero, List.getElem?_cons_succ] at z2
 have HC := Lib.hid (clone_any Ap cp pl w (Cells.of_own hpl) hp)
 clear h hb hpl
 go_enter Tryz.func15, Tryz.ntmps15
 go_wp2_with fail
 refine HC.out.mono ?_
 rintro e w2 ⟨v, rfl, hb2, ho2⟩
 have HX := Lib.hid (And.intro hb2 ho2)
 clear hb2 ho2
 go_wp2_with fail
 go_ret
 exact ⟨_, rfl, HX.out.1, HX.out.2⟩
set_option maxRecDepth 20000 in
theorem done_any (w0 w : World) (g gv n : Nat) (es : List (Int × Int)) (r : List Itm) (pl : List Int) (h : FrontW w0 w g gv n es r pl) :
  Calls Tryz.prog 122 #[.pointer (some ⟨g, 0, none⟩)] w (fun e w' => e = .returned (.bool (decide (pl.length = n))) ∧ Below w.heap.size w w') := by
 obtain ⟨vi, vp, hb, _, hpl⟩ := h.st
 obtain ⟨Ap, cp, rfl⟩ := own_slice hpl
 have z1 := hb.cell 1
 have z2 := hb.cell 2
 simp only [List.getElem?_toArray, List.getElem?_cons_zero, List.getElem?_cons_succ] at z1 z2
 obtain ⟨_, _, _, _, hv1, _, _⟩ := h.view.tabs
 have y0 := hv1.cell 0
 simp only [List.getElem?_toArray, List.getElem?_cons_zero] at y0
 have hq : (((pl.length : Nat) : Int) == ((n : Nat) : Int)) = decide (pl.length = n) := by
  by_cases e : pl.length = n
  ·simp [e]
  ·rw [decide_eq_false e]; simp; omega
 clear h hb hpl hv1
 go_enter Tryz.func122, Tryz.ntmps122
 go_wp2_with fail
 go_region
 go_wp2_with fail
 go_ret
 exact ⟨rfl, (Below.refl w.heap.size w).drew⟩
end Go.Proofs.YtneeknlhlkpnpaaGreat
