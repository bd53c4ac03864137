import Derived.Test.YtneeknlhlkpnpaaGreatZMir
import Derived.Test.YtneeknlhlkpnpaaGreatZReg
/-
 sweep.Mirror: what it computes. Written by an AI agent.
-/
namespace Go.Proofs.YtneeknlhlkpnpaaGreat
open Go.RowKit
theorem elemRow2 : Elem Tryz.prog 26 25 (.slice none 0 0) 1 24 := Elem.mk' Tryz.underlying26 (by kernel_rfl) rfl (by omega)
def PlanPost (ord : List Int) (outs : List (List Int)) (w : World) (e : Ending) (w' : World) : Prop :=
 ∃ O U co cu, e = .returned (.agg #[.slice O ord.length co, .slice U outs.length cu]) ∧ Below w.heap.size w w' ∧ Cells w' w'.heap.size O (intCells ord) ∧ RowsC w' w'.heap.size U outs
theorem FacesOwn.evo {B base : Nat} {T : List TypeId} {w w' : World} {v : Value} {F : List (List Int)} (h : FacesOwn w base v F) (he : Evo B T w w') (h1 : 25 ∉ T) (h2 : 3 ∉ T) : FacesOwn w' base v F := by
 obtain ⟨sl, k1, k2⟩ := h
 refine ⟨sl, own_evo k1 he h1, fun i hi => ?_⟩
 obtain ⟨Ai, ci, k3, k4⟩ := k2 i hi
 exact ⟨Ai, ci, k3, own_evo k4 he h2⟩
set_option maxRecDepth 20000 in
set_option maxHeartbeats 4000000 in
theorem mirP_any (O U : Option Addr) (co cu : Nat) (ord : List Int) (outs : List (List Int)) (w : World) (hO : Cells w w.heap.size O (intCells ord)) (hU : RowsAt w w.heap.size U outs) (ho : ord.length ≤ 1000) (hr1 : outs.length ≤ 1000) (hr2 : ∀ l ∈ outs, l.length ≤ 1000) :
  Calls Tryz.prog 23 #[.agg #[.slice O ord.length co, .slice U outs.length cu]] w (PlanPost ord (mir outs) w) := by
 obtain ⟨wb, hwb⟩ : ∃ wb, wb = w.alloc (.cells #[.slice O ord.length co, .slice U outs.length cu] 28) := ⟨_, rfl⟩
 have hb0 : Below w.heap.size w wb := by rw [hwb]; exact (Below.refl _ _).alloc (Nat.le_refl _) _
 have hz0 : wb.heap.size = w.heap.size + 1 := by rw [hwb]; simp
 have hPB : Blk wb w.heap.size 28 #[.slice O ord.length co, .slice U outs.length cu] := by rw [hwb]; exact Blk.new _ _ _
 obtain ⟨w1, hw1⟩ : ∃ w1, w1 = wb.alloc (.cells #[.slice none 0 0, .slice none 0 0] 28) := ⟨_, rfl⟩
 have hb1 : Below w.heap.size w w1 := by rw [hw1]; exact hb0.alloc hb0.size _
 have hz1 : w1.heap.size = w.heap.size + 2 := by rw [hw1]; simp; omega
 have HPB := Lib.hid (show Blk w1 w.heap.size 28 #[.slice O ord.length co, .slice U outs.length cu] by rw [hw1]; exact hPB.alloc _)
 have HRB := Lib.hid (show Blk w1 (w.heap.size + 1) 28 #[.slice none 0 0, .slice none 0 0] by rw [hw1, ← hz0]; exact Blk.new _ _ _)
 have HO := Lib.hid ((hO.below hb1).more hb1.size)
 have HU := Lib.hid ((hU.below hb1).more hb1.size)
 have HB1 := Lib.hid hb1
 have HR2 := Lib.hid hr2
 clear hO hU hr2 hPB hb0 hb1
 have p0 := HPB.out.cell 0
 have p1 := HPB.out.cell 1
 simp only [List.getElem?_toArray, List.getElem?_cons_zero, List.getElem?_cons_succ] at p0 p1
 go_enter Tryz.func23, Tryz.ntmps23
 go_upto_region 1 with fail
 rw [← hwb, ← hw1]
 obtain ⟨gP, hgP⟩ : ∃ g, g = w.heap.size := ⟨_, rfl⟩
 rw [← hgP] at p0 p1 HPB HRB ⊢
 have hgl : gP + 1 < w1.heap.size := by omega
 have HCL := Lib.hid (clone_any O co ord w1 HO.out ho)
 have HGP := Lib.hid hgP
 clear hwb hw1 hz0 hgP
 go_wp2_with fail
 refine HCL.out.mono ?_
 rintro e w2 ⟨v2, rfl, hb2, ho2⟩
 obtain ⟨A2, c2, rfl⟩ := own_slice ho2
 have hb12 := HB1.out.trans (hb2.mono HB1.out.size)
 have hz2 := hb2.size
 have HO2 := Lib.hid ho2
 have HPB2 := Lib.hid (HPB.out.below hb2 (by omega))
 have HRB2 := Lib.hid (HRB.out.below hb2 (by omega))
 have HU2 := Lib.hid ((HU.out.below hb2).more hb2.size)
 have p0 := HPB2.out.cell 0
 have p1 := HPB2.out.cell 1
 have r0 := HRB2.out.cell 0
 have r1 := HRB2.out.cell 1
 have f0 := HRB2.out.frozen 0
 have f1 := HRB2.out.frozen 1
 simp only [List.getElem?_toArray, List.getElem?_cons_zero, List.getElem?_cons_succ] at p0 p1 r0 r1
 have HB2 := Lib.hid hb12
 have hgl2 : gP + 1 < w2.heap.size := by omega
 clear hb2 ho2 hb12
 go_upto_region 2 with fail
 obtain ⟨w3, hw3⟩ : ∃ w3, w3 = w2.alloc (.cells #[.slice A2 ord.length c2, .slice none 0 0] 28) := ⟨_, rfl⟩
 obtain ⟨gO, hgO⟩ : ∃ g, g = w2.heap.size := ⟨_, rfl⟩
 have hb23 : Below w2.heap.size w2 w3 := by rw [hw3]; exact (Below.refl _ _).alloc (Nat.le_refl _) _
 have hz3 : w3.heap.size = gO + 1 := by rw [hw3, hgO]; simp
 have HQ3 := Lib.hid (show Blk w3 gO 28 #[.slice A2 ord.length c2, .slice none 0 0] by rw [hw3, hgO]; exact Blk.new _ _ _)
 have HP3 := Lib.hid (HPB2.out.below hb23 (by omega))
 have p1 := HP3.out.cell 1
 simp only [List.getElem?_toArray, List.getElem?_cons_zero, List.getElem?_cons_succ] at p1
 have HB23 := Lib.hid hb23
 have HZ3 := Lib.hid hz3
 have HGO := Lib.hid hgO
 rw [← hw3, ← hgO]
 clear hw3 hgO p0 r0 r1 f0 f1 hb23 hz3
 go_wp2_with fail
 go_loopg [13, 5] outs.length (fun k s13 s5 wr => ∃ i : Nat, s13 = .int .i64 i ∧ i ≤ outs.length ∧ k = outs.length - i ∧ Below w2.heap.size w2 wr ∧ ∃ v, Blk wr gO 28 #[.slice A2 ord.length c2, v] ∧ FacesOwn wr w3.heap.size v (mir (outs.take i)) ∧ w3.heap.size ≤ wr.heap.size)
 case atStart => exact ⟨0, rfl, Nat.zero_le _, rfl, HB23.out, _, HQ3.out, ⟨[], World.ownsRow_nil _ _ _ _, fun i hi => absurd hi (by simp [mir])⟩, Nat.le_refl _⟩
 case round =>
  obtain ⟨i, rfl, hi, hk, kr, v, hq, hown, hzr⟩ := hrel
  have Hk := Lib.hid hk
  have HKr := Lib.hid kr
  have hsw := kr.size
  have HQ := Lib.hid hq
  clear hk kr hq
  by_cases hlt : i < outs.length
  ·have hlt' : (i : Int) < outs.length := by omega
   obtain ⟨b2, o2, rfl, hb2, hc2⟩ := HU2.out (by omega)
   obtain ⟨Ai, ci, e0, hCi⟩ := hc2 i hlt
   have e0 := (HKr.out.cell (p := ⟨b2, o2 + i, none⟩) hb2).trans e0
   have hCi := Lib.hid ((hCi.below HKr.out).more hsw)
   have hll := HR2.out _ (List.getElem_mem hlt)
   have HT := Lib.hid (mir_take_succ hlt)
   obtain ⟨sl, ho, h2⟩ := hown
   have hml : (mir (outs.take i)).length = i := by rw [mir_length, List.length_take]; omega
   rw [hml] at ho
   have HML := Lib.hid hml
   have HO4 := Lib.hid ho
   have H2 := Lib.hid h2
   clear hc2 ho h2 hml
   generalize outs[i] = l at *
   go_wp2_with fail
   refine (clone_any Ai ci l wr hCi.out hll).mono ?_
   rintro e w5 ⟨v5, rfl, hb5, ho5⟩
   obtain ⟨A5, c5, rfl⟩ := own_slice ho5
   have HB5 := Lib.hid hb5
   have HO5 := Lib.hid ho5
   clear hb5 ho5 e0
   go_wp2_with fail
   refine (reverse_any (.slice A5 l.length c5) l wr.heap.size w5 HO5.out hll).mono ?_
   rintro e w6 ⟨rfl, hb6, ho6⟩
   have hb16 := HB5.out.trans hb6
   have how := own_below HO4.out hb16 (Nat.le_refl _)
   have HB6 := Lib.hid (HKr.out.trans (hb16.mono hsw))
   have hsz6 : w3.heap.size ≤ w6.heap.size := Nat.le_trans hzr hb16.size
   have hb16' := Lib.hid hb16
   have HO6 := Lib.hid ho6
   have HQ6 := Lib.hid (HQ.out.below hb16 HQ.out.lt)
   have q1 := HQ6.out.cell 1
   simp only [List.getElem?_toArray, List.getElem?_cons_zero, List.getElem?_cons_succ] at q1
   clear hb6 ho6 hb16
   go_wp2_with (at_builtin; refine wp_app elemRow2 rfl _ _ rfl w3.heap.size v _ _ rfl w6.heap.size [.slice A5 l.length c5] rfl rfl how rfl rfl ?h7 ?h8 ?h9 ?_)
   case h7 => omega
   case h8 => omega
   try (case h9 => omega)
   intro v' w' hown' hg' _
   obtain ⟨A7, c7, rfl⟩ := own_slice hown'
   have hb' := below_app HB6.out how hg' HB6.out.size (by have := HGO.out; have := HZ3.out; omega)
   have hR' := FacesOwn.push (F := mir (outs.take i)) (f := l.reverse) (A := A5) (c := c5) (by rw [HML.out]; exact how) (fun j hj => by
    obtain ⟨Aj, cj, hs, hoj⟩ := H2.out j hj
    exact ⟨Aj, cj, hs, own_below hoj hb16'.out (Nat.le_refl _)⟩) (by rw [List.length_reverse]; exact own_mono HO6.out hzr) hg' (by rw [HML.out, List.length_reverse]; exact hown')
   rw [← HT.out] at hR'
   have hQ' : Blk w' gO 28 #[.slice A2 ord.length c2, v] := HQ6.out.grown hg' (fun e => by
    obtain ⟨hl1, _⟩ := how.lt gO e.symm
    have := HZ3.out
    omega)
   have hz' : w6.heap.size ≤ w'.heap.size := hg'.size
   have q1' := hQ'.cell 1
   have f1' := hQ'.frozen 1
   simp only [List.getElem?_toArray, List.getElem?_cons_zero, List.getElem?_cons_succ] at q1'
   have hE := Evo.set_ (B := 0) (T := [28]) hQ' (List.mem_singleton.2 rfl) (Nat.zero_le _) 1 (.slice A7 (i + 1) c7)
   have hb7 : Below w2.heap.size w2 (w'.setCell ⟨gO, 1, none⟩ (.slice A7 (i + 1) c7)) := hb'.setCell (p := ⟨gO, 1, none⟩) (by rw [HGO.out]; exact Nat.le_refl _) (.slice A7 (i + 1) c7)
   have HX := Lib.hid (And.intro hb7 (And.intro (hQ'.set_ 1 (.slice A7 (i + 1) c7)) (And.intro (hR'.evo hE (by decide) (by decide)) (show w3.heap.size ≤ (w'.setCell ⟨gO, 1, none⟩ (.slice A7 (i + 1) c7)).heap.size by simp [World.setCell]; omega))))
   clear hb' hR' how hown' hg' hQ' hE hb7 hz'
   go_wp2_with fail
   go_roundg (outs.length - (i + 1))
   case measure => rw [Hk.out]; omega
   case rel => exact ⟨i + 1, by go_num, by omega, rfl, HX.out.1, _, HX.out.2.1, HX.out.2.2.1, HX.out.2.2.2⟩
  ·have hie : i = outs.length := by omega
   have hlt' : ¬ (i : Int) < outs.length := by omega
   have HF := Lib.hid (show FacesOwn wr w3.heap.size v (mir outs) by rw [hie, List.take_length] at hown; exact hown)
   obtain ⟨A7, c7, rfl⟩ : ∃ A c, v = .slice A outs.length c := by
    obtain ⟨A, c, e, _⟩ := HF.out.rowsC
    rw [mir_length] at e
    exact ⟨A, c, e⟩
   have HRr := Lib.hid ((HRB2.out.below HKr.out hgl2))
   have q0 := HQ.out.cell 0
   have q1 := HQ.out.cell 1
   have r0 := HRr.out.cell 0
   have r1 := HRr.out.cell 1
   have f0 := HRr.out.frozen 0
   have f1 := HRr.out.frozen 1
   simp only [List.getElem?_toArray, List.getElem?_cons_zero, List.getElem?_cons_succ] at q0 q1 r0 r1
   clear hown hie
   go_wp2_with fail
   have hSet := (HRr.out.set_ 0 (.slice A2 ord.length c2)).set_ 1 (.slice A7 outs.length c7)
   have hE := (Evo.set_ (B := 0) (T := [28]) HRr.out (List.mem_singleton.2 rfl) (Nat.zero_le _) 0 (.slice A2 ord.length c2)).trans (Evo.set_ (B := 0) (T := [28]) (HRr.out.set_ 0 (.slice A2 ord.length c2)) (List.mem_singleton.2 rfl) (Nat.zero_le _) 1 (.slice A7 outs.length c7))
   have hbl := ((HB2.out.trans (HKr.out.mono HB2.out.size)).setCell (p := ⟨gP + 1, 0, none⟩) (by have := HGP.out; show w.heap.size ≤ gP + 1; omega) (.slice A2 ord.length c2)).setCell (p := ⟨gP + 1, 1, none⟩) (by have := HGP.out; show w.heap.size ≤ gP + 1; omega) (.slice A7 outs.length c7)
   have ho9 := own_evo (own_below HO2.out HKr.out (Nat.le_refl _)) hE (by decide)
   have hF9 := HF.out.evo hE (by decide) (by decide)
   obtain ⟨A8, c8, e8, hR8⟩ := hF9.rowsC
   rw [mir_length] at e8
   injection e8 with e8 _ e9
   subst e8 e9
   refine bodyPost_ret (results_cell_row Tryz.results23 _ _ (gP + 1) 28 #[.slice A2 ord.length c2, .slice A7 outs.length c7] (0, 0) _ rfl hSet Tryz.underlying28 rfl (by kernel_rfl)) (by rfl) ?_
   exact ⟨A2, A7, c2, c7, by rw [mir_length], hbl, Cells.of_own ho9, hR8⟩
end Go.Proofs.YtneeknlhlkpnpaaGreat
