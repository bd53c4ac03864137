import Derived.Test.YtneeknlhlkpnpaaGreatZOutsL
import Derived.Test.YtneeknlhlkpnpaaGreatZReg
/-
 rise.halved, rise.outs: what they compute. Written by an AI agent.
-/
namespace Go.Proofs.YtneeknlhlkpnpaaGreat
open Go.RowKit
theorem halv_succ {l : List Int} {i : Nat} (h : i < l.length) : halv (l.take (i + 1)) = halv (l.take i) ++ [l[i] / 2] := by
 unfold halv
 rw [List.take_succ_eq_append_getElem h, List.map_append]
 rfl
theorem halv_length (l : List Int) : (halv l).length = l.length := by unfold halv; rw [List.length_map]
set_option maxRecDepth 20000 in
set_option maxHeartbeats 4000000 in
theorem halved_any (A : Option Addr) (c : Nat) (l : List Int) (w : World) (h : Cells w w.heap.size A (intCells l)) (hl : l.length ≤ 1000) (hn : ∀ a ∈ l, ∃ d : Nat, a = d ∧ d ≤ 100000) :
  Calls Tryz.prog 73 #[.slice A l.length c] w (fun e w' => ∃ v, e = .returned v ∧ Below w.heap.size w w' ∧ w'.ownsRow w.heap.size 3 1 v (halv l).length (intCells (halv l))) := by
 have H := Lib.hid h
 have HN := Lib.hid hn
 clear h hn
 go_enter Tryz.func73, Tryz.ntmps73
 go_wp2_with fail
 go_loopg [2, 7] l.length (fun k s2 s7 wr => ∃ i : Nat, s7 = .int .i64 i ∧ i ≤ l.length ∧ k = l.length - i ∧ Below w.heap.size w wr ∧ wr.ownsRow w.heap.size 3 1 s2 i (intCells (halv (l.take i))))
 case atStart => exact ⟨0, rfl, Nat.zero_le _, rfl, Below.refl _ _, World.ownsRow_nil _ _ _ _⟩
 case round =>
  obtain ⟨i, rfl, hi, hk, hb, ho⟩ := hrel
  have Hk := Lib.hid hk
  have HB := Lib.hid hb
  have hsw := hb.size
  clear hk
  by_cases hlt : i < l.length
  ·have hlt' : (i : Int) < l.length := by omega
   obtain ⟨b1, o1, rfl, hb1, hc1⟩ := (H.out.below hb).ints (by omega)
   have c0 := hc1 i hlt
   obtain ⟨d, hd, hd2⟩ := HN.out _ (List.getElem_mem hlt)
   have HS := halv_succ hlt
   rw [hd] at c0 HS
   have hq : Int.tdiv (d : Int) 2 = ((d / 2 : Nat) : Int) := by rw [Int.tdiv_eq_ediv_of_nonneg (by omega)]; simp
   rw [show (d : Int) / 2 = ((d / 2 : Nat) : Int) by omega] at HS
   have HS := Lib.hid HS
   obtain ⟨q, hqq⟩ : ∃ q, q = d / 2 := ⟨_, rfl⟩
   rw [← hqq] at hq HS
   have hqb : q ≤ 100000 := by omega
   clear hc1 hb hd hqq
   go_wp2_with (at_builtin; refine wp_app elemInt rfl _ _ rfl w.heap.size u2 _ _ rfl wr.heap.size [.int .i64 q] rfl rfl ho rfl rfl ?h7 ?h8 ?h9 ?_)
   case h7 => omega
   case h8 => omega
   try (case h9 => omega)
   intro v' w' hown' hg' _
   have hb' := below_app HB.out ho hg' hsw (Nat.le_refl _)
   have ho' : w'.ownsRow w.heap.size 3 1 v' (i + 1) (intCells (halv (l.take (i + 1)))) := by
    rw [HS.out, show ∀ (l : List Int) (x : Int), intCells (l ++ [x]) = intCells l ++ [.int .i64 x] from fun l x => by simp [intCells]]
    exact hown'
   have HX := Lib.hid (And.intro hb' ho')
   clear hb' ho' ho hown' hg'
   go_wp2_with fail
   go_roundg (l.length - (i + 1))
   case measure => rw [Hk.out]; omega
   case rel => exact ⟨i + 1, by go_num, by omega, rfl, HX.out.1, HX.out.2⟩
  ·have hie : i = l.length := by omega
   have hlt' : ¬ (i : Int) < l.length := by omega
   have HF := Lib.hid (show wr.ownsRow w.heap.size 3 1 u2 (halv l).length (intCells (halv l)) by rw [hie, List.take_length] at ho; rw [halv_length]; exact ho)
   clear hie ho hb
   go_wp2_with fail
   go_ret
   exact ⟨_, rfl, HB.out, HF.out⟩
def upsN (l : List Int) (i j : Nat) : List Int := ((rot l i).take j).map (· / 2)
theorem upsN_succ {l : List Int} {i j : Nat} (hi : i < l.length) (hj : j < l.length) : upsN l i (j + 1) = upsN l i j ++ [l[(i + j) % l.length]'(Nat.mod_lt _ (by omega)) / 2] := by
 unfold upsN
 rw [List.take_succ_eq_append_getElem (by rw [rot_length]; exact hj), List.map_append, rot_get hi hj]
 rfl
theorem upsN_all {l : List Int} {i j : Nat} (hi : i < l.length) (hj : j < l.length) (h : ∀ t (_ht : t < j), evI (l[(i + t) % l.length]'(Nat.mod_lt _ (by omega))) = true) (hno : evI (l[(i + j) % l.length]'(Nat.mod_lt _ (by omega))) = false) : upsN l i j = ((rot l i).takeWhile evI).map (· / 2) := by
 unfold upsN
 congr 1
 have h1 : rot l i = (rot l i).take j ++ (rot l i).drop j := (List.take_append_drop _ _).symm
 have h2 : ∀ a ∈ (rot l i).take j, evI a = true := fun a ha => by
  obtain ⟨t, ht, rfl⟩ := List.getElem_of_mem ha
  rw [List.length_take, rot_length] at ht
  rw [List.getElem_take, rot_get hi (by omega)]
  exact h t (by omega)
 have h3 : ((rot l i).drop j).takeWhile evI = [] := by
  rw [List.drop_eq_getElem_cons (by rw [rot_length]; exact hj), List.takeWhile_cons_of_neg]
  rw [rot_get hi hj, hno]
  simp
 conv => rhs; rw [h1]
 rw [List.takeWhile_append_of_pos h2, h3, List.append_nil]
theorem upAt_odd {l : List Int} {i : Nat} (hi : i < l.length) (h : upAt l i = true) : evI l[i] = true ∧ evI (l[(i + (l.length - 1)) % l.length]'(Nat.mod_lt _ (by omega))) = false := by
 unfold upAt at h
 rw [List.getD_eq_getElem?_getD, List.getElem?_eq_getElem hi, List.getD_eq_getElem?_getD, List.getElem?_eq_getElem (Nat.mod_lt _ (by omega))] at h
 simp only [Option.getD_some, Bool.and_eq_true, Bool.not_eq_true'] at h
 refine ⟨h.1, ?_⟩
 rw [← h.2]
 simp only [show i + (l.length - 1) = i + l.length - 1 by omega]
theorem outsL_some {l : List Int} {i : Nat} (hi : i < l.length) (h : upAt l i = true) (hn : ∀ t, t < i → upAt l t = false) : outsL l = ((rot l i).takeWhile evI).map (· / 2) := by
 have hf : (List.range l.length).find? (upAt l) = some i := by
  rw [List.find?_range_eq_some]
  refine ⟨h, List.mem_range.2 hi, fun t ht => ?_⟩
  rw [hn t ht]; rfl
 unfold outsL
 rw [hf]
set_option maxRecDepth 20000 in
set_option maxHeartbeats 8000000 in
theorem outsOf_any (A : Option Addr) (c : Nat) (l : List Int) (w : World) (h : Cells w w.heap.size A (intCells l)) (hl : l.length ≤ 1000) (hn : ∀ a ∈ l, ∃ d : Nat, a = d ∧ d ≤ 100000) :
  Calls Tryz.prog 72 #[.slice A l.length c] w (fun e w' => ∃ v, e = .returned v ∧ Below w.heap.size w w' ∧ w'.ownsRow w.heap.size 3 1 v (outsL l).length (intCells (outsL l))) := by
 have H := Lib.hid h
 have HN := Lib.hid hn
 have HG := Lib.hid (show ∀ i (hi : i < l.length), ∃ d : Nat, l[i] = (d : Int) ∧ d ≤ 100000 from fun i hi => hn _ (List.getElem_mem hi))
 clear h hn
 go_enter Tryz.func72, Tryz.ntmps72
 go_wp2_with fail
 go_loopg [10, 2] l.length (fun k s10 s2 wr => ∃ i : Nat, s10 = .int .i64 i ∧ s2 = .slice none 0 0 ∧ i ≤ l.length ∧ k = l.length - i ∧ wr = w ∧ ∀ t, t < i → upAt l t = false)
 case atStart => exact ⟨0, rfl, rfl, Nat.zero_le _, rfl, rfl, fun t ht => absurd ht (Nat.not_lt_zero _)⟩
 case round =>
  obtain ⟨i, rfl, rfl, hi, hk, rfl, hno⟩ := hrel
  have Hk := Lib.hid hk
  have HNO := Lib.hid hno
  clear hk hno
  by_cases hlt : i < l.length
  ·have hlt' : (i : Int) < l.length := by omega
   have HM := Lib.hid (show ∀ x : Nat, x % l.length < l.length from fun x => Nat.mod_lt _ (by omega))
   obtain ⟨b1, o1, rfl, hb1, hc1⟩ := H.out.ints (by omega)
   have c0 := hc1 i hlt
   obtain ⟨j, hj⟩ : ∃ j, j = (i + (l.length - 1)) % l.length := ⟨_, rfl⟩
   have hjl : j < l.length := by rw [hj]; exact Nat.mod_lt _ (by omega)
   have c1 := hc1 j hjl
   obtain ⟨d, hd, hd2⟩ := HG.out i hlt
   obtain ⟨z, hz, hz2⟩ := HG.out j hjl
   have HUP := Lib.hid (show upAt l i = (evI (d : Int) && !evI (z : Int)) by
    unfold upAt
    rw [List.getD_eq_getElem?_getD, List.getElem?_eq_getElem hlt, List.getD_eq_getElem?_getD, List.getElem?_eq_getElem (Nat.mod_lt _ (by omega)), Option.getD_some, Option.getD_some, ← hd, ← hz]
    simp only [hj, show i + (l.length - 1) = i + l.length - 1 by omega])
   rw [hd] at c0
   rw [hz] at c1
   have hmd : Int.tmod ((i : Int) + l.length - 1) l.length = (j : Int) := by
    rw [Int.tmod_eq_emod_of_nonneg (by omega), hj, show (i : Int) + l.length - 1 = ((i + (l.length - 1) : Nat) : Int) by omega]
    rfl
   have hjl' : (j : Int) < l.length := by omega
   have hd0 : Int.tmod (d : Int) 2 = ((d % 2 : Nat) : Int) := by rw [Int.tmod_eq_emod_of_nonneg (by omega)]; omega
   have hz0 : Int.tmod (z : Int) 2 = ((z % 2 : Nat) : Int) := by rw [Int.tmod_eq_emod_of_nonneg (by omega)]; omega
   have HCC := Lib.hid hc1
   have HJ := Lib.hid hj
   clear hc1 hd hz hj
   by_cases hup : d % 2 = 0 ∧ z % 2 = 1
   case neg =>
    have HU2 := Lib.hid (show upAt l i = false by
     rw [HUP.out]
     unfold evI
     by_cases h1 : d % 2 = 0
     ·have h2 : z % 2 = 0 := by omega
      rw [decide_eq_true (show (z : Int) % 2 = 0 by omega)]; simp
     ·rw [decide_eq_false (show ¬ (d : Int) % 2 = 0 by omega)]; rfl)
    have HNO2 := Lib.hid (show ∀ t, t < i + 1 → upAt l t = false from fun t ht => by
     by_cases e : t = i
     ·rw [e]; exact HU2.out
     ·exact HNO.out t (by omega))
    by_cases h1 : d % 2 = 0
    ·have h2 : z % 2 = 0 := by omega
     rw [h1] at hd0
     rw [h2] at hz0
     clear hup h1 h2
     go_wp2_with fail
     go_roundg (l.length - (i + 1))
     case measure => rw [Hk.out]; omega
     case rel => exact ⟨i + 1, by go_num, rfl, by omega, rfl, rfl, HNO2.out⟩
    ·have h1 : d % 2 = 1 := by omega
     rw [h1] at hd0
     clear hup h1
     go_wp2_with fail
     go_roundg (l.length - (i + 1))
     case measure => rw [Hk.out]; omega
     case rel => exact ⟨i + 1, by go_num, rfl, by omega, rfl, rfl, HNO2.out⟩
   case pos =>
    obtain ⟨h1, h2⟩ := hup
    have HU2 := Lib.hid (show upAt l i = true by
     rw [HUP.out]
     unfold evI
     rw [decide_eq_true (show (d : Int) % 2 = 0 by omega), decide_eq_false (show ¬ (z : Int) % 2 = 0 by omega)]
     rfl)
    have HF := Lib.hid (outsL_some hlt HU2.out HNO.out)
    have HODD := Lib.hid (upAt_odd hlt HU2.out).2
    rw [h1] at hd0
    rw [h2] at hz0
    clear h1 h2
    obtain ⟨w0, rfl⟩ : ∃ w0, w0 = wr := ⟨_, rfl⟩
    go_wp2_with fail
    clear hd0 hz0 hmd
    go_loopg [2, 5] l.length (fun k s2 s5 wr => ∃ t : Nat, s5 = .int .i64 ((i : Int) + t) ∧ t < l.length ∧ k = l.length - t ∧ (∀ x (hx : x < t), evI (l[(i + x) % l.length]'(HM.out _)) = true) ∧ Below w0.heap.size w0 wr ∧ wr.ownsRow w0.heap.size 3 1 s2 t (intCells (upsN l i t)))
    case atStart => exact ⟨0, by go_num, by omega, rfl, fun x hx => absurd hx (Nat.not_lt_zero _), Below.refl _ _, by
     rw [show upsN l i 0 = [] by unfold upsN; simp]
     exact World.ownsRow_nil _ _ _ _⟩
    case round =>
     obtain ⟨t, rfl, ht, hk2, hev, hb, ho⟩ := hrel
     have Hk2 := Lib.hid hk2
     have HEV := Lib.hid hev
     have HB := Lib.hid hb
     have hsw := hb.size
     obtain ⟨p, hp⟩ : ∃ p, p = (i + t) % l.length := ⟨_, rfl⟩
     have hpl : p < l.length := by rw [hp]; exact Nat.mod_lt _ (by omega)
     have hpl' : (p : Int) < l.length := by omega
     obtain ⟨y, hy, hy2⟩ := HG.out p hpl
     have cy := (hb.cell (p := ⟨b1, o1 + p, none⟩) hb1).trans (HCC.out p hpl)
     rw [hy] at cy
     have hmd : Int.tmod ((i : Int) + t) l.length = (p : Int) := by
      rw [Int.tmod_eq_emod_of_nonneg (by omega), hp, show (i : Int) + t = ((i + t : Nat) : Int) by omega]
      rfl
     have hy0 : Int.tmod (y : Int) 2 = ((y % 2 : Nat) : Int) := by rw [Int.tmod_eq_emod_of_nonneg (by omega)]; omega
     have HYE := Lib.hid (show evI (l[(i + t) % l.length]'(HM.out _)) = decide (y % 2 = 0) by
      have : l[(i + t) % l.length]'(HM.out _) = (y : Int) := by
       rw [← hy]
       simp only [hp]
      rw [this]
      unfold evI
      rw [decide_eq_decide]
      omega)
     by_cases hye : y % 2 = 0
     ·rw [hye] at hy0
      have HYT := Lib.hid (HYE.out.trans (decide_eq_true hye))
      have ht1 : t + 1 < l.length := by
       apply Classical.byContradiction
       intro hn
       have e : t = l.length - 1 := by omega
       have h1 := HODD.out
       have h2 := HYT.out
       simp only [e] at h2
       rw [h1] at h2
       cases h2
      have HS := Lib.hid (show upsN l i (t + 1) = upsN l i t ++ [((y / 2 : Nat) : Int)] by
       rw [upsN_succ hlt ht]
       have : l[(i + t) % l.length]'(HM.out _) = (y : Int) := by
        rw [← hy]
        simp only [hp]
       rw [this]
       congr 1
       )
      have hyq : Int.tdiv (y : Int) 2 = ((y / 2 : Nat) : Int) := by rw [Int.tdiv_eq_ediv_of_nonneg (by omega)]; simp
      obtain ⟨q, hqq⟩ : ∃ q, q = y / 2 := ⟨_, rfl⟩
      rw [← hqq] at hyq HS
      have hqb : q ≤ 100000 := by omega
      have HEV2 := Lib.hid (show ∀ x (hx : x < t + 1), evI (l[(i + x) % l.length]'(HM.out _)) = true from fun x hx => by
       by_cases e : x = t
       ·subst e; exact HYT.out
       ·exact HEV.out x (by omega))
      clear hk2 hev hb hp hy hqq hye
      go_wp2_with (at_builtin; refine wp_app elemInt rfl _ _ rfl w0.heap.size u2 _ _ rfl wr.heap.size [.int .i64 q] rfl rfl ho rfl rfl ?h7 ?h8 ?h9 ?_)
      case h7 => omega
      case h8 => omega
      try (case h9 => omega)
      intro v' w' hown' hg' _
      have hb' := below_app HB.out ho hg' hsw (Nat.le_refl _)
      have ho' : w'.ownsRow w0.heap.size 3 1 v' (t + 1) (intCells (upsN l i (t + 1))) := by
       rw [HS.out, show ∀ (l : List Int) (x : Int), intCells (l ++ [x]) = intCells l ++ [.int .i64 x] from fun l x => by simp [intCells]]
       exact hown'
      have HX := Lib.hid (And.intro hb' ho')
      clear hb' ho' ho hown' hg'
      go_wp2_with fail
      go_roundg (l.length - (t + 1))
      case measure => rw [Hk2.out]; omega
      case rel => exact ⟨t + 1, by go_num, ht1, rfl, HEV2.out, HX.out.1, HX.out.2⟩
     ·have hye1 : y % 2 = 1 := by omega
      rw [hye1] at hy0
      have HFI := Lib.hid (show wr.ownsRow w0.heap.size 3 1 u2 (outsL l).length (intCells (outsL l)) by
       have e : outsL l = upsN l i t := by
        rw [HF.out]
        exact (upsN_all hlt ht HEV.out (HYE.out.trans (decide_eq_false hye))).symm
       have e2 : (upsN l i t).length = t := by unfold upsN; rw [List.length_map, List.length_take, rot_length]; omega
       rw [e, e2]
       exact ho)
      clear hk2 hev hb hp hy hye hye1 ho
      go_wp2_with fail
      go_ret
      exact ⟨_, rfl, HB.out, HFI.out⟩
  ·have hie : i = l.length := by omega
   have hlt' : ¬ (i : Int) < l.length := by omega
   have HNI := Lib.hid (show outsL l = [] from outsL_none (by rw [← hie]; exact HNO.out))
   clear hie
   go_wp2_with fail
   go_ret
   exact ⟨_, rfl, Below.refl _ _, by rw [HNI.out]; exact World.ownsRow_nil _ _ _ _⟩
end Go.Proofs.YtneeknlhlkpnpaaGreat
