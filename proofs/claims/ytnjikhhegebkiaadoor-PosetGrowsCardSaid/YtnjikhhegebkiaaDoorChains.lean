/-
  poset.Chains: what it computes. Written by an AI agent.
-/
import Derived.Test.YtnjikhhegebkiaaDoorMatchLaw
import Derived.Test.YtnjikhhegebkiaaDoorLev
import Derived.Test.YtnjikhhegebkiaaDoorView
import Derived.Test.YtnjikhhegebkiaaDoorWayLaw
namespace Go.Proofs.YtnjikhhegebkiaaDoor
open Go.RowKit

/-- rows of the call's own, to be read -/
structure RowsR (w : World) (base : Nat) (vs : List Value) (ls : List (List Int)) : Prop where
  len : vs.length = ls.length
  own : ∀ k (h : k < vs.length) (h' : k < ls.length), w.ownsRow base 3 1 vs[k] ls[k].length (intCells ls[k])
theorem RowsR.evo {B base : Nat} {T : List TypeId} {w w' : World} {vs : List Value} {ls : List (List Int)} (h : RowsR w base vs ls) (he : Evo B T w w') (ht : 3 ∉ T) : RowsR w' base vs ls := ⟨h.len, fun k h1 h2 => own_evo (h.own k h1 h2) he ht⟩
theorem RowsR.below {B base : Nat} {w w' : World} {vs : List Value} {ls : List (List Int)} (h : RowsR w base vs ls) (hb : Below B w w') (hB : w.heap.size ≤ B) : RowsR w' base vs ls := ⟨h.len, fun k h1 h2 => own_below (h.own k h1 h2) hb hB⟩
theorem RowsR.mono {base base' : Nat} {w : World} {vs : List Value} {ls : List (List Int)} (h : RowsR w base vs ls) (hb : base' ≤ base) : RowsR w base' vs ls := ⟨h.len, fun k h1 h2 => own_mono (h.own k h1 h2) hb⟩
theorem RowsR.snoc {base : Nat} {w : World} {vs : List Value} {ls : List (List Int)} {v : Value} {l : List Int} (h : RowsR w base vs ls) (hv : w.ownsRow base 3 1 v l.length (intCells l)) : RowsR w base (vs ++ [v]) (ls ++ [l]) := by
  refine ⟨by simp [h.len], fun k h1 h2 => ?_⟩
  by_cases hk : k < vs.length
  · have hk2 : k < ls.length := by rw [← h.len]; exact hk
    simp only [List.getElem_append_left hk, List.getElem_append_left hk2]
    exact h.own k hk hk2
  · have e : k = vs.length := by simp at h1; omega
    subst e
    have e2 : (ls ++ [l])[vs.length] = l := by
      simp only [h.len]
      rw [List.getElem_concat_length (by rfl)]
    have e1 : (vs ++ [v])[vs.length] = v := by rw [List.getElem_concat_length (by rfl)]
    rw [e1, e2]
    exact hv
/-- a chain, from y on -/
def chainF (nx : List Int) : Nat → Int → List Int
  | 0, _ => []
  | f + 1, y => if y = -1 then [] else y :: chainF nx f (nx.getD y.toNat 0)
def startsF (pv : List Int) (k : Nat) : List Nat := (List.range k).filter fun x => decide (pv.getD x 0 = -1)
def chainsF (n : Nat) (nx pv : List Int) (k : Nat) : List (List Int) := (startsF pv k).map fun x : Nat => chainF nx (n + 1) x
theorem chainsF_succ {n : Nat} {nx pv : List Int} {k : Nat} : chainsF n nx pv (k + 1) = chainsF n nx pv k ++ if pv.getD k 0 = -1 then [chainF nx (n + 1) k] else [] := by
  unfold chainsF startsF
  rw [List.range_succ, List.filter_append, List.map_append]
  congr 1
  by_cases h : pv.getD k 0 = -1
  · rw [if_pos h, List.filter_cons_of_pos (by simpa using h)]; rfl
  · rw [if_neg h, List.filter_cons_of_neg (by simpa using h)]; rfl
theorem chainF_pos {nx : List Int} {f y : Nat} : chainF nx (f + 1) (y : Int) = (y : Int) :: chainF nx f (nx.getD y 0) := by
  rw [chainF, if_neg (by omega)]
  simp
theorem chainF_end {nx : List Int} {f : Nat} : chainF nx f (-1) = [] := by
  cases f <;> simp [chainF]
theorem chainF_length (nx : List Int) : ∀ (f : Nat) (y : Int), (chainF nx f y).length ≤ f
  | 0, _ => by simp [chainF]
  | f + 1, y => by
    unfold chainF
    split
    · simp
    · have := chainF_length nx f (nx.getD y.toNat 0)
      rw [List.length_cons]; omega
/-- what a vertex reaches lies higher -/
def Ranked (n : Nat) (Ab : List Nat) (L : Nat → Nat) : Prop := (∀ x y, x < n → Up Ab x y → L x < L y) ∧ ∀ x, x < n → L x < n
theorem ranked_of {n : Nat} {es : List (Int × Int)} {T : List Nat} (hE : EdgesIn n es) (hord : (orderF es n).length = n) (hn : n ≤ 64) (h : Grown1 false (fun _ => true) n es T) : Ranked n (abF T n) fun v => ((levF n es).getD v 0).toNat := by
  have hL := levF_lev hE hord
  obtain ⟨hl, hb⟩ := grown_iff (n := n) (show InN n es from hE) h
  refine ⟨fun x y hx hu => ?_, fun x hx => ?_⟩
  · unfold Up at hu
    rw [abF_at hx, offB_has (h.1.at_ x) (by omega)] at hu
    have hs := (hb x hx y).1 hu.2
    have key : y = x ∨ (levF n es).getD x 0 < (levF n es).getD y 0 := by
      refine hs.inv (P := fun z => z = x ∨ (levF n es).getD x 0 < (levF n es).getD z 0) (fun a b e ha => ?_) (.inl rfl)
      obtain ⟨i, hi, _, h1 | ⟨h1, _⟩⟩ := e
      · have h2 := hL.up _ (List.getElem_mem hi)
        rw [h1] at h2
        simp only [Int.toNat_natCast] at h2
        rcases ha with ha | ha
        · subst ha; exact .inr (by omega)
        · exact .inr (by omega)
      · cases h1
    have h1 := hL.nn x
    have h1 : 0 ≤ (levF n es).getD x 0 := h1
    rcases key with e | e
    · exact absurd e hu.1
    · simp only; omega
  · have h1 : 0 ≤ (levF n es).getD x 0 := hL.nn x
    have h2 := levF_lt hE hord hx
    simp only; omega
set_option maxRecDepth 20000 in
set_option maxHeartbeats 4000000 in
theorem chains_any (n : Int) (A : Option Addr) (cap : Nat) (es : List (Int × Int)) (w : World) (hes : Cells w w.heap.size A (edgeCells es)) (hT : Tab w) (hp : 0 < w.heap.size) :
    Calls Tryd.prog 10 #[.agg #[.int .i64 n, .slice A es.length cap]] w (fun e w' => ∃ v, e = .returned (.tuple #[v, .int .i64 (errOf (askB n es))]) ∧ Below w.heap.size w w' ∧ (askB n es = false → v = .slice none 0 0) ∧
      (askB n es = true → ∃ (T : List Nat) (vs : List Value), Grown1 false (fun _ => true) n.toNat es T ∧ w'.ownsRow w.heap.size 31 1 v vs.length vs ∧
        RowsR w' w.heap.size vs (chainsF n.toNat (joinF (abF T n.toNat) n.toNat n.toNat).nx (joinF (abF T n.toNat) n.toNat n.toNat).pv n.toNat))) := by
  have b0 := Blk.new w 24 #[.int .i64 n, .slice A es.length cap]
  have hbw := (Below.refl w.heap.size w).alloc (Nat.le_refl _) (.cells #[.int .i64 n, .slice A es.length cap] 24)
  have s1 := World.size_alloc w (.cells #[.int .i64 n, .slice A es.length cap] 24)
  have hesa := (hes.below hbw).more hbw.size
  go_enter Tryd.func10, Tryd.ntmps10
  go_upto_region 1 with fail
  generalize w.alloc (.cells #[.int .i64 n, .slice A es.length cap] 24) = w1 at *
  have HW1 := Lib.hid hbw
  have HES := Lib.hid hesa
  have HB0 := Lib.hid b0
  have g0 : w1.cell? ⟨w.heap.size, 0, none⟩ = some (.int .i64 n) := b0.cell 0
  have g1 : w1.cell? ⟨w.heap.size, 1, none⟩ = some (.slice A es.length cap) := b0.cell 1
  have l1 : w.heap.size < w1.heap.size := by omega
  have HT1 := Lib.hid (hT.below hbw hp)
  clear hbw b0 hesa hes s1
  go_wp2_with fail
  refine (pair_any n A cap es w1 HES.out HT1.out (by omega)).mono ?_
  rintro e w2 ⟨v, rfl, hb2, hnil, hyes⟩
  have HYES := Lib.hid hyes
  have HNIL := Lib.hid hnil
  have hz2 := hb2.size
  have HW2 := Lib.hid (HW1.out.trans (hb2.mono (Nat.le_of_lt l1)))
  clear hb2 g0 g1 hyes hnil
  cases ha : askB n es with
  | false =>
    have HA := Lib.hid ha
    clear ha
    go_wp2_with fail
    go_ret2
    refine ⟨.slice none 0 0, by rw [HA.out]; rfl, HW2.out, fun _ => rfl, fun h => ?_⟩
    rw [HA.out] at h
    cases h
  | true =>
    have HA := Lib.hid ha
    have hmay : mayB n es = true := by unfold askB at ha; exact (Bool.and_eq_true _ _ ▸ ha).1
    have hord : (orderF es n.toNat).length = n.toNat := by unfold askB at ha; exact of_decide_eq_true (Bool.and_eq_true _ _ ▸ ha).2
    obtain ⟨hm1, hm2, hm3⟩ := may_parts hmay
    have hin := badE_in hmay
    obtain ⟨n, rfl⟩ : ∃ k : Nat, n = k := ⟨n.toNat, by omega⟩
    obtain ⟨T, y, hgr, rfl, hyP, hyN, hyV, hkm⟩ := HYES.out ha
    simp only [Int.toNat_natCast] at hgr hkm hord
    have HGR := Lib.hid hgr
    have hab := abF_ok (show InN n es from hin) (by omega) hgr
    have HJ := Lib.hid (joinF_spec (by omega) hab n (Nat.le_refl _))
    have HOK := Lib.hid (joinF_ok hab (by omega) n (Nat.le_refl _))
    have hrk := ranked_of (show EdgesIn n es from hin) hord (by omega) hgr
    obtain ⟨L, hL⟩ : ∃ L : Nat → Nat, L = fun v => ((levF n es).getD v 0).toNat := ⟨_, rfl⟩
    rw [← hL] at hrk
    have HRK := Lib.hid hrk
    obtain ⟨t, ht⟩ : ∃ t, t = joinF (abF T n) n n := ⟨_, rfl⟩
    rw [← ht] at hkm HJ HOK
    have HTE := Lib.hid ht
    have HKM := Lib.hid hkm
    obtain ⟨gP, ga, gn, gp, cA, RA⟩ := y
    obtain ⟨gP', hgP'⟩ : ∃ z, z = gP := ⟨_, rfl⟩
    have HPV := Lib.hid (fun y (hy : y < n) => HOK.out.back y hy)
    have HNX := Lib.hid (fun x (hx : x < n) => HJ.out.good.n1 x hx)
    have hPl := hkm.P.lt
    have hpl := hkm.V.lt
    have hnl := hkm.N.lt
    simp only at hPl hpl hnl
    have z2 : w2.cell? ⟨gP, 2, none⟩ = some (.slice (some ⟨gp, 0, none⟩) n n) := hkm.P.cell 2
    clear ha hmay hord hin hgr hab hrk hL ht hkm hgP' hyP hyN hyV
    go_wp2_with fail
    go_loopg [2, 21] n (fun k s2 s21 wr => ∃ (x : Nat) (vs : List Value), s21 = .int .i64 x ∧ x ≤ n ∧ k = n - x ∧ RowsR wr w2.heap.size vs (chainsF n t.nx t.pv x) ∧ wr.ownsRow w2.heap.size 31 1 s2 vs.length vs ∧ Below w2.heap.size w2 wr)
    case atStart => exact ⟨0, [], rfl, Nat.zero_le _, rfl, ⟨rfl, fun k h => absurd h (by simp)⟩, World.ownsRow_nil _ _ _ _, Below.refl _ _⟩
    case round =>
      obtain ⟨x, vs, rfl, hx, hk, hrows, hown, hb⟩ := hrel
      have Hk := Lib.hid hk
      have HRO := Lib.hid hrows
      have HB := Lib.hid hb
      obtain ⟨A2, c2, rfl⟩ := own_slice hown
      have HOW := Lib.hid hown
      have hzr := hb.size
      have z2 : wr.cell? ⟨gP, 2, none⟩ = some (.slice (some ⟨gp, 0, none⟩) n n) := (HKM.out.P.below hb hPl).cell 2
      have hvl : vs.length ≤ x := by
        rw [hrows.len]
        unfold chainsF startsF
        rw [List.length_map]
        exact Nat.le_trans (List.length_filter_le _ _) (by simp)
      clear hk hrows hown hb
      by_cases hlt : x < n
      · have hlt' : (x : Int) < n := by omega
        have zv : wr.cell? ⟨gp, x, none⟩ = some (.int .i64 (t.pv.getD x 0)) := (HKM.out.V.below HB.out hpl).intR (by rw [show t.pv.length = n from HOK.out.pv]; exact hlt)
        obtain ⟨v, hv⟩ : ∃ v, v = t.pv.getD x 0 := ⟨_, rfl⟩
        rw [← hv] at zv
        have HV := Lib.hid hv
        have hvb : -1 ≤ t.pv.getD x 0 ∧ t.pv.getD x 0 < n := HPV.out x hlt
        rw [← hv] at hvb
        clear hv
        by_cases hv1 : v = -1
        · subst hv1
          have HCH := Lib.hid (show chainsF n t.nx t.pv (x + 1) = chainsF n t.nx t.pv x ++ [chainF t.nx (n + 1) x] by rw [chainsF_succ, if_pos HV.out.symm])
          obtain ⟨w4, rfl⟩ : ∃ y, y = wr := ⟨_, rfl⟩
          go_upto_region 10 with fail
          clear zv
          go_loopg [7, 8] (n + 1) (fun k s7 s8 wr => ∃ (y : Int) (pre : List Int), s8 = .int .i64 y ∧ (y = -1 ∨ ∃ z : Nat, y = z ∧ z < n ∧ n + 1 ≤ L z + k) ∧ chainF t.nx (n + 1) x = pre ++ chainF t.nx k y ∧ wr.ownsRow w4.heap.size 3 1 s7 pre.length (intCells pre) ∧ Below w4.heap.size w4 wr)
          case atStart => exact ⟨x, [], rfl, .inr ⟨x, rfl, hlt, by omega⟩, rfl, World.ownsRow_nil _ _ _ _, Below.refl _ _⟩
          case round =>
            obtain ⟨y, pre, rfl, hy, hch, hown, hb5⟩ := hrel
            have HCF := Lib.hid hch
            obtain ⟨A7, c7, rfl⟩ := own_slice hown
            have HO7 := Lib.hid hown
            have HB5 := Lib.hid hb5
            have hz5 := hb5.size
            have hpn : pre.length ≤ n + 1 := by
              have h1 := congrArg List.length hch
              have h2 := chainF_length t.nx (n + 1) x
              rw [List.length_append] at h1
              omega
            clear hch hown hb5
            rcases hy with rfl | ⟨z, rfl, hz, hzL⟩
            · have HF := Lib.hid (show chainF t.nx (n + 1) x = pre by rw [HCF.out, chainF_end, List.append_nil])
              have HOW5 := Lib.hid (own_below HOW.out HB5.out (Nat.le_refl _))
              have HRA := Lib.hid (show RowsR wr w2.heap.size vs (chainsF n t.nx t.pv x) from HRO.out.below HB5.out (Nat.le_refl _))
              have HOA := Lib.hid (show wr.ownsRow w2.heap.size 3 1 (.slice A7 pre.length c7) pre.length (intCells pre) from own_mono HO7.out (by omega))
              have HBA := Lib.hid (HB.out.trans (HB5.out.mono (by omega)))
              have hzA := World.size_alloc wr (.cells #[.slice A7 pre.length c7] 31)
              clear z2
              go_wp2_with (at_builtin; refine wp_app elemRows rfl _ _ rfl w2.heap.size (.slice A2 vs.length c2) _ _ rfl wr.heap.size [.slice A7 pre.length c7] rfl rfl HOW5.out rfl rfl ?x2 ?x3 ?x4 ?_)
              case x2 => omega
              case x3 => omega
              case x4 => omega
              intro v10 w10 ho10 hg10 _
              have HOX := HOW5
              have hev : Evo 0 [31] wr w10 := Evo.of_grown HOX.out hg10 (by simp) (Nat.zero_le _)
              have HR10 := Lib.hid (show RowsR w10 w2.heap.size (vs ++ [Value.slice A7 pre.length c7]) (chainsF n t.nx t.pv (x + 1)) by
                rw [HCH.out, HF.out]
                exact (HRA.out.evo hev (by decide)).snoc (own_evo HOA.out hev (by decide)))
              have HO10 := Lib.hid (show w10.ownsRow w2.heap.size 31 1 v10 (vs ++ [Value.slice A7 pre.length c7]).length (vs ++ [Value.slice A7 pre.length c7]) by simpa using ho10)
              have HB10 := Lib.hid (below_app HBA.out HOX.out hg10 (by omega) (Nat.le_refl _))
              clear ho10 hg10 hev
              go_wp2_with fail
              go_roundg (n - (x + 1))
              case measure => rw [Hk.out]; omega
              case rel => exact ⟨x + 1, vs ++ [Value.slice A7 pre.length c7], by go_num, by omega, rfl, HR10.out, HO10.out, HB10.out⟩
            · have hLz := HRK.out.2 z hz
              obtain ⟨f, rfl⟩ : ∃ f, gk = f + 1 := ⟨gk - 1, by omega⟩
              have HzL := Lib.hid hzL
              have hzn : (z : Int) < n := by omega
              have hz1 : ((z : Int) != -1) = true := by rw [bne_iff_ne]; omega
              have HC2 := Lib.hid (show chainF t.nx (n + 1) x = (pre ++ [(z : Int)]) ++ chainF t.nx f (t.nx.getD z 0) by rw [HCF.out, chainF_pos, List.append_assoc]; rfl)
              have HNY := Lib.hid (show t.nx.getD z 0 = -1 ∨ ∃ z' : Nat, t.nx.getD z 0 = z' ∧ z' < n ∧ n + 1 ≤ L z' + f by
                rcases HNX.out z hz with h | ⟨y, h1, h2, h3⟩
                · exact .inl h
                · have := HRK.out.1 z y hz h3
                  exact .inr ⟨y, h1, h2, by have := HzL.out; omega⟩)
              have hnb : -1 ≤ t.nx.getD z 0 ∧ t.nx.getD z 0 < n := by
                rcases HNY.out with h | ⟨y, h1, h2, _⟩ <;> omega
              clear hzL z2
              have hzA := World.size_alloc wr (.cells #[.int .i64 (z : Int)] 3)
              go_wp2_with (at_builtin; refine wp_app elemInt rfl _ _ rfl w4.heap.size (.slice A7 pre.length c7) _ _ rfl wr.heap.size [.int .i64 (z : Int)] rfl rfl HO7.out rfl rfl ?x2 ?x3 ?x4 ?_)
              case x2 => omega
              case x3 => omega
              case x4 => omega
              intro v10 w10 ho10 hg10 _
              have HB10 := Lib.hid (below_app HB5.out HO7.out hg10 hz5 (Nat.le_refl _))
              have HO10 := Lib.hid (show w10.ownsRow w4.heap.size 3 1 v10 (pre ++ [(z : Int)]).length (intCells (pre ++ [(z : Int)])) by simpa [intCells] using ho10)
              have y1 : w10.cell? ⟨gP, 1, none⟩ = some (.slice (some ⟨gn, 0, none⟩) n n) := ((HKM.out.P.below HB.out hPl).below HB10.out (by show gP < _; omega)).cell 1
              have yn : w10.cell? ⟨gn, z, none⟩ = some (.int .i64 (t.nx.getD z 0)) := ((HKM.out.N.below HB.out hnl).below HB10.out (by show gn < _; omega)).intR (by rw [show t.nx.length = n from HOK.out.nx]; exact hz)
              clear ho10 hg10
              go_wp2_with fail
              go_roundg f
              case measure => omega
              case rel => exact ⟨t.nx.getD z 0, pre ++ [(z : Int)], rfl, HNY.out, HC2.out, HO10.out, HB10.out⟩
        · have hv2 : (v != -1) = true := by rw [bne_iff_ne]; exact hv1
          have HCH := Lib.hid (show chainsF n t.nx t.pv (x + 1) = chainsF n t.nx t.pv x by rw [chainsF_succ, if_neg (by rw [← HV.out]; exact hv1), List.append_nil])
          clear hv1
          go_wp2_with fail
          go_roundg (n - (x + 1))
          case measure => rw [Hk.out]; omega
          case rel => exact ⟨x + 1, vs, by go_num, by omega, rfl, by rw [HCH.out]; exact HRO.out, HOW.out, HB.out⟩
      · have hxe : x = n := by omega
        have hlt' : ¬ (x : Int) < n := by omega
        have HF := Lib.hid (show wr.ownsRow w.heap.size 31 1 (.slice A2 vs.length c2) vs.length vs ∧ RowsR wr w.heap.size vs (chainsF n (joinF (abF T n) n n).nx (joinF (abF T n) n n).pv n) from ⟨own_mono HOW.out (by omega), by rw [← HTE.out]; have := HRO.out; rw [hxe] at this; exact this.mono (by omega)⟩)
        have HWF := Lib.hid (HW2.out.trans (HB.out.mono (by omega)))
        clear hxe
        go_wp2_with fail
        go_ret2
        exact ⟨.slice A2 vs.length c2, by rw [HA.out]; rfl, HWF.out, fun h => (by rw [HA.out] at h; cases h), fun _ => ⟨T, by simpa using HGR.out, vs, by simpa using HF.out.1, by simpa using HF.out.2⟩⟩
end Go.Proofs.YtnjikhhegebkiaaDoor
