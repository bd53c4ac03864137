import Derived.Test.YtneeknlhlkpnpaaGreatZRdyL
import Derived.Test.YtneeknlhlkpnpaaGreatZRPl
import Derived.Test.YtneeknlhlkpnpaaGreatZFollow
/-
 rise.order: what it computes. Written by an AI agent.
-/
namespace Go.Proofs.YtneeknlhlkpnpaaGreat
open Go.RowKit
def GreedyR (N : Nat) (es : List (Int × Int)) (outs : List (List Int)) (l : List Nat) : Prop := ∃ r en, Walk es outs ([], [], List.replicate N []) l (r, natI l, en) ∧ (∀ x ∈ l, x < N) ∧ ∀ x, x < N → readyR es r (natI l) x = false
def OrderPost (N : Nat) (es : List (Int × Int)) (outs : List (List Int)) (w : World) (e : Ending) (w' : World) : Prop :=
 ∃ l A c, e = .returned (.tuple #[.slice A l.length c, .bool (decide (l.length = N))]) ∧ Below w.heap.size w w' ∧ w'.ownsRow w.heap.size 3 1 (.slice A l.length c) l.length (intCells (natI l)) ∧ GreedyR N es outs l
theorem natI_length (l : List Nat) : (natI l).length = l.length := by unfold natI; rw [List.length_map]
theorem walk_snoc {es : List (Int × Int)} {outs : List (List Int)} : ∀ {l : List Nat} {st : SwSt} {r : List Itm} {pl : List Int} {en : List (List Itm)}, Walk es outs st l (r, pl, en) → ∀ {x : Nat} {A E B : List Itm}, (x : Int) ∉ pl → CutR es r x A E B → Walk es outs st (l ++ [x]) (A ++ outA es outs x ++ B, pl ++ [(x : Int)], en.set x E) := by
 intro l st r pl en h
 generalize hf : (r, pl, en) = fin at h
 induction h with
 | nil st =>
  intro x A E B hp hc
  subst hf
  exact Walk.cons hp hc (Walk.nil _)
 | cons hp hc _ ih =>
  intro x A E B hp' hc'
  exact Walk.cons hp hc (ih hf hp' hc')
theorem walk_le {N : Nat} {es : List (Int × Int)} {outs : List (List Int)} {l : List Nat} {r : List Itm} {pl : List Int} {en : List (List Itm)} (h : Walk es outs ([], [], List.replicate N []) l (r, pl, en)) (hl : ∀ x ∈ l, x < N) : l.length ≤ N := by
 have hi := h.inv hl SwI.start
 have hp := h.placed
 simp only [List.nil_append] at hp
 have hn := hi.nd
 simp only [hp] at hn
 have h1 : l.Nodup := by
  unfold natI at hn
  rw [List.nodup_iff_pairwise_ne, List.pairwise_map] at hn
  exact List.nodup_iff_pairwise_ne.2 (hn.imp fun h e => h (by rw [e]))
 have := List.Nodup.length_le_of_subset h1 (l₂ := List.range N) (fun a ha => List.mem_range.2 (hl a ha))
 simpa using this
theorem rdyL_head {es : List (Int × Int)} {r : List Itm} {pl : List Int} {n : Nat} {x : Int} {t : List Int} (h : rdyL es r pl n = x :: t) : ∃ y : Nat, x = y ∧ y < n ∧ readyR es r pl y = true := by
 have : x ∈ rdyL es r pl n := by rw [h]; simp
 unfold rdyL at this
 obtain ⟨y, hy, rfl⟩ := List.mem_map.1 this
 obtain ⟨h1, h2⟩ := List.mem_filter.1 hy
 exact ⟨y, rfl, List.mem_range.1 h1, h2⟩
theorem rdyL_nil {es : List (Int × Int)} {r : List Itm} {pl : List Int} {n : Nat} (h : rdyL es r pl n = []) : ∀ x, x < n → readyR es r pl x = false := fun x hx => by
 unfold rdyL at h
 have h := List.map_eq_nil_iff.1 h
 cases hq : readyR es r pl x with
 | false => rfl
 | true => exact absurd hq (List.filter_eq_nil_iff.1 h x (List.mem_range.2 hx))
theorem evoN {B : Nat} {T : List TypeId} {w w' : World} (hT : T = []) (h : Evo B T w w') : Below w.heap.size w w' := ⟨h.os, h.tape, h.output, h.size, fun k hk => h.keep k hk (.inr (fun _ _ _ _ => by subst hT; simp))⟩
def pfFront {B : Nat} (w0 : World) (g gv n : Nat) (es : List (Int × Int)) (r : List Itm) (pl : List Int) (hB : w0.heap.size ≤ B) : PFact B := ⟨[89, 81, 3], [], fun _ _ w => FrontW w0 w g gv n es r pl ∧ B ≤ w.heap.size, fun T hT _ _ _ _ he ⟨h, hs⟩ => ⟨h.evo he hB hs (hT _ (by simp)) (hT _ (by simp)) (hT _ (by simp)), Nat.le_trans hs he.size⟩, fun _ _ _ _ _ h => h⟩
set_option maxRecDepth 20000 in
set_option maxHeartbeats 4000000 in
theorem orderG_any (N : Nat) (A C : Option Addr) (cap cc : Nat) (es : List (Int × Int)) (outs : List (List Int)) (w : World) (hes : Cells w w.heap.size A (edgeCells es)) (hcap : es.length ≤ cap) (hU : RowsAt w w.heap.size C outs) (hg : GoodP N es) (hO : OutsP N es outs) (hol : outs.length = N) :
  Calls Tryz.prog 75 #[.agg #[.int .i64 N, .slice A es.length cap], .slice C outs.length cc] w (OrderPost N es outs w) := by
 have hN64 : N ≤ 64 := by have := (may_parts hg.may).2.1; omega
 have hm128 := (may_parts hg.may).2.2
 obtain ⟨wb, hwb⟩ : ∃ wb, wb = w.alloc (.cells #[.int .i64 N, .slice A es.length cap] 24) := ⟨_, rfl⟩
 have hb0 : Below w.heap.size w wb := by rw [hwb]; exact (Below.refl _ _).alloc (Nat.le_refl _) _
 have hGB : Blk wb w.heap.size 24 #[.int .i64 N, .slice A es.length cap] := by rw [hwb]; exact Blk.new _ _ _
 have HES := Lib.hid ((hes.below hb0).more hb0.size)
 have HU := Lib.hid ((hU.below hb0).more hb0.size)
 have HB0 := Lib.hid hb0
 have HG := Lib.hid hg
 have HO := Lib.hid hO
 have g0 := hGB.cell 0
 have g1 := hGB.cell 1
 simp only [List.getElem?_toArray, List.getElem?_cons_zero, List.getElem?_cons_succ] at g0 g1
 clear hes hU hGB hb0 hg hO
 go_enter Tryz.func75, Tryz.ntmps75
 go_upto_region 1 with fail
 rw [← hwb]
 obtain ⟨gG, hgG⟩ : ∃ g, g = w.heap.size := ⟨_, rfl⟩
 rw [← hgG] at g0 g1 ⊢
 clear hwb hgG
 go_wp2_with fail
 refine (new_any N A cap es wb HES.out hcap).mono ?_
 rintro e w2 (⟨hno, _⟩ | ⟨_, w0, g, gv, rfl, hb2, hfw⟩)
 case inl => exact absurd HG.out hno
 rw [Int.toNat_natCast] at hfw
 have HFW2 := Lib.hid hfw
 have HB2 := Lib.hid hb2
 clear hb2 hfw g0 g1
 go_wp2_with fail
 refine (readyL_any w0 w2 g gv N es [] [] HFW2.out (by omega) (by omega) (by simp) (by simp)).mono ?_
 rintro e w3 ⟨v3, rfl, hb3, ho3⟩
 obtain ⟨A3, c3, rfl⟩ := own_slice ho3
 have HFW3 := Lib.hid (HFW2.out.next hb3)
 have HC3 := Lib.hid (Cells.of_own ho3)
 clear hb3 ho3
 go_wp2_with fail
 have HUW := Lib.hid ((HU.out.below HB2.out).more HB2.out.size)
 go_loopg [8] N (fun k s8 wr => ∃ (l : List Nat) (r : List Itm) (en : List (List Itm)) (A8 : Option Addr) (c8 : Nat), s8 = .slice A8 (rdyL es r (natI l) N).length c8 ∧ l.length ≤ N ∧ k = N - l.length ∧ FrontW w0 wr g gv N es r (natI l) ∧ Cells wr wr.heap.size A8 (intCells (rdyL es r (natI l) N)) ∧ Walk es outs ([], [], List.replicate N []) l (r, natI l, en) ∧ (∀ x ∈ l, x < N) ∧ r.length ≤ l.length * 501)
 case atStart => exact ⟨[], [], List.replicate N [], A3, c3, rfl, Nat.zero_le _, rfl, HFW3.out, HC3.out, Walk.nil _, by simp, by simp⟩
 case round =>
  obtain ⟨l, r, en, A8, c8, rfl, hlN, hk, hfw, hc8, hwk, hlt, hrl⟩ := hrel
  have Hk := Lib.hid hk
  have HFW := Lib.hid hfw
  have HC8 := Lib.hid hc8
  have HWK := Lib.hid hwk
  have HLT := Lib.hid hlt
  have HRL := Lib.hid hrl
  have hr5 : r.length ≤ 50000 := by have : l.length * 501 ≤ 64 * 501 := Nat.mul_le_mul_right _ (by omega); omega
  have HPL := Lib.hid (natI_length l)
  clear hk hfw hc8 hwk hlt hrl
  obtain ⟨L, hL⟩ : ∃ L, L = rdyL es r (natI l) N := ⟨_, rfl⟩
  have HL := Lib.hid hL
  rw [← hL] at HC8 ⊢
  clear hL
  cases L with
  | nil =>
   have HGR := Lib.hid (show GreedyR N es outs l from ⟨r, en, HWK.out, HLT.out, rdyL_nil HL.out.symm⟩)
   go_wp2_with fail
   refine (placed_any w0 wr g gv N es r (natI l) HFW.out (by rw [HPL.out]; omega)).mono ?_
   rintro e w5 ⟨v5, rfl, hb5, ho5⟩
   obtain ⟨A5, c5, rfl⟩ := own_slice ho5
   rw [HPL.out] at ho5 ⊢
   have HO5 := Lib.hid ho5
   have HFW5 := Lib.hid (HFW.out.next hb5)
   clear hb5 ho5
   go_wp2_with fail
   refine (done_any w0 w5 g gv N es r (natI l) HFW5.out).mono ?_
   rintro e w6 ⟨rfl, hb6⟩
   rw [HPL.out]
   have HO6 := Lib.hid (own_below HO5.out hb6 (Nat.le_refl _))
   have HB6 := Lib.hid ((HB0.out.trans (HB2.out.mono HB0.out.size)).trans ((HFW5.out.bel.trans (hb6.mono HFW5.out.bel.size)).mono (HB0.out.trans (HB2.out.mono HB0.out.size)).size))
   clear hb6
   go_wp2_with fail
   refine bodyPost_ret (results_tmp2 rfl _ _ _) (by rfl) ?_
   exact ⟨l, A5, c5, rfl, HB6.out, own_mono HO6.out (Nat.le_trans HB0.out.size (Nat.le_trans HB2.out.size HFW.out.bel.size)), HGR.out⟩
  | cons x0 t =>
   obtain ⟨x, rfl, hxN, hrd⟩ := rdyL_head HL.out.symm
   have hxu : x < outs.length := by omega
   have hxu' : (x : Int) < outs.length := by omega
   have hlen : (0 : Int) < ((t.length + 1 : Nat) : Int) := by omega
   obtain ⟨b8, o8, rfl, hb8, hcx⟩ := HC8.out.ints (by simp)
   have c0 := hcx 0 (by simp)
   simp only [List.getElem_cons_zero, Nat.add_zero] at c0
   obtain ⟨bu, ou, rfl, hbu, hcu⟩ := (HUW.out.below HFW.out.bel) (by omega)
   obtain ⟨Ax, cx, d0, hCx⟩ := hcu x hxu
   have HOX := Lib.hid (show outs.getD x [] = outs[x] by rw [List.getD_eq_getElem?_getD, List.getElem?_eq_getElem hxu]; rfl)
   have HSX := Lib.hid (show outs[x].mergeSort leI = endsF es Prod.fst (x : Nat) es.length by rw [← HOX.out]; exact sort_eq (HO.out x hxN) (endsF_sorted _ _ _ _))
   have HCX := Lib.hid hCx
   have HRD := Lib.hid hrd
   have hOXL : outs[x].length ≤ 500 := by
    have h1 : (outs[x].mergeSort leI).length = outs[x].length := List.length_mergeSort _
    rw [HSX.out] at h1
    have := endsF_length es Prod.fst (x : Nat) es.length
    omega
   have HOXL := Lib.hid hOXL
   have hbuw : bu < wr.heap.size := Nat.lt_of_lt_of_le hbu HFW.out.bel.size
   have hsz := HFW.out.bel.size
   clear hcx hcu hCx hrd hOXL
   generalize outs[x] = ox at *
   go_upto_region 5 with fail
   refine R3.wp_region_i w0.heap.size [[], [89, 3]] [0, 0, 0, 0, 0, 0, 0, 0, 0, 0, 1]
    [([], .val (.pointer (some ⟨g, 0, none⟩))), ([], .val (.slice (some ⟨b8, o8, none⟩) (t.length + 1) c8)), ([1], .val (.pointer (some ⟨b8, o8, none⟩))), ([2], .val (.int .i64 (x : Nat))), ([], .val (.slice (some ⟨bu, ou, none⟩) N cc)), ([], .val (.slice (some ⟨b8, o8, none⟩) (t.length + 1) c8)), ([5], .val (.pointer (some ⟨b8, o8, none⟩))), ([6], .val (.int .i64 (x : Nat))), ([4, 7], .val (.pointer (some ⟨bu, ou + x, none⟩))), ([8], .val (.slice Ax ox.length cx)), ([0, 3, 9], pfFront w0 g gv N es (placeR es r x ox) (natI l ++ [(x : Int)]) (Nat.le_refl _))] [10] (by kernel_rfl) (by kernel_rfl) (fun us => ?_) ?_
   ·refine R3.pgo_pure _ rfl rfl (fun wv hw hu => ⟨.pointer (some ⟨g, 0, none⟩), ?_, rfl⟩) ?_
    ·have tok := True.intro
     clear hw hu
     go_simp
    refine R3.pgo_pure _ rfl rfl (fun wv hw hu => ⟨.slice (some ⟨b8, o8, none⟩) (t.length + 1) c8, ?_, rfl⟩) ?_
    ·have tok := True.intro
     clear hw hu
     go_simp
    refine R3.pgo_pure _ rfl rfl (fun wv hw hu => ⟨.pointer (some ⟨b8, o8, none⟩), ?_, rfl⟩) ?_
    ·have tok := True.intro
     have h1 : us 1 = .slice (some ⟨b8, o8, none⟩) (t.length + 1) c8 := hu.1
     clear hw hu
     go_simp
    refine R3.pgo_pure _ rfl rfl (fun wv hw hu => ⟨.int .i64 (x : Nat), ?_, rfl⟩) ?_
    ·have tok := True.intro
     have h2 : us 2 = .pointer (some ⟨b8, o8, none⟩) := hu.1
     have zy : wv.cell? ⟨b8, o8, none⟩ = some (.int .i64 (x : Nat)) := ((evoN (by kernel_rfl) hw).cell (p := ⟨b8, o8, none⟩) (by first | exact hb8 | exact hbuw)).trans c0
     clear hw hu
     go_simp
    refine R3.pgo_pure _ rfl rfl (fun wv hw hu => ⟨.slice (some ⟨bu, ou, none⟩) N cc, ?_, rfl⟩) ?_
    ·have tok := True.intro
     clear hw hu
     go_simp
    refine R3.pgo_pure _ rfl rfl (fun wv hw hu => ⟨.slice (some ⟨b8, o8, none⟩) (t.length + 1) c8, ?_, rfl⟩) ?_
    ·have tok := True.intro
     clear hw hu
     go_simp
    refine R3.pgo_pure _ rfl rfl (fun wv hw hu => ⟨.pointer (some ⟨b8, o8, none⟩), ?_, rfl⟩) ?_
    ·have tok := True.intro
     have h5 : us 5 = .slice (some ⟨b8, o8, none⟩) (t.length + 1) c8 := hu.1
     clear hw hu
     go_simp
    refine R3.pgo_pure _ rfl rfl (fun wv hw hu => ⟨.int .i64 (x : Nat), ?_, rfl⟩) ?_
    ·have tok := True.intro
     have h6 : us 6 = .pointer (some ⟨b8, o8, none⟩) := hu.1
     have zy : wv.cell? ⟨b8, o8, none⟩ = some (.int .i64 (x : Nat)) := ((evoN (by kernel_rfl) hw).cell (p := ⟨b8, o8, none⟩) (by first | exact hb8 | exact hbuw)).trans c0
     clear hw hu
     go_simp
    refine R3.pgo_pure _ rfl rfl (fun wv hw hu => ⟨.pointer (some ⟨bu, ou + x, none⟩), ?_, rfl⟩) ?_
    ·have tok := True.intro
     have h4 : us 4 = .slice (some ⟨bu, ou, none⟩) N cc := hu.1
     have h7 : us 7 = .int .i64 (x : Nat) := hu.2.1
     clear hw hu
     go_simp
    refine R3.pgo_pure _ rfl rfl (fun wv hw hu => ⟨.slice Ax ox.length cx, ?_, rfl⟩) ?_
    ·have tok := True.intro
     have h8 : us 8 = .pointer (some ⟨bu, ou + x, none⟩) := hu.1
     have zy : wv.cell? ⟨bu, ou + x, none⟩ = some (.slice Ax ox.length cx) := ((evoN (by kernel_rfl) hw).cell (p := ⟨bu, ou + x, none⟩) (by first | exact hb8 | exact hbuw)).trans d0
     clear hw hu
     go_simp
    refine R3.pgo_op _ rfl rfl (fun K wv hw hu hK => ?_) ?_
    ·have tok := True.intro
     have h0 : us 0 = .pointer (some ⟨g, 0, none⟩) := hu.1
     have h3 : us 3 = .int .i64 (x : Nat) := hu.2.1
     have h9 : us 9 = .slice Ax ox.length cx := hu.2.2.1
     have hbl := evoN (by kernel_rfl) hw
     have hfv := (HFW.out.next (Below.refl wr.heap.size wr).drew).next hbl
     refine wpo_call (f := 14) (args := #[.pointer (some ⟨g, 0, none⟩), .int .i64 (x : Nat), .slice Ax ox.length cx]) ?_ ((place_any w0 wv g gv N es r (natI l) x Ax cx ox hfv (HCX.out.drew.below (hbl.mono hsz)) hxN (by omega) hr5 (by rw [HPL.out]; omega) HRD.out HSX.out).mono ?_)
     ·clear hK hw hu
      go_simp
     rintro e w' ⟨v, rfl, hev, _, hfw'⟩
     exact ⟨_, rfl, hK _ _ hev ⟨hfw', hfw'.bel.size⟩⟩
    trivial
   ·intro us w5 hw hu
    have hfw5 : FrontW w0 w5 g gv N es (placeR es r x ox) (natI l ++ [(x : Int)]) := hu.1.1
    have HFW5 := Lib.hid hfw5
    clear hw hu hfw5
    simp only [lexL]
    go_simp
    obtain ⟨hp, E1, E2, E3, hcut⟩ := ready_cut HRD.out
    have hpl := hcut.place ox
    have hsn := walk_snoc HWK.out hp hcut
    have e1 : natI (l ++ [x]) = natI l ++ [(x : Int)] := by unfold natI; simp
    have e2 : E1 ++ outA es outs x ++ E3 = placeR es r x ox := by rw [hpl]; unfold outA; rw [HOX.out]
    rw [e2, ← e1] at hsn
    rw [← e1] at HFW5
    have HSN := Lib.hid hsn
    have HLT2 := Lib.hid (show ∀ y ∈ l ++ [x], y < N from fun y hy => by
     rcases List.mem_append.1 hy with h | h
     ·exact HLT.out y h
     ·rw [List.mem_singleton.1 h]; exact hxN)
    have hlen2 : l.length + 1 ≤ N := by
     have := walk_le HSN.out HLT2.out
     simpa using this
    have HRL2 := Lib.hid (show (placeR es r x ox).length ≤ (l.length + 1) * 501 by
     have := placeR_length (es := es) (r := r) (x := x) (outs := ox)
     have := HRL.out
     have := HOXL.out
     omega)
    have hr6 : (placeR es r x ox).length ≤ 50000 := by have := HRL2.out; have : (l.length + 1) * 501 ≤ 64 * 501 := Nat.mul_le_mul_right _ (by omega); omega
    have HPL2 := Lib.hid (natI_length (l ++ [x]))
    have HLA := Lib.hid (show (l ++ [x]).length = l.length + 1 by simp)
    clear hp hcut hpl hsn e1 e2 c0 d0
    generalize placeR es r x ox = r7 at *
    generalize en.set x E2 = en7 at *
    go_wp2_with fail
    refine (readyL_any w0 w5 g gv N es r7 (natI (l ++ [x])) HFW5.out (by omega) (by omega) hr6 (by rw [HPL2.out, HLA.out]; omega)).mono ?_
    rintro e w6 ⟨v6, rfl, hb6, ho6⟩
    obtain ⟨A6, c6, rfl⟩ := own_slice ho6
    have HFW6 := Lib.hid (HFW5.out.next hb6)
    have HC6 := Lib.hid (Cells.of_own ho6)
    clear hb6 ho6
    go_wp2_with fail
    go_roundg (N - (l.length + 1))
    case measure => rw [Hk.out]; omega
    case rel => exact ⟨l ++ [x], r7, en7, A6, c6, rfl, by rw [HLA.out]; omega, by rw [HLA.out], HFW6.out, HC6.out, HSN.out, HLT2.out, by rw [HLA.out]; exact HRL2.out⟩
end Go.Proofs.YtneeknlhlkpnpaaGreat
