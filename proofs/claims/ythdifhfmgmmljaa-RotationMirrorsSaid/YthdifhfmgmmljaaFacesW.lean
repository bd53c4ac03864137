/-
  Package rotation: Faces, walked. Written by an AI agent.
-/
import Derived.Test.YthdifhfmgmmljaaFaces
namespace Go.Proofs.Ythdifhfmgmmljaa
open Go.RowKit

theorem fWalk_stop {nx : List Int} {f : Nat} {seen : List Bool} {h : Nat} {face : List Int} (hs : seen.getD h false = true) : fWalk nx f seen h face = (seen, face) := by
  cases f with
  | zero => rfl
  | succ f => unfold fWalk; rw [if_pos hs]
theorem fWalk_go {nx : List Int} {f : Nat} {seen : List Bool} {h : Nat} {face : List Int} (hs : seen.getD h false = false) : fWalk nx (f + 1) seen h face = fWalk nx f (seen.set h true) (nx.getD h 0).toNat (face ++ [(h : Int)]) := by
  conv => lhs; unfold fWalk
  rw [if_neg (by rw [hs]; simp)]
theorem count_set {seen : List Bool} {h : Nat} (hh : h < seen.length) (hs : seen.getD h false = false) : (seen.set h true).count false + 1 = seen.count false := by
  rw [List.count_set hh]
  have e1 : seen[h] = false := by rw [List.getD_eq_getElem?_getD, List.getElem?_eq_getElem hh] at hs; exact hs
  have : 0 < seen.count false := List.count_pos_iff.2 (by rw [← e1]; exact List.getElem_mem hh)
  simp [e1]
  omega

def FacesPost (F : List (List Int)) (w : World) (e : Ending) (w' : World) : Prop := ∃ A c, e = .returned (.slice A F.length c) ∧ Below w.heap.size w w' ∧ RowsAt w' w'.heap.size A F

set_option maxHeartbeats 4000000 in
theorem faces_any (n : Int) (A C : Option Addr) (cap ccap : Nat) (es : List (Int × Int)) (rs : List (List Int)) (w : World) (hes : Cells w w.heap.size A (edgeCells es)) (hrs : RowsAt w w.heap.size C rs) (hr1 : rs.length ≤ 1000) (hr2 : ∀ l ∈ rs, l.length ≤ 1000) :
    Calls Try.prog 25 #[.agg #[.int .i64 n, .slice A es.length cap], .slice C rs.length ccap] w (FacesPost (facesOf n es rs) w) := by
  go_enter Try.func25, Try.ntmps25
  go_wp2_with fail
  have b0 := World.cell?_alloc_new w #[.int .i64 n, .slice A es.length cap] 24 0
  have b1 := World.cell?_alloc_new w #[.int .i64 n, .slice A es.length cap] 24 1
  simp only [List.getElem?_toArray, List.getElem?_cons_zero, List.getElem?_cons_succ] at b0 b1
  have hbw := (Below.refl w.heap.size w).alloc (Nat.le_refl _) (.cells #[.int .i64 n, .slice A es.length cap] 24)
  have s1 := World.size_alloc w (.cells #[.int .i64 n, .slice A es.length cap] 24)
  generalize w.alloc (.cells #[.int .i64 n, .slice A es.length cap] 24) = w1 at *
  refine (right_any n A C cap ccap es rs w1 ((hes.below hbw).more (by omega)) ((hrs.below hbw).more (by omega)) hr1 hr2).mono ?_
  rintro e w2 ⟨rfl, hb2⟩
  have c0 := (hb2.cell (p := ⟨w.heap.size, 0, none⟩) (by simp; omega)).trans b0
  have c1 := (hb2.cell (p := ⟨w.heap.size, 1, none⟩) (by simp; omega)).trans b1
  have hb3 := hbw.trans (hb2.mono (by omega))
  have l2 : w.heap.size < w2.heap.size := by have := hb2.size; omega
  clear b0 b1 hb2 hbw s1
  cases hm : rightB n es rs with
  | false =>
    have HF := Lib.hid (show facesOf n es rs = [] by unfold facesOf; rw [hm]; rfl)
    clear hm
    go_wp2_with fail
    go_ret
    exact ⟨none, 0, by rw [HF.out]; rfl, hb3, by rw [HF.out]; exact fun h => absurd h (by simp)⟩
  | true =>
    have HF := Lib.hid (show facesOf n es rs = facesL (nextsL es.length rs) by unfold facesOf; rw [hm]; rfl)
    have Hin := Lib.hid (right_in hm)
    obtain ⟨hn0, hn1, hn2⟩ := may_parts (right_may hm)
    clear hm
    have hnl : (nextsL es.length rs).length = 2 * es.length := nAll_length _ _ _
    have Hat := Lib.hid (fun (k : Nat) (hk : k < 2 * es.length) => nextsL_at (rs := rs) hk Hin.out)
    go_wp2_with fail
    refine (nexts_any n A C cap ccap es rs w2 ((hrs.below hb3).more (by omega)) (by omega) hr1 hr2 Hin.out).mono ?_
    rintro e w3 ⟨gn, rfl, hb4, hgn, hbn⟩
    have hb5 := hb3.trans (hb4.mono (by omega))
    have hgn3 := hbn.lt
    clear c0 c1 hb3 hb4 hes hrs
    generalize nextsL es.length rs = nx at *
    generalize hN : es.length = m at *
    have hmk : ∀ W, (Instr.makeSlice 39 (.int .i64 ((2 * m : Nat) : Int)) (.int .i64 ((2 * m : Nat) : Int))).run Try.prog W = .ok (.slice (some ⟨W.heap.size, 0, none⟩) (2 * m : Nat) (2 * m : Nat)) (W.alloc (.cells (List.replicate (2 * m) (Value.bool false)).toArray 4)) := fun W =>
      run_make1 elemBool rfl (2 * m) (by omega) (by omega) W
    have hNb : 2 * m ≤ 256 := by omega
    generalize 2 * m = N at *
    go_wp2_with fail
    have g0 : Blk (w3.alloc (.cells (Array.replicate N (Value.bool false)) 4)) w3.heap.size 4 (boolCells (fAll nx 0).1).toArray := by
      have := Blk.new w3 4 (Array.replicate N (Value.bool false))
      show Blk _ _ _ (boolCells (List.replicate nx.length false)).toArray
      rw [hnl, ← boolCells_replicate]
      simpa using this
    have hb6 := hb5.alloc hb5.size (.cells (Array.replicate N (Value.bool false)) 4)
    have hbn6 := hbn.alloc (.cells (Array.replicate N (Value.bool false)) 4)
    have lw3 : w.heap.size < w3.heap.size := by omega
    generalize w3.alloc (.cells (Array.replicate N (Value.bool false)) 4) = w4 at *
    generalize w3.heap.size = gs at *
    clear hb5 hbn hmk hN hn0 hn1 hn2
    go_loopg [4, 22] N (fun k s4 s22 wr => ∃ i : Nat, s22 = .int .i64 i ∧ i ≤ N ∧ k = N - i ∧ Below w.heap.size w wr ∧ Blk wr gn 3 (intCells nx).toArray ∧ Blk wr gs 4 (boolCells (fAll nx i).1).toArray ∧ FacesOwn wr w.heap.size s4 (fAll nx i).2 ∧ (fAll nx i).2.length ≤ i)
    case atStart => exact ⟨0, rfl, Nat.zero_le _, rfl, hb6, hbn6, g0, ⟨[], World.ownsRow_nil _ _ _ _, fun i hi => absurd hi (by simp [fAll])⟩, by simp [fAll]⟩
    case round =>
      clear hb6 hbn6 g0
      obtain ⟨i, rfl, hi, hk, hb, hbn, hbs, hF, hFl⟩ := hrel
      have Hk := Lib.hid hk; clear hk
      by_cases hlt : i < N
      · have hlt' : (i : Int) < N := by omega
        have hsl : (fAll nx i).1.length = N := (fAll_seen nx i).trans hnl
        have HS := Lib.hid (show fAll nx (i + 1) = fStep nx ((fAll nx i).1, (fAll nx i).2) i from fAll_succ nx i)
        have HF0 := Lib.hid hF
        obtain ⟨w0, rfl⟩ : ∃ x, x = wr := ⟨_, rfl⟩
        clear hF
        generalize (fAll nx i).1 = seen0 at *
        generalize (fAll nx i).2 = F at *
        have HH := Lib.hid (And.intro hb (And.intro hbn hbs))
        have hgsl := hbs.lt
        have hs0 := hb.size
        clear hb hbn hbs
        go_wp2_with fail
        go_loopg [8, 9] (seen0.count false) (fun k s8 s9 wr => ∃ (seen : List Bool) (h fuel : Nat) (face : List Int) (Af : Option Addr) (cf : Nat), s9 = .int .i64 h ∧ h < N ∧ s8 = .slice Af face.length cf ∧ k = seen.count false ∧ seen.length = N ∧ seen.count false < fuel ∧ fWalk nx fuel seen h face = fWalk nx (nx.length + 1) seen0 i [] ∧
          w0.grownBy wr (some gs) ∧ Blk wr gs 4 (boolCells seen).toArray ∧ wr.ownsRow w0.heap.size 3 1 (.slice Af face.length cf) face.length (intCells face) ∧ face.length + seen.count false ≤ N)
        case atStart =>
          have hcl : seen0.count false ≤ seen0.length := List.count_le_length
          exact ⟨seen0, i, nx.length + 1, [], none, 0, rfl, hlt, rfl, rfl, hsl, by omega, rfl, World.grownBy.refl _ _, HH.out.2.2, World.ownsRow_nil _ _ _ _, by simp; omega⟩
        case round =>
          obtain ⟨seen, h, fuel, face, Af, cf, rfl, hh, rfl, hk, hsn, hfu, hw, hgr, hbs, hown, hfl⟩ := hrel
          have Hk2 := Lib.hid hk; clear hk
          have Hw := Lib.hid hw; clear hw
          have Hgr := Lib.hid hgr; clear hgr
          have hh' : (h : Int) < N := by omega
          have d0 := hbs.bool (k := h) (by omega)
          cases hsh : seen.getD h false with
          | true =>
            have HR := Lib.hid (show fStep nx (seen0, F) i = (seen, if 0 < face.length then F ++ [face] else F) by
              unfold fStep
              simp only [← Hw.out, fWalk_stop hsh])
            rw [hsh] at d0
            clear hsh
            have hF2 := HF0.out.grown HH.out.2.2 Hgr.out
            have hbn2 := HH.out.2.1.grown Hgr.out (fun e => by injection e with e; omega)
            have hb2 := HH.out.1.grown Hgr.out hs0 (fun k e => by injection e with e; omega)
            have hsr := Hgr.out.size
            by_cases hpos : 0 < face.length
            · rw [if_pos hpos] at HR
              have hpos' : ((face.length : Int)) > 0 := by omega
              obtain ⟨sl, ho, h2⟩ := hF2
              have Ho := Lib.hid h2; clear h2
              go_wp2_with (at_builtin; refine wp_app elemRows rfl _ _ rfl w.heap.size u4 _ _ rfl wr.heap.size [.slice Af face.length cf] rfl rfl ho rfl rfl ?h2 ?h3 ?h4 ?_)
              case h2 => omega
              case h3 => omega
              case h4 => omega
              intro v' w' hown' hg' _
              have hb' := below_app hb2 ho hg' (by omega) (Nat.le_refl _)
              have hbn' := hbn2.grown hg' (fun e => by
                rcases own_other ho hbn2 (by decide) with h | h
                · rw [h] at e; cases e
                · exact h e.symm)
              have hbs' := hbs.grown hg' (fun e => by
                rcases own_other ho hbs (by decide) with h | h
                · rw [h] at e; cases e
                · exact h e.symm)
              have hF' := FacesOwn.push ho Ho.out (own_mono hown hs0) hg' hown'
              have HX := Lib.hid (And.intro hb' (And.intro hbn' (And.intro hbs' hF')))
              clear hb' hbn' hbs' hF' ho hown' hg' hown hb2 hbn2 hbs Ho
              go_wp2_with fail
              go_roundg (N - (i + 1))
              case measure => rw [Hk.out]; omega
              case rel => exact ⟨i + 1, by go_num, by omega, rfl, HX.out.1, HX.out.2.1, by rw [HS.out, HR.out]; exact HX.out.2.2.1, by rw [HS.out, HR.out]; exact HX.out.2.2.2, by rw [HS.out, HR.out]; simp; omega⟩
            · rw [if_neg hpos] at HR
              have hz : face.length = 0 := by omega
              have HX := Lib.hid (And.intro hb2 (And.intro hbn2 (And.intro hbs hF2)))
              clear hb2 hbn2 hbs hF2 hown
              go_wp2_with fail
              go_roundg (N - (i + 1))
              case measure => rw [Hk.out]; omega
              case rel => exact ⟨i + 1, by go_num, by omega, rfl, HX.out.1, HX.out.2.1, by rw [HS.out, HR.out]; exact HX.out.2.2.1, by rw [HS.out, HR.out]; exact HX.out.2.2.2, by rw [HS.out, HR.out]; simp; omega⟩
          | false =>
            obtain ⟨f, rfl⟩ : ∃ f, fuel = f + 1 := ⟨fuel - 1, by omega⟩
            have hcs := count_set (seen := seen) (h := h) (by omega) hsh
            obtain ⟨v, hv, hvN⟩ := Hat.out h hh
            have HW2 := Lib.hid (show fWalk nx f (seen.set h true) v (face ++ [(h : Int)]) = fWalk nx (nx.length + 1) seen0 i [] by
              rw [← Hw.out, fWalk_go hsh, hv]; rfl)
            rw [hsh] at d0
            clear hsh
            have f0 := hbs.frozen h
            have S1 := hbs.setBool h true
            have hsr := Hgr.out.size
            have hgr2 := only_setCell Hgr.out (p := ⟨gs, h, none⟩) (.inl rfl) (.bool true)
            have hown2 : (wr.setCell ⟨gs, h, none⟩ (.bool true)).ownsRow w0.heap.size 3 1 (.slice Af face.length cf) face.length (intCells face) := own_set hown hbs (by decide) h _
            have hs2 : (wr.setCell ⟨gs, h, none⟩ (.bool true)).heap.size = wr.heap.size := by simp [World.setCell]
            have HG2 := Lib.hid hgr2
            clear hgr2
            go_upto_region 13 with fail
            have HS1 := Lib.hid S1
            clear S1 hbs hown d0 f0
            generalize wr.setCell ⟨gs, h, none⟩ (.bool true) = wS at *
            have hsS := HG2.out.size
            go_wp2_with (at_builtin; refine wp_app elemInt rfl _ _ rfl w0.heap.size (.slice Af face.length cf) _ _ rfl wr.heap.size [.int .i64 (h : Int)] rfl hs2.symm hown2 rfl rfl ?h2 ?h3 ?h4 ?_)
            case h2 => omega
            case h3 => omega
            case h4 => omega
            intro v' w' hown' hg' _
            have hgr3 := only_app HG2.out hg' (fun k e => (hown2.lt k e).1)
            have hbs3 := HS1.out.grown hg' (fun e => by have := (hown2.lt gs e.symm).1; omega)
            have hbn3 := (HH.out.2.1.grown hgr3 (fun e => by injection e with e; omega)).int_ (k := h) (by omega)
            rw [hv] at hbn3
            obtain ⟨A5, c5, rfl⟩ := own_slice hown'
            have HY := Lib.hid (And.intro hgr3 hbs3)
            clear hgr3 hbs3 hg' hown2 HG2 HS1
            go_wp2_with fail
            go_roundg ((seen.set h true).count false)
            case measure => rw [Hk2.out]; omega
            case rel => exact ⟨seen.set h true, v, f, face ++ [(h : Int)], A5, c5, rfl, hvN, by simp, rfl, by simp [hsn], by omega, HW2.out, HY.out.1, HY.out.2, by simpa [intCells] using hown', by simp; omega⟩
      · have hie : i = N := by omega
        subst hie
        obtain ⟨A4, c4, rfl, hR⟩ := hF.rows
        have HX := Lib.hid (show facesOf n es rs = (fAll nx i).2 by rw [HF.out]; unfold facesL; rw [hnl])
        go_wp2_with fail
        go_ret
        exact ⟨A4, c4, by rw [HX.out]; rfl, hb, by rw [HX.out]; exact hR⟩
end Go.Proofs.Ythdifhfmgmmljaa
