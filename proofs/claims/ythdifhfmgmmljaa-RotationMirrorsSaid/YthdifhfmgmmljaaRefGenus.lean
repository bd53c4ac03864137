/-
  The document's Genus of a rotation; what is too great. Written by an AI agent.
-/
import Derived.Test.YthdifhfmgmmljaaRefFaces
import Derived.Test.YthdifhfmgmmljaaGenus
namespace Go.Proofs.Ythdifhfmgmmljaa
open Go.RowKit

def GreatPost (es : List (Int × Int)) (rs : List (List Int)) (w : World) (e : Ending) (w' : World) : Prop := ∃ b, e = .returned (.bool b) ∧ Below w.heap.size w w' ∧ (b = false → es.length ≤ 60 ∧ rs.length ≤ 70 ∧ ∀ l ∈ rs, l.length ≤ 200)
theorem great_any (n : Int) (A C : Option Addr) (cap ccap : Nat) (es : List (Int × Int)) (rs : List (List Int)) (w : World) (hrs : RowsAt w w.heap.size C rs) :
    Calls Try.prog 24 #[.agg #[.int .i64 n, .slice A es.length cap], .slice C rs.length ccap] w (GreatPost es rs w) := by
  go_enter Try.func24, Try.ntmps24
  have hbw := (Below.refl w.heap.size w).alloc (Nat.le_refl _) (.cells #[.int .i64 n, .slice A es.length cap] 24)
  by_cases h1 : 60 < es.length
  · go_wp2_with fail
    go_ret
    exact ⟨true, rfl, hbw, fun h => by cases h⟩
  by_cases h2 : 70 < rs.length
  · go_wp2_with fail
    go_ret
    exact ⟨true, rfl, hbw, fun h => by cases h⟩
  have hrs1 := hrs.below hbw
  go_wp2_with fail
  generalize w.alloc (.cells #[.int .i64 n, .slice A es.length cap] 24) = w1 at *
  go_loopg [18] rs.length (fun k s18 wr => ∃ i : Nat, s18 = .int .i64 i ∧ i ≤ rs.length ∧ k = rs.length - i ∧ wr = w1 ∧ ∀ j (hj : j < rs.length), j < i → rs[j].length ≤ 200)
  case atStart => exact ⟨0, rfl, Nat.zero_le _, rfl, rfl, fun j _ hj => absurd hj (by omega)⟩
  case round =>
    obtain ⟨i, rfl, hi, hk, hwr, hs⟩ := hrel
    have Hk := Lib.hid hk; clear hk
    have Hs := Lib.hid hs; clear hs
    by_cases hlt : i < rs.length
    · have hlt' : (i : Int) < rs.length := by omega
      obtain ⟨b, off, rfl, hbb, hc⟩ := hrs1 (by omega)
      obtain ⟨Ai, ci, e0, _⟩ := hc i hlt
      have e0 : wr.cell? ⟨b, off + i, none⟩ = some (.slice Ai rs[i].length ci) := by rw [hwr]; exact e0
      have HB := Lib.hid (show Below w.heap.size w wr by rw [hwr]; exact hbw)
      have HH := Lib.hid (fun (h : rs[i].length ≤ 200) => (fun j (hj : j < rs.length) (hji : j < i + 1) => (by
        by_cases h0 : j = i
        · subst h0; exact h
        · exact Hs.out j hj (by omega) : rs[j].length ≤ 200)))
      have Hwr := Lib.hid hwr
      clear hc hwr
      generalize rs[i] = l at *
      by_cases hl : 200 < l.length
      · go_wp2_with fail
        go_ret
        exact ⟨true, rfl, HB.out, fun h => by cases h⟩
      · have H2 := Lib.hid (HH.out (by omega))
        go_wp2_with fail
        go_roundg (rs.length - (i + 1))
        case measure => rw [Hk.out]; omega
        case rel => exact ⟨i + 1, by go_num, by omega, rfl, Hwr.out, H2.out⟩
    · have HB := Lib.hid (show Below w.heap.size w wr by rw [hwr]; exact hbw)
      have HR := Lib.hid (show ∀ l ∈ rs, l.length ≤ 200 from fun l hl => by
        obtain ⟨j, hj, rfl⟩ := List.mem_iff_getElem.1 hl
        exact Hs.out j hj (by omega))
      have Hwr := Lib.hid hwr
      clear hwr
      go_wp2_with fail
      go_ret
      exact ⟨false, rfl, HB.out, fun _ => ⟨by omega, by omega, HR.out⟩⟩

def pU (wo : List Bool) (es : List (Int × Int)) (n k : Nat) : Nat := (List.range k).countP fun x => decide (rpart wo es n x = (x : Int))
theorem pU_succ (wo : List Bool) (es : List (Int × Int)) (n k : Nat) : pU wo es n (k + 1) = pU wo es n k + if rpart wo es n k = (k : Int) then 1 else 0 := by
  unfold pU
  rw [List.range_succ, List.countP_append]
  simp
theorem pU_le (wo : List Bool) (es : List (Int × Int)) (n k : Nat) : pU wo es n k ≤ k := Nat.le_trans List.countP_le_length (by simp)
theorem pU_cls {es : List (Int × Int)} {N : Nat} (hin : InN N es) (hn : N ≤ 64) : pU (List.replicate N false) es N N = cls (Q es es.length) N := by
  have hK : ∀ x y, Kin 0 es x y ↔ Q es es.length x y := fun x y => by
    unfold Kin Q
    refine Star.congr fun i hi => ?_
    unfold withoutB
    have h0 : ∀ a, setHas 0 a = false := fun a => by simp [setHas]
    rw [h0, h0, decide_eq_true hi]
    rfl
  unfold pU cls
  apply List.countP_congr
  intro x hx
  have hx := List.mem_range.1 hx
  rw [decide_eq_true_eq, tst_iff, rpart_iff (wo := 0) hin hn (fun y hy => by rw [List.getD_eq_getElem?_getD, List.getElem?_replicate, if_pos hy]; simp) hx x hx]
  constructor
  · rintro ⟨_, _, g⟩ k hk q
    exact g k hk (Kin.symm ((hK _ _).2 q))
  · intro g
    exact ⟨by simp, .refl _, fun y hy q => g y hy ((hK _ _).1 (Kin.symm q))⟩

theorem part0_is (N : Nat) (A : Option Addr) (cap : Nat) (es : List (Int × Int)) (W : World) (hes : Cells W W.heap.size A (edgeCells es)) (hin : InN N es) (h0 : 0 < N) (h1 : N ≤ 64) (hlen : es.length ≤ 128) :
    Calls Try.prog 20 #[.agg #[.int .i64 N, .slice A es.length cap], .slice (some ⟨W.heap.size, 0, none⟩) N N] (W.alloc (.cells (Array.replicate N (Value.bool false)) 4)).drew
      (fun e w' => ∃ g c, e = .returned (.slice (some ⟨g, 0, none⟩) N c) ∧ Below W.heap.size W w' ∧ ∀ k, k < N → w'.cell? ⟨g, k, none⟩ = some (.int .i64 (rpart (List.replicate N false) es N k))) := by
  have g0 : Blk (W.alloc (.cells (Array.replicate N (Value.bool false)) 4)) W.heap.size 4 (boolCells (List.replicate N false)).toArray := by
    have := Blk.new W 4 (Array.replicate N (Value.bool false))
    rw [← boolCells_replicate]
    simpa using this
  have hb := (Below.refl W.heap.size W).alloc (Nat.le_refl _) (.cells (Array.replicate N (Value.bool false)) 4)
  have hs : W.heap.size ≤ (W.alloc (.cells (Array.replicate N (Value.bool false)) 4)).heap.size := by simp
  have ho : Cells (W.alloc (.cells (Array.replicate N (Value.bool false)) 4)) (W.alloc (.cells (Array.replicate N (Value.bool false)) 4)).heap.size (some ⟨W.heap.size, 0, none⟩) (boolCells (List.replicate N false)) := (Cells.of_blk (R := #[]) (by simpa using g0)).more (by simp)
  refine (refpart_any N A (some ⟨W.heap.size, 0, none⟩) cap N es (List.replicate N false) (W.alloc (.cells (Array.replicate N (Value.bool false)) 4)).drew ((hes.below hb).more hs) ho hin h1 hlen (by simp)).mono ?_
  rintro e w2 ⟨v, rfl, hb2, hv⟩
  rw [show (intCells (rpartL (List.replicate N false) es N N)).length = N by simp [intCells, rpartL]] at hv
  obtain ⟨g2, cap2, R2, rfl, hg2, hk2, _⟩ := own_blk hv (by omega)
  refine ⟨g2, cap2, rfl, hb.trans ((below_undrew hb2).mono hs), fun k hk => ?_⟩
  rw [hk2.cell k, Array.getElem?_append_left (by simp [intCells, rpartL, hk])]
  simp [intCells, rpartL, hk]

set_option maxRecDepth 20000 in
set_option maxHeartbeats 2000000 in
theorem refGenus_any (n : Int) (A C : Option Addr) (cap ccap : Nat) (es : List (Int × Int)) (rs : List (List Int)) (w : World) (hes : Cells w w.heap.size A (edgeCells es)) (hrs : RowsAt w w.heap.size C rs) (hr1 : rs.length ≤ 1000) (hr2 : ∀ l ∈ rs, l.length ≤ 1000) (hP : RightP n es rs) :
    Calls Try.prog 30 #[.agg #[.int .i64 n, .slice A es.length cap], .slice C rs.length ccap] w (fun e w' => e = .returned (.int .i64 (gen n es rs : Nat)) ∧ Below w.heap.size w w') := by
  obtain ⟨hn0, hn1, hn2⟩ := may_parts hP.may
  have hF := faces_le hP
  have HG := Lib.hid (gen_spec hP (right_inN hP))
  have HP := Lib.hid hP
  obtain ⟨N, rfl⟩ := Int.eq_ofNat_of_zero_le (Int.le_of_lt hn0)
  have hNr : rs.length = N := by have := hP.len; omega
  have hin : InN N es := by have := right_inN hP; rwa [hNr] at this
  have Hin := Lib.hid hin
  clear hP hin
  go_enter Try.func30, Try.ntmps30
  go_wp2_with fail
  have b0 := World.cell?_alloc_new w #[.int .i64 N, .slice A es.length cap] 24 0
  have b1 := World.cell?_alloc_new w #[.int .i64 N, .slice A es.length cap] 24 1
  simp only [List.getElem?_toArray, List.getElem?_cons_zero, List.getElem?_cons_succ] at b0 b1
  have hbw := (Below.refl w.heap.size w).alloc (Nat.le_refl _) (.cells #[.int .i64 N, .slice A es.length cap] 24)
  have s1 := World.size_alloc w (.cells #[.int .i64 N, .slice A es.length cap] 24)
  generalize w.alloc (.cells #[.int .i64 N, .slice A es.length cap] 24) = w1 at *
  have hfc := refFaces_any N A C cap ccap es rs w1 ((hes.below hbw).more (by omega)) ((hrs.below hbw).more (by omega)) hr1 hr2 HP.out
  rw [hNr] at hfc ⊢
  refine hfc.mono ?_
  rintro e w3 ⟨Af, cf, rfl, hb4, _⟩
  have c0 := (hb4.cell (p := ⟨w.heap.size, 0, none⟩) (by simp; omega)).trans b0
  have c1 := (hb4.cell (p := ⟨w.heap.size, 1, none⟩) (by simp; omega)).trans b1
  have hb5 := hbw.trans (hb4.mono (by omega))
  have l3 : w.heap.size < w3.heap.size := by have := hb4.size; omega
  clear b0 b1 hb4 hbw s1 hfc
  generalize hFl : (facesOf (N : Int) es rs).length = F at *
  clear hFl
  have hrs3 := hrs.below hb5
  have Hes := Lib.hid (hes.below hb5)
  have Hrs := Lib.hid hrs3
  clear hes hrs hrs3
  have ks : ∀ w', Below w3.heap.size w3 w' → w'.cell? ⟨w.heap.size, 0, none⟩ = some (.int .i64 N) ∧ w'.cell? ⟨w.heap.size, 1, none⟩ = some (.slice A es.length cap) :=
    fun w' h => ⟨(h.cell (p := ⟨w.heap.size, 0, none⟩) l3).trans c0, (h.cell (p := ⟨w.heap.size, 1, none⟩) l3).trans c1⟩
  have Ks := Lib.hid ks
  clear ks
  have hmk := fun W => run_make1 elemBool rfl N (by omega) (by omega) W
  go_wp2_with fail
  go_region_held3 (fun w' => w'.cell? ⟨w.heap.size, 0, none⟩ = some (.int .i64 N) ∧ w'.cell? ⟨w.heap.size, 1, none⟩ = some (.slice A es.length cap))
    (first | exact ⟨c0, c1⟩ | exact Ks.out _ ((Below.refl _ _).alloc (Nat.le_refl _) _) | exact Ks.out _ ((Below.refl _ _).alloc (Nat.le_refl _) _).drew | exact Ks.out _ hb7)
    (first
      | (go_at_call 20; refine (part0_is N A cap es w3 (Hes.out.more (Nat.le_of_lt l3)) Hin.out (by omega) (by omega) (by omega)).mono ?_; rintro e w5 ⟨g5, c5, rfl, hb7, hc5⟩))
  have Hc5 := Lib.hid hc5
  obtain ⟨d0, d1⟩ := Ks.out _ hb7
  have HB := Lib.hid (hb5.trans (hb7.mono (Nat.le_of_lt l3)))
  have hrs5 := Hrs.out.below (hb7.mono (Nat.le_of_lt l3))
  clear hc5 hb7 hb5 c0 c1 Ks Hrs Hes hmk
  have HPU := Lib.hid (pU_cls Hin.out (by omega))
  generalize List.replicate N false = wo at *
  go_wp2_with fail
  go_loopg [5, 6, 8] N (fun k s5 s6 s8 wr => ∃ i : Nat, s8 = .int .i64 i ∧ i ≤ N ∧ k = N - i ∧ wr = w5 ∧ s5 = .int .i64 ((F : Int) + (isoU rs i : Nat)) ∧ s6 = .int .i64 (pU wo es N i : Nat))
  case atStart => exact ⟨0, rfl, Nat.zero_le _, rfl, rfl, by simp [isoU], rfl⟩
  case round =>
    obtain ⟨i, rfl, hi, hk, hwr, rfl, rfl⟩ := hrel
    have Hk := Lib.hid hk; clear hk
    have hiU := isoU_le rs i
    have hpU := pU_le wo es N i
    have d0 : wr.cell? ⟨w.heap.size, 0, none⟩ = some (.int .i64 N) := by rw [hwr]; exact d0
    have d1 : wr.cell? ⟨w.heap.size, 1, none⟩ = some (.slice A es.length cap) := by rw [hwr]; exact d1
    by_cases hlt : i < N
    · have hlt' : (i : Int) < N := by omega
      have hltr : i < rs.length := by omega
      obtain ⟨b, off, rfl, hbb, hc⟩ := hrs5 (by omega)
      obtain ⟨Ai, ci, e0, _⟩ := hc i hltr
      have e0 : wr.cell? ⟨b, off + i, none⟩ = some (.slice Ai rs[i].length ci) := by rw [hwr]; exact e0
      have f0 : wr.cell? ⟨g5, i, none⟩ = some (.int .i64 (rpart wo es N i)) := by rw [hwr]; exact Hc5.out i hlt
      have HS := Lib.hid (show isoU rs (i + 1) = isoU rs i + if rs[i].length = 0 then 1 else 0 by rw [isoU_succ, List.getD_eq_getElem?_getD, List.getElem?_eq_getElem hltr]; rfl)
      have HS2 := Lib.hid (pU_succ wo es N i)
      have Hwr := Lib.hid hwr
      clear hc hwr
      generalize rs[i] = l at *
      generalize isoU rs i = u at *
      generalize pU wo es N i = v at *
      generalize rpart wo es N i = q at *
      by_cases hq : q = (i : Int)
      · subst hq
        have hqq : ((i : Int) == (i : Int)) = true := by simp
        rw [if_pos rfl] at HS2
        by_cases hl0 : l.length = 0
        · have hl0' : ((l.length : Int) == 0) = true := by simp [hl0]
          rw [if_pos hl0] at HS
          clear hl0
          go_wp2_with fail
          go_roundg (N - (i + 1))
          case measure => rw [Hk.out]; omega
          case rel => exact ⟨i + 1, by go_num, by omega, rfl, Hwr.out, by rw [HS.out]; go_num, by rw [HS2.out]; go_num⟩
        · have hl0' : ((l.length : Int) == 0) = false := by simp; intro hh; apply hl0; rw [hh]; rfl
          rw [if_neg hl0] at HS
          clear hl0
          go_wp2_with fail
          go_roundg (N - (i + 1))
          case measure => rw [Hk.out]; omega
          case rel => exact ⟨i + 1, by go_num, by omega, rfl, Hwr.out, by rw [HS.out]; go_num, by rw [HS2.out]; go_num⟩
      · have hqq : (q == (i : Int)) = false := by simp [hq]
        rw [if_neg hq] at HS2
        clear hq
        by_cases hl0 : l.length = 0
        · have hl0' : ((l.length : Int) == 0) = true := by simp [hl0]
          rw [if_pos hl0] at HS
          clear hl0
          go_wp2_with fail
          go_roundg (N - (i + 1))
          case measure => rw [Hk.out]; omega
          case rel => exact ⟨i + 1, by go_num, by omega, rfl, Hwr.out, by rw [HS.out]; go_num, by rw [HS2.out]; go_num⟩
        · have hl0' : ((l.length : Int) == 0) = false := by simp; intro hh; apply hl0; rw [hh]; rfl
          rw [if_neg hl0] at HS
          clear hl0
          go_wp2_with fail
          go_roundg (N - (i + 1))
          case measure => rw [Hk.out]; omega
          case rel => exact ⟨i + 1, by go_num, by omega, rfl, Hwr.out, by rw [HS.out]; go_num, by rw [HS2.out]; go_num⟩
    · have hie : i = N := by omega
      subst hie
      have HG2 := HG.out
      change 2 * cls (Q es es.length) rs.length + es.length = rs.length + isoU rs rs.length + F + 2 * gen (i : Int) es rs at HG2
      rw [hNr, ← HPU.out] at HG2
      have HBw := Lib.hid (show Below w.heap.size w wr by rw [hwr]; exact HB.out)
      generalize pU wo es i i = P at *
      generalize isoU rs i = u at *
      have Hwr := Lib.hid hwr
      have HGG := Lib.hid HG2
      clear HG2 hwr
      go_wp2_with fail
      go_ret
      exact ⟨ret_int (by have := HGG.out; rw [Int.tdiv_eq_ediv_of_nonneg (by omega)]; omega), HBw.out⟩
end Go.Proofs.Ythdifhfmgmmljaa
