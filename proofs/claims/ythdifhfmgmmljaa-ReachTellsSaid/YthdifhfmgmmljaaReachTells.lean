/-
  Law ReachTells: walked. Written by an AI agent.
-/
import Derived.Test.YthdifhfmgmmljaaSpeaks
import Derived.Test.YthdifhfmgmmljaaPartLaw
namespace Go.Proofs.Ythdifhfmgmmljaa
open Go.RowKit

set_option maxHeartbeats 2000000 in
theorem tells_no (n : Int) (A : Option Addr) (cap : Nat) (es : List (Int × Int)) (wo : Nat) (hwo : wo < 18446744073709551616) (w : World) (hes : Cells w w.heap.size A (edgeCells es)) (h : mayB n es = false ∨ 200 < es.length) :
    Calls Try.prog 5 #[.agg #[.int .i64 n, .slice A es.length cap], .int .u64 wo] w (fun e w' => e = .returned (.bool true) ∧ Below w.heap.size w w') := by
  go_enter Try.func5, Try.ntmps5
  go_wp2_with fail
  refine (speaks_any _).mono ?_
  rintro e w1 ⟨rfl, hb1⟩
  have b0 := hb1.cell (p := ⟨w.heap.size, 0, none⟩) (by simp)
  have b1 := hb1.cell (p := ⟨w.heap.size, 1, none⟩) (by simp)
  simp only [World.cell?_alloc_new, List.getElem?_toArray, List.getElem?_cons_zero, List.getElem?_cons_succ] at b0 b1
  have hbw := ((Below.refl w.heap.size w).alloc (Nat.le_refl _) (.cells #[.int .i64 n, .slice A es.length cap] 24)).trans (hb1.mono (by simp))
  have l1 : w.heap.size < w1.heap.size := by have := hb1.size; simp at this; omega
  clear hb1
  by_cases hl : 200 < es.length
  · clear h
    go_wp2_with fail
    go_ret
    exact ⟨rfl, hbw⟩
  · have hm : mayB n es = false := h.resolve_right hl
    clear h
    have Hm := Lib.hid hm; clear hm
    go_wp2_with fail
    refine (from_any n A cap es w1 ((hes.below hbw).more (by omega))).mono ?_
    rintro e w2 ⟨v, rfl, hb2, _, hv⟩
    rw [hv Hm.out]
    clear hv
    have b0' := (hb2.cell (p := ⟨w.heap.size, 0, none⟩) l1).trans b0
    have b1' := (hb2.cell (p := ⟨w.heap.size, 1, none⟩) l1).trans b1
    have hbw2 := hbw.trans (hb2.mono (Nat.le_of_lt l1))
    have l2 : w.heap.size < w2.heap.size := by have := hb2.size; omega
    clear b0 b1 hb2
    go_wp2_with fail
    refine (refmay_any n A cap es w2 ((hes.below hbw2).more (by omega))).mono ?_
    rintro e w3 ⟨rfl, hb3⟩
    have c0 := (hb3.cell (p := ⟨w.heap.size, 0, none⟩) l2).trans b0'
    have c1 := (hb3.cell (p := ⟨w.heap.size, 1, none⟩) l2).trans b1'
    have hbw3 := hbw2.trans (hb3.mono (Nat.le_of_lt l2))
    have l3 : w.heap.size < w3.heap.size := by have := hb3.size; omega
    have ks : ∀ w', Below w3.heap.size w3 w' → w'.cell? ⟨w.heap.size, 0, none⟩ = some (.int .i64 n) ∧ w'.cell? ⟨w.heap.size, 1, none⟩ = some (.slice A es.length cap) :=
      fun w' h => ⟨(h.cell (p := ⟨w.heap.size, 0, none⟩) l3).trans c0, (h.cell (p := ⟨w.heap.size, 1, none⟩) l3).trans c1⟩
    have Ks := Lib.hid ks
    have hes3 := hes.below hbw3
    have Hes := Lib.hid hes3
    clear b0' b1' hbw2 hbw hb3 ks l1 l2 hes3
    rw [Hm.out]
    go_wp2_with fail
    have tok1 : True := trivial
    go_region_held3 (fun w' => w'.cell? ⟨w.heap.size, 0, none⟩ = some (.int .i64 n) ∧ w'.cell? ⟨w.heap.size, 1, none⟩ = some (.slice A es.length cap))
      (first | exact ⟨c0, c1⟩ | exact Ks.out _ hb7 | exact Ks.out _ hb5)
      (first
        | (go_at_call 12; have _t := tok1; refine (trans_any n A cap es _ (by exact Hes.out.more (Nat.le_of_lt l3))).mono ?_; rintro e w5 ⟨v5, rfl, hb5', _, hv5⟩; have hb5 := below_undrew hb5'; have hw5 := hv5 Hm.out; clear tok1 hv5; subst hw5)
        | (go_at_call 15; refine (parts_any n A cap es wo hwo _ (by exact (Hes.out.more (Nat.le_of_lt l3)).below hb5 |>.more hb5.size)).mono ?_; rintro e w6 ⟨v6, rfl, hb6, _, hv6⟩; have hb7 := hb5.trans (hb6.mono hb5.size); have hw6 := hv6 Hm.out; clear hv6; subst hw6))
    go_wp2_with fail
    go_ret
    exact ⟨rfl, hbw3.trans (hb7.mono (Nat.le_of_lt l3))⟩

def RowPost (R : List Int) (w : World) (e : Ending) (w' : World) : Prop := ∃ A c, e = .returned (.slice A R.length c) ∧ Below w.heap.size w w' ∧ Cells w' w'.heap.size A (intCells R)
theorem trans_is (n : Int) (A : Option Addr) (cap : Nat) (es : List (Int × Int)) (R : List Int) (w : World) (hes : Cells w w.heap.size A (edgeCells es)) (hm : mayB n es = true) (hR : transL es es.length = R) :
    Calls Try.prog 12 #[.agg #[.int .i64 n, .slice A es.length cap]] w (RowPost R w) := by
  refine (trans_any n A cap es w hes).mono ?_
  rintro e w' ⟨v, rfl, hb, hv, _⟩
  have h := hv hm
  rw [hR] at h
  obtain ⟨A', c, rfl⟩ := own_slice h
  exact ⟨A', c, rfl, hb, Cells.of_own h⟩
theorem reftrans_is (n : Nat) (A : Option Addr) (cap : Nat) (es : List (Int × Int)) (R : List Int) (w : World) (hes : Cells w w.heap.size A (edgeCells es)) (hin : InN n es) (hn : n ≤ 64) (hlen : es.length ≤ 128) (hR : rtransL n es es.length = R) :
    Calls Try.prog 17 #[.agg #[.int .i64 n, .slice A es.length cap]] w (RowPost R w) := by
  refine (reftrans_any n A cap es w hes hin hn hlen).mono ?_
  rintro e w' ⟨v, rfl, hb, h⟩
  rw [hR, show (intCells R).length = R.length by simp [intCells]] at h
  obtain ⟨A', c, rfl⟩ := own_slice h
  exact ⟨A', c, rfl, hb, Cells.of_own h⟩
theorem same_is (A B : Option Addr) (c d : Nat) (R : List Int) (w : World) (N : Nat) (ha : Cells w N A (intCells R)) (hb : Cells w N B (intCells R)) (hl : R.length ≤ 100000) :
    Calls Try.prog 16 #[.slice A R.length c, .slice B R.length d] w (QuietB true w) := by
  have := same_any A B c d R R w N ha hb hl hl
  rwa [decide_eq_true rfl] at this

theorem every_is (n : Int) (A : Option Addr) (cap : Nat) (es : List (Int × Int)) (w : World) (hlen : es.length ≤ 100000) :
    Calls Try.prog 19 #[.agg #[.int .i64 n, .slice A es.length cap]] w (fun e w' => ∃ C c, e = .returned (.slice C es.length c) ∧ Below w.heap.size w w' ∧ Cells w' w'.heap.size C (boolCells (List.replicate es.length true))) := by
  refine (every_any n A cap es w hlen).mono ?_
  rintro e w' ⟨v, rfl, hb, h⟩
  rw [boolCells_length, List.length_replicate] at h
  obtain ⟨A', c, rfl⟩ := own_slice h
  exact ⟨A', c, rfl, hb, Cells.of_own h⟩
def GoCells (w w' : World) (n g : Nat) (l : List Bool) : Prop := w.heap.size ≤ g ∧ g < w'.heap.size ∧ ∀ k, k < n → w'.cell? ⟨g, k, none⟩ = some (.bool (l.getD k false))
theorem go_is (n f : Nat) (A C : Option Addr) (cap ccap : Nat) (es : List (Int × Int)) (w : World) (hes : Cells w w.heap.size A (edgeCells es)) (hcs : Cells w w.heap.size C (boolCells (List.replicate es.length true)))
    (hin : InN n es) (hn : n ≤ 64) (hlen : es.length ≤ 128) (hf : f < n) :
    Calls Try.prog 18 #[.agg #[.int .i64 n, .slice A es.length cap], .int .i64 f, .bool false, .slice C es.length ccap] w
      (fun e w' => ∃ g c, e = .returned (.slice (some ⟨g, 0, none⟩) n c) ∧ Below w.heap.size w w' ∧ GoCells w w' n g (goAll false (List.replicate es.length true) es n f)) := by
  refine (go_any n f A C cap ccap es false (List.replicate es.length true) w w.heap.size (Nat.le_refl _) hes hcs hin hn hlen hf (by simp)).mono ?_
  rintro e w' ⟨v, rfl, hb, h⟩
  have hl : (goAll false (List.replicate es.length true) es n f).length = n := goAll_length _ _ _ _ _
  rw [boolCells_length, hl] at h
  obtain ⟨g, cap, R, rfl, hg, hk, _⟩ := own_blk h (by omega)
  exact ⟨g, cap, rfl, hb, hg, hk.lt, fun k hk' => hk.boolR (by omega)⟩

set_option maxRecDepth 20000 in
set_option maxHeartbeats 4000000 in
theorem tells_yes (n : Nat) (A : Option Addr) (cap : Nat) (es : List (Int × Int)) (wo : Nat) (hwo : wo < 18446744073709551616) (w : World) (hes : Cells w w.heap.size A (edgeCells es)) (hm : mayB n es = true) :
    Calls Try.prog 5 #[.agg #[.int .i64 n, .slice A es.length cap], .int .u64 wo] w (fun e w' => e = .returned (.bool true) ∧ Below w.heap.size w w') := by
  obtain ⟨hn0, hn1, hn2⟩ := may_parts hm
  have Hm := Lib.hid hm; clear hm
  have Hin := Lib.hid (show InN n es from badE_in Hm.out)
  have hmk := fun W => run_make1 elemBool rfl n (by omega) (by omega) W
  go_enter Try.func5, Try.ntmps5
  go_wp2_with fail
  refine (speaks_any _).mono ?_
  rintro e w1 ⟨rfl, hb1⟩
  have b0 := hb1.cell (p := ⟨w.heap.size, 0, none⟩) (by simp)
  have b1 := hb1.cell (p := ⟨w.heap.size, 1, none⟩) (by simp)
  simp only [World.cell?_alloc_new, List.getElem?_toArray, List.getElem?_cons_zero, List.getElem?_cons_succ] at b0 b1
  have hbw := ((Below.refl w.heap.size w).alloc (Nat.le_refl _) (.cells #[.int .i64 n, .slice A es.length cap] 24)).trans (hb1.mono (by simp))
  have l1 : w.heap.size < w1.heap.size := by have := hb1.size; simp at this; omega
  clear hb1
  go_wp2_with fail
  refine (from_any n A cap es w1 ((hes.below hbw).more (by omega))).mono ?_
  rintro e w2 ⟨v, rfl, hb2, hv, _⟩
  obtain ⟨T, hT, hown⟩ := hv Hm.out
  have hlT : T.length = n := by rw [hT.1.len, eachL_length]; rfl
  rw [hlT] at hown
  obtain ⟨gT, capT, RT, rfl, hgT, hkT, _⟩ := own_blk hown (by omega)
  have hglT := hkT.lt
  have hcT : ∀ k, k < n → w2.cell? ⟨gT, k, none⟩ = some (.int .u64 (T.getD k 0 : Nat)) := fun k hk => (hkT.cell k).trans (u64s_at T RT k (by omega))
  have HcT := Lib.hid hcT
  have HT := Lib.hid (show Grown1 false (fun _ => true) n es T from hT)
  clear hv hown hkT hcT hlT hT
  have b0' := (hb2.cell (p := ⟨w.heap.size, 0, none⟩) l1).trans b0
  have b1' := (hb2.cell (p := ⟨w.heap.size, 1, none⟩) l1).trans b1
  have hbw2 := hbw.trans (hb2.mono (Nat.le_of_lt l1))
  have l2 : w.heap.size < w2.heap.size := by have := hb2.size; omega
  have lT : w.heap.size < gT := by omega
  clear b0 b1 hb2 hbw hgT
  go_wp2_with fail
  refine (refmay_any n A cap es w2 ((hes.below hbw2).more (by omega))).mono ?_
  rintro e w3 ⟨rfl, hb3⟩
  have c0 := (hb3.cell (p := ⟨w.heap.size, 0, none⟩) l2).trans b0'
  have c1 := (hb3.cell (p := ⟨w.heap.size, 1, none⟩) l2).trans b1'
  have hbw3 := hbw2.trans (hb3.mono (Nat.le_of_lt l2))
  have l3 : w.heap.size < w3.heap.size := by have := hb3.size; omega
  have hgT3 : gT < w3.heap.size := by have := hb3.size; omega
  have HcT3 := Lib.hid (fun (k : Nat) (hk : k < n) => (hb3.cell (p := ⟨gT, k, none⟩) hglT).trans (HcT.out k hk))
  have ks : ∀ w', Below w3.heap.size w3 w' → w'.cell? ⟨w.heap.size, 0, none⟩ = some (.int .i64 n) ∧ w'.cell? ⟨w.heap.size, 1, none⟩ = some (.slice A es.length cap) :=
    fun w' h => ⟨(h.cell (p := ⟨w.heap.size, 0, none⟩) l3).trans c0, (h.cell (p := ⟨w.heap.size, 1, none⟩) l3).trans c1⟩
  have Ks := Lib.hid ks
  have Hes := Lib.hid (hes.below hbw3)
  clear b0' b1' hbw2 hb3 ks l1 l2 hes HcT hglT
  rw [Hm.out]
  go_wp2_with fail
  have hne : ((n : Int) != (n : Int)) = false := by simp
  have tok1 : True := trivial
  have hR1 := rtransL_length n es es.length
  obtain ⟨R, hR⟩ : ∃ R, rtransL n es es.length = R := ⟨_, rfl⟩
  rw [hR] at hR1
  have HR := Lib.hid hR
  have HR0 := Lib.hid ((transL_eq Hin.out).trans hR)
  clear hR
  go_region_held3 (fun w' => w'.cell? ⟨w.heap.size, 0, none⟩ = some (.int .i64 n) ∧ w'.cell? ⟨w.heap.size, 1, none⟩ = some (.slice A es.length cap))
    (first | exact ⟨c0, c1⟩ | exact Ks.out _ (below_drewN hb7 m8) | exact Ks.out _ hb7 | exact Ks.out _ hb5)
    (first
      | (go_at_call 12; have _t := tok1; refine (trans_is n A cap es R _ (by exact Hes.out.more (Nat.le_of_lt l3)) Hm.out HR0.out).mono ?_; rintro e w5 ⟨A5, c5, rfl, hb5', hC5⟩; have hb5 := below_undrew hb5'; clear tok1)
      | (go_at_call 17; refine (reftrans_is n A cap es R _ (by exact (Hes.out.more (Nat.le_of_lt l3)).below hb5 |>.more hb5.size) Hin.out (by omega) (by omega) HR.out).mono ?_; rintro e w6 ⟨A6, c6, rfl, hb6, hC6⟩; have hb7 := hb5.trans (hb6.mono hb5.size))
      | (go_at_call 16; refine (same_is A5 A6 c5 c6 R _ _ (by exact (hC5.below hb6).more hb6.size) (by exact hC6) (by omega)).mono ?_; rintro e w8 ⟨rfl, m8, rfl⟩))
  have hb8 := below_drewN hb7 m8
  have y0 := (Ks.out _ hb8).1
  have y1 := (Ks.out _ hb8).2
  have HcT9 := Lib.hid (fun (k : Nat) (hk : k < n) => (hb8.cell (p := ⟨gT, k, none⟩) hgT3).trans (HcT3.out k hk))
  have hb9 := hbw3.trans (hb8.mono (Nat.le_of_lt l3))
  have Hes9 := Lib.hid (Hes.out.below (hb8.mono (Nat.le_of_lt l3)))
  have hs8 := hb8.size
  have hgT9 : gT < (w6.drewN m8).heap.size := Nat.lt_of_lt_of_le hgT3 hs8
  clear hb8 hb7 hb5' hb5 hb6 hC5 hC6 c0 c1 Hes Ks HcT3 hbw3 HR HR0 hR1 hs8 hgT3 _t l3
  generalize w6.drewN m8 = w9 at *
  go_wp2_with fail
  have g0 : Blk (w9.alloc (.cells (Array.replicate n (Value.bool false)) 4)) w9.heap.size 4 (boolCells (List.replicate n false)).toArray := by
    have := Blk.new w9 4 (Array.replicate n (Value.bool false))
    rw [← boolCells_replicate]
    simpa using this
  have hb10 := hb9.alloc hb9.size (.cells (Array.replicate n (Value.bool false)) 4)
  have hk10 : ∀ p : Addr, p.block < w9.heap.size → (w9.alloc (.cells (Array.replicate n (Value.bool false)) 4)).cell? p = w9.cell? p := fun p hp => World.cell?_alloc_lt _ _ p hp
  have hg9 := hb9.size
  generalize w9.alloc (.cells (Array.replicate n (Value.bool false)) 4) = w10 at *
  generalize w9.heap.size = g at *
  go_loopg [57] n (fun k s57 wr => ∃ (i : Nat) (l : List Bool), s57 = .int .i64 i ∧ i ≤ n ∧ k = n - i ∧ l.length = n ∧ (∀ j, j < i → l.getD j false = wo.testBit j) ∧ Below w.heap.size w wr ∧ Blk wr g 4 (boolCells l).toArray ∧ ∀ p : Addr, p.block < g → wr.cell? p = w9.cell? p)
  case atStart => exact ⟨0, _, rfl, Nat.zero_le _, rfl, by simp, fun j hj => absurd hj (by omega), hb10, g0, hk10⟩
  case round =>
    clear hb10 g0 hk10 hmk
    obtain ⟨i, l, rfl, hi, hk, hl, hlj, hb, hbl, hkp⟩ := hrel
    have Hk := Lib.hid hk; clear hk
    have Hlj := Lib.hid hlj; clear hlj
    by_cases hlt : i < n
    · have hlt' : (i : Int) < n := by omega
      have f0 := hbl.frozen i
      have d0 := hbl.bool (k := i) (by omega)
      have S1 := hbl.setBool i (wo.testBit i)
      have W := has_bit wo i hwo
      go_upto_region 15 with fail
      have hb1 : Below w.heap.size w (wr.setCell ⟨g, i, none⟩ (.bool (wo.testBit i))) := hb.setCell (by simp; omega) _
      have hk1 : ∀ p : Addr, p.block < g → (wr.setCell ⟨g, i, none⟩ (.bool (wo.testBit i))).cell? p = w9.cell? p := fun p hp => (World.cell?_setCell_other wr ⟨g, i, none⟩ p _ (fun e => by subst e; simp at hp)).trans (hkp p hp)
      have hl1 : (l.set i (wo.testBit i)).length = n := by simp [hl]
      have hlj1 : ∀ j, j < i + 1 → (l.set i (wo.testBit i)).getD j false = wo.testBit j := fun j hj => by
        rw [getD_setB]
        by_cases hji : i = j
        · subst hji; simp [hl, hlt]
        · rw [if_neg (by omega)]; exact Hlj.out j (by omega)
      have Hlj1 := Lib.hid hlj1
      clear hb hkp hlj1 Hlj f0 d0 W hbl
      generalize wr.setCell ⟨g, i, none⟩ (.bool (wo.testBit i)) = w11 at *
      generalize l.set i (wo.testBit i) = l1 at *
      have c0 := (hk1 ⟨w.heap.size, 0, none⟩ (by simp; omega)).trans y0
      have c1 := (hk1 ⟨w.heap.size, 1, none⟩ (by simp; omega)).trans y1
      have lg := S1.lt
      have ll : w.heap.size < w11.heap.size := by omega
      have ks : ∀ w', Below w11.heap.size w11 w' → w'.cell? ⟨w.heap.size, 0, none⟩ = some (.int .i64 n) ∧ w'.cell? ⟨w.heap.size, 1, none⟩ = some (.slice A es.length cap) :=
        fun w' h => ⟨(h.cell (p := ⟨w.heap.size, 0, none⟩) ll).trans c0, (h.cell (p := ⟨w.heap.size, 1, none⟩) ll).trans c1⟩
      have Ks := Lib.hid ks
      have Hes1 := Lib.hid ((Hes9.out.keep (w' := w11) (fun p hp => hk1 p (by omega))).more (B' := w11.heap.size) (by omega))
      clear ks
      have tok1 : True := trivial
      go_region_held3 (fun w' => w'.cell? ⟨w.heap.size, 0, none⟩ = some (.int .i64 n) ∧ w'.cell? ⟨w.heap.size, 1, none⟩ = some (.slice A es.length cap))
        (first | exact ⟨c0, c1⟩ | exact Ks.out _ hb7 | exact Ks.out _ hb5)
        (first
          | (go_at_call 19; have _t := tok1; refine (every_is n A cap es _ (by omega)).mono ?_; rintro e w5 ⟨C5, c5, rfl, hb5', hC5⟩; have hb5 := below_undrew hb5'; clear tok1)
          | (go_at_call 18; refine (go_is n i A C5 cap c5 es _ (by exact (Hes1.out.below hb5).more hb5.size) (by exact hC5) Hin.out (by omega) (by omega) hlt).mono ?_; rintro e w6 ⟨g6, c6, rfl, hb6, hG6⟩; have hb7 := hb5.trans (hb6.mono hb5.size)))
      have hb8 : Below w.heap.size w w6 := hb1.trans (hb7.mono (Nat.le_of_lt ll))
      have hk8 : ∀ p : Addr, p.block < g → w6.cell? p = w9.cell? p := fun p hp => (hb7.cell (p := p) (Nat.lt_trans hp lg)).trans (hk1 p hp)
      have S8 := S1.below hb7 lg
      obtain ⟨_, hg6, hc6⟩ := hG6
      have Hc6 := Lib.hid hc6
      have z0 := (Ks.out _ hb7).1
      have cT := (hk8 ⟨gT, i, none⟩ (by exact hgT9)).trans (HcT9.out i hlt)
      have uT : T.getD i 0 < 18446744073709551616 := HT.out.1.at_ i
      have F := Lib.hid (fun (y : Nat) (hy : y < n) => from_tells Hin.out (by omega) HT.out hlt hy)
      have G := grown_small Hin.out HT.out hlt
      have GZ : ((T.getD i 0 : Nat) : Int) / 2 ^ n = 0 := by
        apply Int.ediv_eq_zero_of_lt (by omega)
        exact_mod_cast G
      generalize goAll false (List.replicate es.length true) es n i = seen at *
      generalize T.getD i 0 = x at *
      clear hb1 hk1 c0 c1 Hes1 hb5' hC5 hb5 hb6 hc6 S1 _t Ks hb7 ll lg hl G
      go_wp2_with fail
      go_loopg [75] n (fun k s75 wr => ∃ j m : Nat, s75 = .int .i64 j ∧ j ≤ n ∧ k = n - j ∧ wr = w6.drewN m)
      case atStart => exact ⟨0, 0, rfl, Nat.zero_le _, rfl, rfl⟩
      case round =>
        obtain ⟨j, m, rfl, hj, hk, hwr⟩ := hrel
        have Hk2 := Lib.hid hk; clear hk
        by_cases hlt2 : j < n
        · have hlt2' : (j : Int) < n := by omega
          have c6 : wr.cell? ⟨g6, j, none⟩ = some (.bool (seen.getD j false)) := by rw [hwr]; exact Hc6.out j hlt2
          have cT' : wr.cell? ⟨gT, i, none⟩ = some (.int .u64 x) := by rw [hwr]; exact cT
          have Hwr := Lib.hid hwr; clear hwr
          have e6 := Lib.hid (F.out j hlt2)
          have eb : (seen.getD j false != seen.getD j false) = false := by simp
          go_wp2_with fail
          go_quiet ((go_at_call 14; exact quiet_left (has_is _ e6.out uT)))
          go_wp2_with fail
          go_roundg (n - (j + 1))
          case measure => rw [Hk2.out]; omega
          case rel => exact ⟨j + 1, m + nq, by go_num, by omega, rfl, by rw [Hwr.out]; simp⟩
        · have z0' : wr.cell? ⟨w.heap.size, 0, none⟩ = some (.int .i64 n) := by rw [hwr]; exact z0
          have cT' : wr.cell? ⟨gT, i, none⟩ = some (.int .u64 x) := by rw [hwr]; exact cT
          have Hwr := Lib.hid hwr; clear hwr
          go_wp2_with fail
          go_quiet (fail)
          go_wp2_with fail
          go_roundg (n - (i + 1))
          case measure => rw [Hk.out]; omega
          case rel => exact ⟨i + 1, l1, by go_num, by omega, rfl, hl1, Hlj1.out, by rw [Hwr.out]; exact below_drewN (below_drewN hb8 m) nq, by rw [Hwr.out]; exact (S8.drewN m).drewN nq, fun p hp => by rw [Hwr.out]; exact hk8 p hp⟩
    · have hie : i = n := by omega
      subst hie
      have hes1 := Hes9.out.keep (w' := wr) (fun p hp => hkp p (by omega))
      have y0' := (hkp ⟨w.heap.size, 0, none⟩ (by simp; omega)).trans y0
      have y1' := (hkp ⟨w.heap.size, 1, none⟩ (by simp; omega)).trans y1
      have lg := hbl.lt
      have ho : Cells wr wr.heap.size (some ⟨g, 0, none⟩) (boolCells l) := (Cells.of_blk (R := #[]) (by simpa using hbl)).more (by omega)
      clear y0 y1 hkp hbl HcT9 Hes9 hb9
      go_wp2_with fail
      refine (refpart_any i A _ cap i es l wr (hes1.more (by omega)) ho Hin.out (by omega) (by omega) hl).mono ?_
      rintro e w2 ⟨v, rfl, hb2, hv⟩
      rw [show (intCells (rpartL l es i i)).length = i by simp [intCells, rpartL]] at hv
      obtain ⟨g2, cap2, R2, rfl, hg2, hk2, _⟩ := own_blk hv (by omega)
      have hgl2 := hk2.lt
      have hc2 : ∀ k, k < i → w2.cell? ⟨g2, k, none⟩ = some (.int .i64 (rpart l es i k)) := fun k hk => by
        rw [hk2.cell k, Array.getElem?_append_left (by simp [intCells, rpartL, hk])]
        simp [intCells, rpartL, hk]
      have Hc2 := Lib.hid hc2
      have lw : w.heap.size < wr.heap.size := by omega
      have y0 := (hb2.cell (p := ⟨w.heap.size, 0, none⟩) lw).trans y0'
      have y1 := (hb2.cell (p := ⟨w.heap.size, 1, none⟩) lw).trans y1'
      have hbw2 := hb.trans (hb2.mono (Nat.le_of_lt lw))
      have hes2 := hes1.below (hb2.mono (Nat.le_of_lt lw))
      have lw2 : w.heap.size < w2.heap.size := by have := hb2.size; omega
      clear hv hk2 hc2 y0' y1' hes1 hb2 hb ho hg2 lw lg
      go_wp2_with fail
      refine (parts_any i A cap es wo hwo w2 (hes2.more (by omega))).mono ?_
      rintro e w3 ⟨v, rfl, hb3, hv3, _⟩
      obtain ⟨T2, hT2, ho3⟩ := hv3 Hm.out
      rw [show ((i : Int)).toNat = i from rfl] at ho3 hT2
      have hPl : (partsUpto T2 wo i).1.length ≤ i := (partsUpto_ok hT2.1 hwo i).2
      obtain ⟨A3, c3, rfl⟩ := own_slice ho3
      have hC3 := Cells.of_own ho3
      have HC3 := Lib.hid hC3
      have z0 := (hb3.cell (p := ⟨w.heap.size, 0, none⟩) lw2).trans y0
      have Hz2 := Lib.hid (fun (k : Nat) (hk : k < i) => (hb3.cell (p := ⟨g2, k, none⟩) hgl2).trans (Hc2.out k hk))
      have hbw3 := hbw2.trans (hb3.mono (Nat.le_of_lt lw2))
      have PL := Lib.hid (fun (x : Nat) (hx : x < i) => part_law (woL := l) Hin.out (by omega) hT2 (fun y hy => Hlj.out y hy) hx)
      have HT2 := Lib.hid hT2
      clear hv3 ho3 hC3 y0 y1 hb3 hbw2 hes2 Hc2 hgl2 hT2 lw2
      go_wp2_with fail
      go_loopg [12, 107] i (fun k s12 s107 wr => ∃ x m : Nat, s107 = .int .i64 x ∧ s12 = .int .i64 ((partsUpto T2 wo x).1.length : Nat) ∧ x ≤ i ∧ k = i - x ∧ wr = w3.drewN m)
      case atStart => exact ⟨0, 0, rfl, rfl, Nat.zero_le _, rfl, rfl⟩
      case round =>
        clear Hk hlt hi
        obtain ⟨x, m, rfl, rfl, hx, hk, hwr⟩ := hrel
        have Hk := Lib.hid hk; clear hk
        by_cases hlt : x < i
        · have hlt' : (x : Int) < i := by omega
          obtain ⟨P1, P2⟩ := PL.out x hlt
          have HP2 := Lib.hid P2; clear P2
          have HP1 := Lib.hid P1; clear P1
          have PS := Lib.hid (partsUpto_succ' T2 wo x)
          have cx : wr.cell? ⟨g2, x, none⟩ = some (.int .i64 (rpart l es i x)) := by rw [hwr]; exact Hz2.out x hlt
          have Hwr := Lib.hid hwr; clear hwr
          by_cases hpx : rpart l es i x = x
          · have hd : setHas (partsUpto T2 wo x).2 x = false := HP1.out.1 hpx
            have PS1 : (partsUpto T2 wo (x + 1)).1 = (partsUpto T2 wo x).1 ++ [T2.getD x 0] := by rw [PS.out, hd]; rfl
            obtain ⟨r, hr⟩ := partsUpto_more T2 wo (x + 1) (i - (x + 1))
            rw [show x + 1 + (i - (x + 1)) = i by omega, PS1] at hr
            have hklt : (partsUpto T2 wo x).1.length < (partsUpto T2 wo i).1.length := by rw [hr]; simp
            have hat : (setCells (partsUpto T2 wo i).1)[(partsUpto T2 wo x).1.length]? = some (.int .u64 (T2.getD x 0 : Nat)) := by
              rw [hr]; simp [setCells]
            obtain ⟨b3, o3, rfl, hb3, hc3⟩ := HC3.out (by simp [setCells]; omega)
            have cz := hc3 _ _ hat
            have hz := HT2.out.1.at_ x
            have E := Lib.hid (HP2.out hpx)
            have hl1 : (partsUpto T2 wo (x + 1)).1.length = (partsUpto T2 wo x).1.length + 1 := by rw [PS1]; simp
            have HL1 := Lib.hid hl1
            have hne2 : (rpart l es i x != (x : Int)) = false := by simp [hpx]
            rw [hpx] at cx
            have hxx : ((x : Int) != (x : Int)) = false := by simp
            clear hd PS1 hr hat hc3 hl1 hpx PS hne2 HP1 HP2
            generalize T2.getD x 0 = z at *
            generalize (partsUpto T2 wo x).1.length = k3 at *
            generalize (partsUpto T2 wo i).1.length = pl at *
            have hk3 : (k3 : Int) < pl := by omega
            go_wp2_with fail
            go_loopg [15] 64 (fun k s15 wq => ∃ y m' : Nat, s15 = .int .i64 y ∧ y ≤ 64 ∧ k = 64 - y ∧ wq = w3.drewN m')
            case atStart => exact ⟨0, m, rfl, by omega, rfl, Hwr.out⟩
            case round =>
              obtain ⟨y, m', rfl, hy, hk, hwq⟩ := hrel
              have Hky := Lib.hid hk; clear hk
              by_cases hy64 : y < 64
              · have hy64' : (y : Int) < 64 := by omega
                have cz2 : wr.cell? ⟨b3, o3 + k3, none⟩ = some (.int .u64 z) := by rw [hwq]; exact cz
                have z02 : wr.cell? ⟨w.heap.size, 0, none⟩ = some (.int .i64 i) := by rw [hwq]; exact z0
                by_cases hyi : y < i
                · have cy : wr.cell? ⟨g2, y, none⟩ = some (.int .i64 (rpart l es i y)) := by rw [hwq]; exact Hz2.out y hyi
                  have Hwq := Lib.hid hwq; clear hwq
                  have hyi' : (y : Int) < i := by omega
                  have hdy : decide ((y : Int) < (i : Int)) = true := decide_eq_true hyi'
                  have hmd : Int.tmod (y : Int) (i : Int) = y := Int.tmod_eq_of_lt (by omega) hyi'
                  have E1 : setHas z y = decide (rpart l es i y = (x : Int)) := by rw [E.out y hy64, decide_eq_true hyi]; rfl
                  generalize rpart l es i y = q at *
                  by_cases hq : q = x
                  · have HE := Lib.hid (E1.trans (decide_eq_true hq))
                    have hqb : (q == (x : Int)) = true := by simp [hq]
                    clear E1 hq
                    go_wp2_with fail
                    go_quiet ((go_at_call 14; exact quiet_left (has_is _ HE.out hz)))
                    go_wp2_with fail
                    go_roundg (64 - (y + 1))
                    case measure => rw [Hky.out]; omega
                    case rel => exact ⟨y + 1, m' + nq, by go_num, by omega, rfl, by rw [Hwq.out]; simp⟩
                  · have HE := Lib.hid (E1.trans (decide_eq_false hq))
                    have hqb : (q == (x : Int)) = false := by simp [hq]
                    clear E1 hq
                    go_wp2_with fail
                    go_quiet ((go_at_call 14; exact quiet_left (has_is _ HE.out hz)))
                    go_wp2_with fail
                    go_roundg (64 - (y + 1))
                    case measure => rw [Hky.out]; omega
                    case rel => exact ⟨y + 1, m' + nq, by go_num, by omega, rfl, by rw [Hwq.out]; simp⟩
                · have Hwq := Lib.hid hwq; clear hwq
                  have hdy : decide ((y : Int) < (i : Int)) = false := decide_eq_false (by omega)
                  have HE := Lib.hid (show setHas z y = false by rw [E.out y hy64, decide_eq_false hyi]; rfl)
                  go_wp2_with fail
                  go_quiet ((go_at_call 14; exact quiet_left (has_is _ HE.out hz)))
                  go_wp2_with fail
                  go_roundg (64 - (y + 1))
                  case measure => rw [Hky.out]; omega
                  case rel => exact ⟨y + 1, m' + nq, by go_num, by omega, rfl, by rw [Hwq.out]; simp⟩
              · have Hwq := Lib.hid hwq; clear hwq
                go_wp2_with fail
                go_roundg (i - (x + 1))
                case measure => rw [Hk.out]; omega
                case rel => exact ⟨x + 1, m', by go_num, by rw [HL1.out]; go_num, by omega, rfl, Hwq.out⟩
          · have hd : setHas (partsUpto T2 wo x).2 x = true := by
              cases h : setHas (partsUpto T2 wo x).2 x with
              | true => rfl
              | false => exact absurd (HP1.out.2 h) hpx
            have PS1 : (partsUpto T2 wo (x + 1)).1.length = (partsUpto T2 wo x).1.length := by rw [PS.out, hd]; rfl
            have HPS := Lib.hid PS1
            have hne2 : (rpart l es i x != (x : Int)) = true := by simp [hpx]
            clear hd PS1 PS HP1 HP2 hpx
            generalize rpart l es i x = q at *
            go_wp2_with fail
            go_roundg (i - (x + 1))
            case measure => rw [Hk.out]; omega
            case rel => exact ⟨x + 1, m, by go_num, by rw [HPS.out], by omega, rfl, Hwr.out⟩
        · have hxe : x = i := by omega
          subst hxe
          have e1 : (((partsUpto T2 wo x).1.length : Int) == ((partsUpto T2 wo x).1.length : Int)) = true := by simp
          have hbf : Below w.heap.size w wr := by rw [hwr]; exact below_drewN hbw3 m
          clear hwr
          go_wp2_with fail
          go_ret
          exact ⟨rfl, hbf⟩
theorem tells_any (n : Int) (A : Option Addr) (cap : Nat) (es : List (Int × Int)) (wo : Nat) (hwo : wo < 18446744073709551616) (w : World) (hes : Cells w w.heap.size A (edgeCells es)) :
    Calls Try.prog 5 #[.agg #[.int .i64 n, .slice A es.length cap], .int .u64 wo] w (fun e w' => e = .returned (.bool true) ∧ Below w.heap.size w w') := by
  cases hm : mayB n es with
  | false => exact tells_no n A cap es wo hwo w hes (.inl hm)
  | true =>
    obtain ⟨n, rfl⟩ := Int.eq_ofNat_of_zero_le (Int.le_of_lt (may_parts hm).1)
    exact tells_yes n A cap es wo hwo w hes hm
end Go.Proofs.Ythdifhfmgmmljaa
