import Derived.Test.YtelcofkjpkdjiaaGreatZEul
/-
  The document's Right: it tells what the program's tells. Written by an AI agent.
-/
namespace Go.Proofs.YtelcofkjpkdjiaaGreat
open Go.RowKit

theorem at_any (n : Int) (A : Option Addr) (cap : Nat) (es : List (Int × Int)) (h : Nat) (w : World) (hes : Cells w w.heap.size A (edgeCells es)) (hh : h < 2 * es.length) (hlen : es.length ≤ 1000) :
    Calls Tryz.prog 67 #[.agg #[.int .i64 n, .slice A es.length cap], .int .i64 h] w (fun e w' => e = .returned (.int .i64 (atE es h)) ∧ Below w.heap.size w w') := by
  obtain ⟨b, off, rfl, hb, hc⟩ := hes.edges (by omega)
  have hk : h / 2 < es.length := by omega
  obtain ⟨c0, c1⟩ := hc (h / 2) hk
  clear hc
  have e0 : es.getD (h / 2) (0, 0) = es[h / 2] := by simp [hk]
  have ha : atE es h = if h % 2 = 0 then es[h / 2].1 else es[h / 2].2 := by unfold atE; rw [e0]
  have Ha := Lib.hid ha; clear ha e0
  generalize es[h / 2].1 = t at *
  generalize es[h / 2].2 = u at *
  have hq : Int.tdiv (h : Int) 2 = ((h / 2 : Nat) : Int) := by rw [Int.tdiv_eq_ediv_of_nonneg (by omega)]; simp
  have hk' : ((h / 2 : Nat) : Int) < es.length := by omega
  have hbw := (Below.refl w.heap.size w).alloc (Nat.le_refl _) (.cells #[.int .i64 n, .slice (some ⟨b, off, none⟩) es.length cap] 24)
  by_cases h2 : h % 2 = 0
  · have hr : Int.tmod (h : Int) 2 = 0 := by rw [Int.tmod_eq_emod_of_nonneg (by omega)]; omega
    rw [if_pos h2] at Ha
    go_enter Tryz.func67, Tryz.ntmps67
    go_wp2_with fail
    go_ret
    exact ⟨ret_int Ha.out.symm, hbw⟩
  · have hr : Int.tmod (h : Int) 2 = 1 := by rw [Int.tmod_eq_emod_of_nonneg (by omega)]; omega
    rw [if_neg h2] at Ha
    go_enter Tryz.func67, Tryz.ntmps67
    go_wp2_with fail
    go_ret
    exact ⟨ret_int Ha.out.symm, hbw⟩

/-- how often each half edge was met -/
def CntOk (o : List Int) (m : Nat) (P : List Int) : Prop := o.length = 2 * m ∧ ∀ h, h < 2 * m → o.getD h 0 = (P.count (h : Int) : Nat)
theorem CntOk.start (m : Nat) : CntOk (List.replicate (2 * m) 0) m [] := ⟨by simp, fun h hh => by rw [List.getD_eq_getElem?_getD, List.getElem?_replicate, if_pos hh]; rfl⟩
theorem CntOk.step {o : List Int} {m : Nat} {P : List Int} (h : CntOk o m P) {a : Nat} (ha : a < 2 * m) : CntOk (o.set a (o.getD a 0 + 1)) m (P ++ [(a : Int)]) := by
  refine ⟨by simp [h.1], fun k hk => ?_⟩
  rw [getD_setI _ _ _ _ (by rw [h.1]; exact ha), List.count_append, List.count_singleton]
  by_cases hka : k = a
  · subst hka
    rw [if_pos rfl, h.2 k hk]
    simp
  · rw [if_neg hka, h.2 k hk, if_neg (by simp; omega)]
    simp
end Go.Proofs.YtelcofkjpkdjiaaGreat
/-
  The document's Next, Faces: what they compute of a rotation. Written by an AI agent.
-/
namespace Go.Proofs.YtelcofkjpkdjiaaGreat
open Go.RowKit

theorem RowsHi.mono {w : World} {base base' : Nat} {A : Option Addr} {rs : List (List Int)} (h : RowsHi w base A rs) (hb : base' ≤ base) : RowsHi w base' A rs := fun hn => by
  obtain ⟨b, off, e, h1, h2, hc⟩ := h hn
  refine ⟨b, off, e, by omega, h2, fun i hi => ?_⟩
  obtain ⟨Ai, ci, h3, h4⟩ := hc i hi
  refine ⟨Ai, ci, h3, fun hp => ?_⟩
  obtain ⟨bi, oi, e2, h5, h6, h7⟩ := h4 hp
  exact ⟨bi, oi, e2, by omega, h6, h7⟩
theorem FacesOwn.below {w w' : World} {b0 B : Nat} {v : Value} {F : List (List Int)} (h : FacesOwn w b0 v F) (hb : Below B w w') (hB : w.heap.size ≤ B) : FacesOwn w' b0 v F := by
  obtain ⟨sl, h1, h2⟩ := h
  refine ⟨sl, own_below h1 hb hB, fun i hi => ?_⟩
  obtain ⟨Ai, ci, h3, h4⟩ := h2 i hi
  exact ⟨Ai, ci, h3, own_below h4 hb hB⟩
def rowI (f : Nat → Nat) (h i : Nat) : List Int := (List.range i).map fun j => ((iter f j h : Nat) : Int)
theorem rowI_length (f : Nat → Nat) (h i : Nat) : (rowI f h i).length = i := by simp [rowI]
theorem rowI_succ (f : Nat → Nat) (h i : Nat) : rowI f h (i + 1) = rowI f h i ++ [((iter f i h : Nat) : Int)] := by
  unfold rowI; rw [List.range_succ, List.map_append]; rfl
def lstB (f : Nat → Nat) (h i : Nat) : Bool := (List.range' 1 (i - 1)).all fun j => decide (h < iter f j h)
theorem lstB_succ (f : Nat → Nat) (h : Nat) {i : Nat} (hi : 1 ≤ i) : lstB f h (i + 1) = (lstB f h i && decide (h < iter f i h)) := by
  unfold lstB
  rw [show i + 1 - 1 = (i - 1) + 1 by omega, List.range'_concat, List.all_append]
  simp [show 1 + (i - 1) = i by omega]
theorem lstB_least {N : Nat} {f : Nat → Nat} (hf : Perm N f) {h : Nat} (hh : h < N) : lstB f h (per f h) = leastB f h := by
  obtain ⟨h1, _, _, h4⟩ := per_spec hf hh
  rw [Bool.eq_iff_iff]
  unfold lstB leastB
  rw [tst_iff, List.all_eq_true]
  constructor
  · intro g y hy o
    obtain ⟨i, hi, e⟩ := (orb_per hf hh y).1 (Orb.symm hf (by omega) o)
    cases i with
    | zero => have : h = y := e; omega
    | succ i =>
      have := g (i + 1) (by rw [List.mem_range'_1]; omega)
      rw [decide_eq_true_eq, e] at this
      omega
  · intro g j hj
    rw [List.mem_range'_1] at hj
    rw [decide_eq_true_eq]
    have hne := h4 j (by omega) (by omega)
    rcases Nat.lt_trichotomy h (iter f j h) with h5 | h5 | h5
    · exact h5
    · exact absurd h5.symm hne
    · exact absurd (Orb.symm hf hh ⟨j, rfl⟩) (g _ h5)

set_option maxHeartbeats 1000000 in
theorem next_any (n : Int) (A C : Option Addr) (cap ccap : Nat) (es : List (Int × Int)) (rs : List (List Int)) (d : Nat) (w : World) (hes : Cells w w.heap.size A (edgeCells es)) (hrs : RowsAt w w.heap.size C rs) (hr1 : rs.length ≤ 1000) (hr2 : ∀ l ∈ rs, l.length ≤ 1000) (hP : RightP n es rs) (hd : d < 2 * es.length) :
    Calls Tryz.prog 80 #[.agg #[.int .i64 n, .slice A es.length cap], .slice C rs.length ccap, .int .i64 d] w (fun e w' => e = .returned (.int .i64 (nxf es rs d : Nat)) ∧ Below w.heap.size w w') := by
  have hm := (may_parts hP.may).2.2
  have hot := ot_lt hd
  obtain ⟨x, i0, hx, hi0, he, hv⟩ := hP.pos hot
  have hat : atE es (ot d) = (x : Int) := by
    have := (hP.at_ x hx _ (List.getElem_mem hi0)).2.2
    rw [he] at this
    exact this
  have hsig := sig_pos hP hx hi0 he
  have HN := Lib.hid (show sig es rs (ot d) = nxf es rs d by unfold sig; rw [ot_ot])
  have hnd := hP.nd x hx
  have gd : ∀ i (hi : i < rs[x].length), rs[x].getD i 0 = rs[x][i] := fun i hi => by rw [List.getD_eq_getElem?_getD, List.getElem?_eq_getElem hi]; rfl
  have HND := Lib.hid (fun i (hi : i < rs[x].length) (e : rs[x].getD i 0 = ((ot d : Nat) : Int)) => nodup_inj hnd hi hi0 (((gd i hi).symm.trans e).trans he.symm))
  have hll := hr2 _ (List.getElem_mem hx)
  obtain ⟨b, off, rfl, hbb, hrow⟩ := hrs (by omega)
  obtain ⟨Ai, ci, hcell, hCi⟩ := hrow x hx
  have Hcell := Lib.hid hcell
  have HC := Lib.hid hCi
  have HE := Lib.hid (show rs[x].getD i0 0 = ((ot d : Nat) : Int) from (gd i0 hi0).trans he)
  have HS := Lib.hid (show rs[x].getD ((i0 + 1) % rs[x].length) 0 = (sig es rs (ot d) : Nat) from (gd _ (Nat.mod_lt _ (by omega))).trans hsig)
  clear hrow hcell hCi he hsig hnd gd
  generalize rs[x] = l at *
  have hx' : (x : Int) < rs.length := by omega
  have hod : (if d % 2 = 0 then ((d : Int) + 1) else ((d : Int) - 1)) = ((ot d : Nat) : Int) := by unfold ot; split <;> omega
  have hbw := (Below.refl w.heap.size w).alloc (Nat.le_refl _) (.cells #[.int .i64 n, .slice A es.length cap] 24)
  by_cases h2 : d % 2 = 0
  · have hr : Int.tmod (d : Int) 2 = 0 := by rw [Int.tmod_eq_emod_of_nonneg (by omega)]; omega
    rw [if_pos h2] at hod
    go_enter Tryz.func80, Tryz.ntmps80
    go_wp2_with fail
    refine (at_any n A cap es (ot d) _ ((hes.below hbw).more (by simp)) hot (by omega)).mono ?_
    rintro e w2 ⟨rfl, hb2⟩
    rw [hat]
    have hb3 := hbw.trans (hb2.mono (by simp))
    have e0 := (hb3.cell (p := ⟨b, off + x, none⟩) hbb).trans Hcell.out
    have HC2 := Lib.hid (HC.out.below hb3)
    generalize ot d = od at *
    clear hb2 hbw
    go_wp2_with fail
    go_loopg [9] l.length (fun k s9 wr => ∃ i : Nat, s9 = .int .i64 i ∧ i ≤ i0 ∧ k = l.length - i ∧ wr = w2)
    case atStart => exact ⟨0, rfl, Nat.zero_le _, rfl, rfl⟩
    case round =>
      obtain ⟨i, rfl, hi, hk, hwr⟩ := hrel
      have Hk := Lib.hid hk; clear hk
      have hil : (i : Int) < l.length := by omega
      obtain ⟨bi, offi, rfl, hbi, hci⟩ := HC2.out.ints (by omega)
      have f0 : wr.cell? ⟨bi, offi + i, none⟩ = some (.int .i64 (l.getD i 0)) := by rw [hwr, hci i (by omega), List.getD_eq_getElem?_getD, List.getElem?_eq_getElem (by omega)]; rfl
      by_cases hii : i = i0
      · subst hii
        have hj : (i + 1) % l.length < l.length := Nat.mod_lt _ (by omega)
        have f1 : wr.cell? ⟨bi, offi + (i + 1) % l.length, none⟩ = some (.int .i64 (l.getD ((i + 1) % l.length) 0)) := by rw [hwr, hci _ hj, List.getD_eq_getElem?_getD, List.getElem?_eq_getElem hj]; rfl
        have hmm : Int.tmod ((i : Int) + 1) l.length = (((i + 1) % l.length : Nat) : Int) := by rw [Int.tmod_eq_emod_of_nonneg (by omega)]; simp
        have hl0 : ¬ ((l.length : Int) = 0) := by omega
        have hj' : (((i + 1) % l.length : Nat) : Int) < l.length := by omega
        rw [HE.out] at f0
        rw [HS.out, HN.out] at f1
        have Hwr := Lib.hid hwr
        clear hci hwr
        generalize (i + 1) % l.length = jj at *
        have hqq : ((od : Int) == (od : Int)) = true := by simp
        have HB := Lib.hid (show Below w.heap.size w wr by rw [Hwr.out]; exact hb3)
        go_wp2_with fail
        go_ret
        exact ⟨rfl, HB.out⟩
      · have hne : ((l.getD i 0) == (od : Int)) = false := by
          simp only [beq_eq_false_iff_ne]
          exact fun e => hii (HND.out i (by omega) e)
        have Hwr := Lib.hid hwr
        clear hci hwr
        generalize l.getD i 0 = q at *
        go_wp2_with fail
        go_roundg (l.length - (i + 1))
        case measure => rw [Hk.out]; omega
        case rel => exact ⟨i + 1, by go_num, by omega, rfl, Hwr.out⟩
  · have hr : Int.tmod (d : Int) 2 = 1 := by rw [Int.tmod_eq_emod_of_nonneg (by omega)]; omega
    rw [if_neg h2] at hod
    go_enter Tryz.func80, Tryz.ntmps80
    go_wp2_with fail
    refine (at_any n A cap es (ot d) _ ((hes.below hbw).more (by simp)) hot (by omega)).mono ?_
    rintro e w2 ⟨rfl, hb2⟩
    rw [hat]
    have hb3 := hbw.trans (hb2.mono (by simp))
    have e0 := (hb3.cell (p := ⟨b, off + x, none⟩) hbb).trans Hcell.out
    have HC2 := Lib.hid (HC.out.below hb3)
    generalize ot d = od at *
    clear hb2 hbw
    go_wp2_with fail
    go_loopg [9] l.length (fun k s9 wr => ∃ i : Nat, s9 = .int .i64 i ∧ i ≤ i0 ∧ k = l.length - i ∧ wr = w2)
    case atStart => exact ⟨0, rfl, Nat.zero_le _, rfl, rfl⟩
    case round =>
      obtain ⟨i, rfl, hi, hk, hwr⟩ := hrel
      have Hk := Lib.hid hk; clear hk
      have hil : (i : Int) < l.length := by omega
      obtain ⟨bi, offi, rfl, hbi, hci⟩ := HC2.out.ints (by omega)
      have f0 : wr.cell? ⟨bi, offi + i, none⟩ = some (.int .i64 (l.getD i 0)) := by rw [hwr, hci i (by omega), List.getD_eq_getElem?_getD, List.getElem?_eq_getElem (by omega)]; rfl
      by_cases hii : i = i0
      · subst hii
        have hj : (i + 1) % l.length < l.length := Nat.mod_lt _ (by omega)
        have f1 : wr.cell? ⟨bi, offi + (i + 1) % l.length, none⟩ = some (.int .i64 (l.getD ((i + 1) % l.length) 0)) := by rw [hwr, hci _ hj, List.getD_eq_getElem?_getD, List.getElem?_eq_getElem hj]; rfl
        have hmm : Int.tmod ((i : Int) + 1) l.length = (((i + 1) % l.length : Nat) : Int) := by rw [Int.tmod_eq_emod_of_nonneg (by omega)]; simp
        have hl0 : ¬ ((l.length : Int) = 0) := by omega
        have hj' : (((i + 1) % l.length : Nat) : Int) < l.length := by omega
        rw [HE.out] at f0
        rw [HS.out, HN.out] at f1
        have Hwr := Lib.hid hwr
        clear hci hwr
        generalize (i + 1) % l.length = jj at *
        have hqq : ((od : Int) == (od : Int)) = true := by simp
        have HB := Lib.hid (show Below w.heap.size w wr by rw [Hwr.out]; exact hb3)
        go_wp2_with fail
        go_ret
        exact ⟨rfl, HB.out⟩
      · have hne : ((l.getD i 0) == (od : Int)) = false := by
          simp only [beq_eq_false_iff_ne]
          exact fun e => hii (HND.out i (by omega) e)
        have Hwr := Lib.hid hwr
        clear hci hwr
        generalize l.getD i 0 = q at *
        go_wp2_with fail
        go_roundg (l.length - (i + 1))
        case measure => rw [Hk.out]; omega
        case rel => exact ⟨i + 1, by go_num, by omega, rfl, Hwr.out⟩

set_option maxHeartbeats 4000000 in
theorem refFaces2_any (n : Int) (A C : Option Addr) (cap ccap : Nat) (es : List (Int × Int)) (rs : List (List Int)) (w : World) (hes : Cells w w.heap.size A (edgeCells es)) (hrs : RowsAt w w.heap.size C rs) (hr1 : rs.length ≤ 1000) (hr2 : ∀ l ∈ rs, l.length ≤ 1000) (hP : RightP n es rs) :
    Calls Tryz.prog 40 #[.agg #[.int .i64 n, .slice A es.length cap], .slice C rs.length ccap] w (FacesPost2 (facesOf n es rs) w) := by
  have hm := (may_parts hP.may).2.2
  have HP := Lib.hid hP
  have Hf := Lib.hid (nxf_perm hP)
  have HFO := Lib.hid (faces_rows hP)
  clear hP
  have HNX := Lib.hid (fun (d : Nat) (hd : d < 2 * es.length) (wv : World) (hb : Below w.heap.size w wv) => next_any n A C cap ccap es rs d wv ((hes.below hb).more hb.size) ((hrs.below hb).more hb.size) hr1 hr2 HP.out hd)
  clear hes hrs
  generalize nxf es rs = f at *
  go_enter Tryz.func40, Tryz.ntmps40
  go_wp2_with fail
  have b0 := World.cell?_alloc_new w #[.int .i64 n, .slice A es.length cap] 24 0
  have b1 := World.cell?_alloc_new w #[.int .i64 n, .slice A es.length cap] 24 1
  simp only [List.getElem?_toArray, List.getElem?_cons_zero, List.getElem?_cons_succ] at b0 b1
  have hbw := (Below.refl w.heap.size w).alloc (Nat.le_refl _) (.cells #[.int .i64 n, .slice A es.length cap] 24)
  have s1 := World.size_alloc w (.cells #[.int .i64 n, .slice A es.length cap] 24)
  generalize w.alloc (.cells #[.int .i64 n, .slice A es.length cap] 24) = w1 at *
  have hbw1 := (Below.refl w1.heap.size w1).alloc (Nat.le_refl _) (.cells #[] 30)
  have hF0 : FacesOwn (w1.alloc (.cells #[] 30)) (w.heap.size + 1) (.slice (some ⟨w.heap.size + 1, 0, none⟩) 0 0) (rowsUpto f 0) := by
    have := Blk.new w1 30 #[]
    rw [s1] at this
    exact ⟨[], blk_own (R := #[]) (Nat.le_refl _) (by simpa using this) (by simp) (Nat.le_refl _) (by unfold maxLen; omega) (by simp), fun i hi => absurd hi (by simp [rowsUpto])⟩
  have l1 : w.heap.size < w1.heap.size := by omega
  go_loopg [5, 6] (2 * es.length) (fun k s5 s6 wr => ∃ h : Nat, s6 = .int .i64 h ∧ h ≤ 2 * es.length ∧ k = 2 * es.length - h ∧ Below w1.heap.size w1 wr ∧ FacesOwn wr (w.heap.size + 1) s5 (rowsUpto f h))
  case atStart => exact ⟨0, rfl, Nat.zero_le _, rfl, hbw1, hF0⟩
  case round =>
    clear hbw1 hF0
    obtain ⟨h, rfl, hh, hk, hb, hF⟩ := hrel
    have Hk := Lib.hid hk; clear hk
    have hFl : (rowsUpto f h).length ≤ h := by
      unfold rowsUpto; rw [List.length_map]; exact Nat.le_trans (List.length_filter_le _ _) (by simp)
    have c0 := (hb.cell (p := ⟨w.heap.size, 0, none⟩) l1).trans b0
    have c1 := (hb.cell (p := ⟨w.heap.size, 1, none⟩) l1).trans b1
    by_cases hlt : h < 2 * es.length
    · have hlt' : (h : Int) < 2 * (es.length : Int) := by omega
      have HRU := Lib.hid (rowsUpto_succ f h)
      obtain ⟨p1, p2, p3, p4⟩ := per_spec Hf.out hlt
      have HLL := Lib.hid (lstB_least Hf.out hlt)
      have hbw0 := hbw.trans (hb.mono (Nat.le_of_lt l1))
      have HF0 := Lib.hid hF
      have ls := hb.size
      obtain ⟨w0, rfl⟩ : ∃ x, x = wr := ⟨_, rfl⟩
      clear hF
      have hba := (Below.refl w0.heap.size w0).alloc (Nat.le_refl _) (.cells #[.int .i64 (h : Int)] 3)
      have hoa : (w0.alloc (.cells #[.int .i64 (h : Int)] 3)).ownsRow w0.heap.size 3 1 (.slice (some ⟨w0.heap.size, 0, none⟩) 1 1) 1 (intCells (rowI f h 1)) :=
        own_of_blk (Blk.new w0 3 #[.int .i64 (h : Int)]) (Nat.le_refl _) (by simp [intCells, rowI]) (by omega)
      have lw0 : w.heap.size < w0.heap.size := by omega
      have c0a := (hba.cell (p := ⟨w.heap.size, 0, none⟩) lw0).trans c0
      have c1a := (hba.cell (p := ⟨w.heap.size, 1, none⟩) lw0).trans c1
      go_wp2_with fail
      refine (HNX.out h hlt _ (hbw0.trans (hba.mono hbw0.size))).mono ?_
      rintro e w2 ⟨rfl, hb2⟩
      have hs2 : w0.heap.size ≤ (w0.alloc (.cells #[.int .i64 (h : Int)] 3)).heap.size := by simp
      have hb3 := hba.trans (hb2.mono hs2)
      have ho3 := own_below hoa hb2 (Nat.le_refl _)
      clear hba hoa hb2 hs2 c0 c1 c0a c1a
      go_wp2_with fail
      go_loopg [7, 8, 9] (per f h - 1) (fun k s7 s8 s9 wr => ∃ (i : Nat) (Af : Option Addr) (cf : Nat) (q : Bool), s9 = .int .i64 (iter f i h : Nat) ∧ 1 ≤ i ∧ i ≤ per f h ∧ s7 = .slice Af i cf ∧ s8 = .bool q ∧ q = lstB f h i ∧ k = per f h - i ∧ Below w0.heap.size w0 wr ∧ wr.ownsRow w0.heap.size 3 1 (.slice Af i cf) i (intCells (rowI f h i)))
      case atStart => exact ⟨1, _, 1, true, rfl, Nat.le_refl _, p1, rfl, rfl, rfl, rfl, hb3, ho3⟩
      case round =>
        clear hb3 ho3
        obtain ⟨i, Af, cf, q, rfl, hi1, hip, rfl, rfl, hq, hk, hbr, hown⟩ := hrel
        have Hk2 := Lib.hid hk; clear hk
        have Hq := Lib.hid hq; clear hq
        have c0 := (hbr.cell (p := ⟨w.heap.size, 0, none⟩) (by simp; omega)).trans ((hb.cell (p := ⟨w.heap.size, 0, none⟩) l1).trans b0)
        have c1 := (hbr.cell (p := ⟨w.heap.size, 1, none⟩) (by simp; omega)).trans ((hb.cell (p := ⟨w.heap.size, 1, none⟩) l1).trans b1)
        have hsr := hbr.size
        by_cases hie : i = per f h
        · subst hie
          rw [p3]
          have hhh : ((h : Int) != (h : Int)) = false := by simp
          have hF1 := HF0.out.below hbr (Nat.le_refl _)
          have hbo := hb.trans (hbr.mono ls)
          have HQL := Lib.hid (Hq.out.trans HLL.out)
          have hrow : rowI f h (per f h) = rowOf f h := rfl
          rw [hrow] at hown
          have hrl : (rowOf f h).length = per f h := rowI_length f h _
          have Hrl := Lib.hid hrl
          rw [← hrl] at hown
          have HU2 := Lib.hid (show rowsUpto f (h + 1) = rowsUpto f h ++ if q = true then [rowOf f h] else [] by rw [HRU.out, ← HQL.out])
          clear hrow hrl Hq HLL HRU HQL p2 p3 p4
          cases q with
          | true =>
            obtain ⟨sl, ho, h2⟩ := hF1
            have Ho := Lib.hid h2; clear h2
            rw [← Hrl.out]
            generalize rowOf f h = R at *
            go_wp2_with (at_builtin; refine wp_app elemRows rfl _ _ rfl (w.heap.size + 1) u5 _ _ rfl wr.heap.size [.slice Af R.length cf] rfl rfl ho rfl rfl ?h2 ?h3 ?h4 ?_)
            case h2 => omega
            case h3 => omega
            case h4 => omega
            intro v' w' hown' hg' _
            have hb' := below_app hbo ho hg' (by omega) (by omega)
            have hF' := FacesOwn.push ho Ho.out (own_mono hown (by omega)) hg' hown'
            have HX := Lib.hid (And.intro hb' hF')
            clear hb' hF' ho hown' hg' hown Ho
            go_wp2_with fail
            go_roundg (2 * es.length - (h + 1))
            case measure => rw [Hk.out]; omega
            case rel => exact ⟨h + 1, by go_num, by omega, rfl, HX.out.1, by rw [HU2.out]; exact HX.out.2⟩
          | false =>
            have HX := Lib.hid (And.intro hbo hF1)
            clear hbo hF1 hown
            go_wp2_with fail
            go_roundg (2 * es.length - (h + 1))
            case measure => rw [Hk.out]; omega
            case rel => exact ⟨h + 1, by go_num, by omega, rfl, HX.out.1, by rw [HU2.out]; simpa using HX.out.2⟩
        · have hne := p4 i (by omega) (by omega)
          have hki : (((iter f i h : Nat) : Int) != (h : Int)) = true := by simp; omega
          have hkN := Hf.out.iter_lt i hlt
          have HR := Lib.hid (rowI_succ f h i)
          have HL := Lib.hid (lstB_succ f h hi1)
          have HI := Lib.hid (iter_succ f i h)
          have hpl : per f h ≤ 256 := by omega
          clear p2 p3 p4 hne HLL HRU
          generalize iter f i h = k at *
          go_wp2_with (at_builtin; refine wp_app elemInt rfl _ _ rfl w0.heap.size (.slice Af i cf) _ _ rfl wr.heap.size [.int .i64 (k : Int)] rfl rfl hown rfl rfl ?h2 ?h3 ?h4 ?_)
          case h2 => omega
          case h3 => omega
          case h4 => omega
          intro v' w' hown' hg' _
          have hb' := below_app hbr hown hg' (by omega) (Nat.le_refl _)
          obtain ⟨A5, c5, rfl⟩ := own_slice hown'
          have c0 := (hb'.cell (p := ⟨w.heap.size, 0, none⟩) (by simp; omega)).trans ((hb.cell (p := ⟨w.heap.size, 0, none⟩) l1).trans b0)
          have c1 := (hb'.cell (p := ⟨w.heap.size, 1, none⟩) (by simp; omega)).trans ((hb.cell (p := ⟨w.heap.size, 1, none⟩) l1).trans b1)
          have hbn := hbw0.trans (hb'.mono hbw0.size)
          have Hn := Lib.hid (HNX.out k hkN w' hbn)
          have hs' := hb'.size
          clear hown hg' hbr hbn
          cases q with
          | true =>
            by_cases hkh : h < k
            · have hkh' : ((k : Int)) > (h : Int) := by omega
              have HL2 := Lib.hid (show lstB f h (i + 1) = true by rw [HL.out, ← Hq.out, decide_eq_true hkh]; rfl)
              clear hkh
              go_wp2_with fail
              refine Hn.out.mono ?_
              rintro e w5 ⟨rfl, hb5⟩
              have hb6 := hb'.trans (hb5.mono hs')
              have ho6 := own_below hown' hb5 (Nat.le_refl _)
              clear hown' hb5 hb' c0 c1
              go_wp2_with fail
              go_roundg (per f h - (i + 1))
              case measure => rw [Hk2.out]; omega
              case rel => exact ⟨i + 1, A5, c5, true, by rw [HI.out], by omega, by omega, rfl, rfl, HL2.out.symm, rfl, hb6, by rw [HR.out]; simpa [intCells] using ho6⟩
            · have hkh' : ¬ ((k : Int)) > (h : Int) := by omega
              have HL2 := Lib.hid (show lstB f h (i + 1) = false by rw [HL.out, decide_eq_false hkh, Bool.and_false])
              clear hkh
              go_wp2_with fail
              refine Hn.out.mono ?_
              rintro e w5 ⟨rfl, hb5⟩
              have hb6 := hb'.trans (hb5.mono hs')
              have ho6 := own_below hown' hb5 (Nat.le_refl _)
              clear hown' hb5 hb' c0 c1
              go_wp2_with fail
              go_roundg (per f h - (i + 1))
              case measure => rw [Hk2.out]; omega
              case rel => exact ⟨i + 1, A5, c5, false, by rw [HI.out], by omega, by omega, rfl, rfl, HL2.out.symm, rfl, hb6, by rw [HR.out]; simpa [intCells] using ho6⟩
          | false =>
            have HL2 := Lib.hid (show lstB f h (i + 1) = false by rw [HL.out, ← Hq.out, Bool.false_and])
            go_wp2_with fail
            refine Hn.out.mono ?_
            rintro e w5 ⟨rfl, hb5⟩
            have hb6 := hb'.trans (hb5.mono hs')
            have ho6 := own_below hown' hb5 (Nat.le_refl _)
            clear hown' hb5 hb' c0 c1
            go_wp2_with fail
            go_roundg (per f h - (i + 1))
            case measure => rw [Hk2.out]; omega
            case rel => exact ⟨i + 1, A5, c5, false, by rw [HI.out], by omega, by omega, rfl, rfl, HL2.out.symm, rfl, hb6, by rw [HR.out]; simpa [intCells] using ho6⟩
    · have hie : h = 2 * es.length := by omega
      obtain ⟨A4, c4, rfl, hR0⟩ := hF.hi
      have hR := hR0.mono (Nat.le_succ w.heap.size)
      have HX := Lib.hid (show facesOf n es rs = rowsUpto f h by rw [HFO.out, hie])
      have hbo := hbw.trans (hb.mono (Nat.le_of_lt l1))
      generalize rowsUpto f h = F at *
      go_wp2_with fail
      go_ret
      exact ⟨A4, c4, by rw [HX.out]; rfl, hbo, by rw [HX.out]; exact hR⟩
end Go.Proofs.YtelcofkjpkdjiaaGreat
/-
  The document's Genus of a rotation; what is too great. Written by an AI agent.
-/
namespace Go.Proofs.YtelcofkjpkdjiaaGreat
open Go.RowKit

end Go.Proofs.YtelcofkjpkdjiaaGreat
