import Derived.Test.YtelcofkjpkdjiaaGreatZAng0
import Derived.Test.YtelcofkjpkdjiaaGreatZReg
import Derived.Test.YtelcofkjpkdjiaaGreatZRfs
/-
  angle.Angles: what it computes. (Printed by angsgen.py.) Written by an AI agent.
-/
namespace Go.Proofs.YtelcofkjpkdjiaaGreat
open Go.RowKit

/-- an angle's four cells -/
def qC (q : Nat × Nat × Nat × Nat) : List Value := [.int .i64 q.1, .int .i64 q.2.1, .int .i64 q.2.2.1, .int .i64 q.2.2.2]
def qCells (Q : List (Nat × Nat × Nat × Nat)) : List Value := Q.flatMap qC
theorem qCells_length (Q : List (Nat × Nat × Nat × Nat)) : (qCells Q).length = Q.length * 4 := by
  unfold qCells
  induction Q with
  | nil => rfl
  | cons q r ih => rw [List.flatMap_cons, List.length_append, ih, List.length_cons]; simp [qC]; omega
theorem qCells_at : ∀ (Q : List (Nat × Nat × Nat × Nat)) (k : Nat) (h : k < Q.length) (t : Nat), t < 4 → (qCells Q)[k * 4 + t]? = (qC Q[k])[t]?
  | [], k, h, _, _ => absurd h (by simp)
  | q :: r, 0, _, t, ht => by
    show (qC q ++ qCells r)[0 * 4 + t]? = _
    rw [Nat.zero_mul, Nat.zero_add, List.getElem?_append_left (by simpa [qC] using ht)]
    rfl
  | q :: r, k + 1, h, t, ht => by
    have ih := qCells_at r k (by simpa using h) t ht
    show (qC q ++ qCells r)[(k + 1) * 4 + t]? = _
    rw [List.getElem?_append_right (by simp [qC]; omega)]
    have e : (k + 1) * 4 + t - (qC q).length = k * 4 + t := by simp [qC]; omega
    rw [e, ih]
    rfl
theorem qCells_set : ∀ (Q : List (Nat × Nat × Nat × Nat)) (k : Nat), k < Q.length → ∀ q, ((((qCells Q).set (k * 4) (.int .i64 q.1)).set (k * 4 + 1) (.int .i64 q.2.1)).set (k * 4 + 2) (.int .i64 q.2.2.1)).set (k * 4 + 3) (.int .i64 q.2.2.2) = qCells (Q.set k q)
  | [], k, h, _ => absurd h (by simp)
  | p :: r, 0, _, q => by
    show ((((qC p ++ qCells r).set _ _).set _ _).set _ _).set _ _ = qC q ++ qCells r
    simp [qC]
  | p :: r, k + 1, h, q => by
    have ih := qCells_set r k (by simpa using h) q
    show ((((qC p ++ qCells r).set _ _).set _ _).set _ _).set _ _ = qC p ++ qCells (r.set k q)
    rw [← ih]
    have e : ∀ (L : List Value) (t : Nat) (u : Value), (qC p ++ L).set ((k + 1) * 4 + t) u = qC p ++ L.set (k * 4 + t) u := fun L t u => by
      rw [List.set_append_right _ _ (by simp [qC]; omega)]
      congr 2
      simp [qC]; omega
    have e0 := e (qCells r) 0 (.int .i64 q.1)
    simp only [Nat.add_zero] at e0
    rw [e0, e, e, e]
theorem store4 {w : World} {g : Nat} {t : TypeId} {Q : List (Nat × Nat × Nat × Nat)} (hb : Blk w g t (qCells Q).toArray) {k : Nat} (hk : k < Q.length) (q : Nat × Nat × Nat × Nat) :
    (w.cell? ⟨g, k * 4, none⟩ = some (.int .i64 Q[k].1) ∧ w.frozen? ⟨g, k * 4, none⟩ = false) ∧
    ((w.setCell ⟨g, k * 4, none⟩ (.int .i64 q.1)).cell? ⟨g, k * 4 + 1, none⟩ = some (.int .i64 Q[k].2.1) ∧ (w.setCell ⟨g, k * 4, none⟩ (.int .i64 q.1)).frozen? ⟨g, k * 4 + 1, none⟩ = false) ∧
    (((w.setCell ⟨g, k * 4, none⟩ (.int .i64 q.1)).setCell ⟨g, k * 4 + 1, none⟩ (.int .i64 q.2.1)).cell? ⟨g, k * 4 + 2, none⟩ = some (.int .i64 Q[k].2.2.1) ∧ ((w.setCell ⟨g, k * 4, none⟩ (.int .i64 q.1)).setCell ⟨g, k * 4 + 1, none⟩ (.int .i64 q.2.1)).frozen? ⟨g, k * 4 + 2, none⟩ = false) ∧
    ((((w.setCell ⟨g, k * 4, none⟩ (.int .i64 q.1)).setCell ⟨g, k * 4 + 1, none⟩ (.int .i64 q.2.1)).setCell ⟨g, k * 4 + 2, none⟩ (.int .i64 q.2.2.1)).cell? ⟨g, k * 4 + 3, none⟩ = some (.int .i64 Q[k].2.2.2) ∧ (((w.setCell ⟨g, k * 4, none⟩ (.int .i64 q.1)).setCell ⟨g, k * 4 + 1, none⟩ (.int .i64 q.2.1)).setCell ⟨g, k * 4 + 2, none⟩ (.int .i64 q.2.2.1)).frozen? ⟨g, k * 4 + 3, none⟩ = false) ∧
    Blk ((((w.setCell ⟨g, k * 4, none⟩ (.int .i64 q.1)).setCell ⟨g, k * 4 + 1, none⟩ (.int .i64 q.2.1)).setCell ⟨g, k * 4 + 2, none⟩ (.int .i64 q.2.2.1)).setCell ⟨g, k * 4 + 3, none⟩ (.int .i64 q.2.2.2)) g t (qCells (Q.set k q)).toArray := by
  have b1 := hb.set_ (k * 4) (.int .i64 q.1)
  have b2 := b1.set_ (k * 4 + 1) (.int .i64 q.2.1)
  have b3 := b2.set_ (k * 4 + 2) (.int .i64 q.2.2.1)
  have b4 := b3.set_ (k * 4 + 3) (.int .i64 q.2.2.2)
  have hl := qCells_length Q
  have a0 := qCells_at Q k hk 0 (by omega)
  have a1 := qCells_at Q k hk 1 (by omega)
  have a2 := qCells_at Q k hk 2 (by omega)
  have a3 := qCells_at Q k hk 3 (by omega)
  have n1 : ¬ k * 4 + 1 = k * 4 := by omega
  simp only [List.setIfInBounds_toArray] at b1 b2 b3 b4
  refine ⟨⟨?_, hb.frozen _⟩, ⟨?_, b1.frozen _⟩, ⟨?_, b2.frozen _⟩, ⟨?_, b3.frozen _⟩, ?_⟩
  · rw [hb.cell]; simpa [qC] using a0
  · rw [b1.cell]; simp only [List.getElem?_toArray]; rw [List.getElem?_set_ne (by omega)]; simpa [qC] using a1
  · rw [b2.cell]; simp only [List.getElem?_toArray]; rw [List.getElem?_set_ne (by omega), List.getElem?_set_ne (by omega)]; simpa [qC] using a2
  · rw [b3.cell]; simp only [List.getElem?_toArray]; rw [List.getElem?_set_ne (by omega), List.getElem?_set_ne (by omega), List.getElem?_set_ne (by omega)]; simpa [qC] using a3
  · rw [← qCells_set Q k hk q]
    exact b4
theorem evo_nil {B : Nat} {T : List TypeId} {w w' : World} (hT : T = []) (h : Evo B T w w') : Below w.heap.size w w' := ⟨h.os, h.tape, h.output, h.size, fun k hk => h.keep k hk (.inr (fun _ _ _ _ => by subst hT; simp))⟩
/-- an angle, told whole -/
def angQ (n : Int) (es : List (Int × Int)) (rs : List (List Int)) (h : Nat) : Nat × Nat × Nat × Nat := (h, vtx es h, angF n es rs h, angK es rs h)
def angL (n : Int) (es : List (Int × Int)) (rs : List (List Int)) : List (Nat × Nat × Nat × Nat) := (List.range (2 * es.length)).map (angQ n es rs)
theorem madeQ (k : Nat) : madeCells #[Value.int .i64 0, .int .i64 0, .int .i64 0, .int .i64 0] (k * 4) = (qCells (List.replicate k (0, 0, 0, 0))).toArray := by
  apply Array.ext'
  apply List.ext_getElem?
  intro i
  have h1 : (qCells (List.replicate k (0, 0, 0, 0))).length = k * 4 := by rw [qCells_length]; simp
  rcases Nat.lt_or_ge i (k * 4) with hi | hi
  · have e : i = i / 4 * 4 + i % 4 := by omega
    have h2 := qCells_at (List.replicate k (0, 0, 0, 0)) (i / 4) (by simp; omega) (i % 4) (Nat.mod_lt _ (by omega))
    rw [← e] at h2
    simp only
    rw [h2]
    have hm : i % 4 = 0 ∨ i % 4 = 1 ∨ i % 4 = 2 ∨ i % 4 = 3 := by omega
    simp only [madeCells, Array.getElem?_toList, Array.getElem?_map, Array.getElem?_range, hi, if_true, Option.map_some, List.getElem_replicate]
    rcases hm with h | h | h | h <;> simp [h, qC]
  · rw [List.getElem?_eq_none (by simp [madeCells]; omega), List.getElem?_eq_none (by simp only; omega)]
theorem elemAngI : ∃ i, Tryz.prog.info? 68 = some i ∧ i.zero = some (.agg #[.int .i64 0, .int .i64 0, .int .i64 0, .int .i64 0]) ∧ i.size = 4 ∧ i.bytes = 32 := by
  have h : (Tryz.prog.info? 68).map (fun i => (i.zero, i.size, i.bytes)) = some (some (.agg #[.int .i64 0, .int .i64 0, .int .i64 0, .int .i64 0]), 4, 32) := by kernel_rfl
  obtain ⟨i, hi, hz, hs, hb⟩ := info_parts h
  exact ⟨i, hi, hz, hs, hb⟩
theorem run_make4 {P : Program} {t e : TypeId} (ht : P.underlying t = some (.slice e)) (hI : ∃ i, P.info? e = some i ∧ i.zero = some (.agg #[.int .i64 0, .int .i64 0, .int .i64 0, .int .i64 0]) ∧ i.size = 4 ∧ i.bytes = 32) (n : Nat) (hn : n ≤ 1000000) (W : World) :
    (Instr.makeSlice t (.int .i64 (n : Int)) (.int .i64 (n : Int))).run P W = .ok (.slice (some ⟨W.heap.size, 0, none⟩) n n) (W.alloc (.cells (qCells (List.replicate n (0, 0, 0, 0))).toArray e)) := by
  obtain ⟨i, hi, hz, hs, hb⟩ := hI
  have hr := run_make (P := P) W t e i _ ht hi hz .i64 .i64 n n (by omega) (by omega) (by rw [hb]; omega) (by omega)
  simp only [Int.toNat_natCast, hs] at hr
  rw [hr]
  have e1 : (Value.agg #[.int .i64 0, .int .i64 0, .int .i64 0, .int .i64 0]).cells = #[Value.int .i64 0, .int .i64 0, .int .i64 0, .int .i64 0] := rfl
  rw [e1, madeQ]
theorem face_len {n : Int} {es : List (Int × Int)} {rs : List (List Int)} (hR : RightP n es rs) {i : Nat} (hi : i < (facesOf n es rs).length) : (facesOf n es rs)[i].length ≤ 2 * es.length := by
  have hP := nxf_perm hR
  have e : (facesOf n es rs)[i] = (facesOf n es rs).getD i [] := by rw [List.getD_eq_getElem?_getD, List.getElem?_eq_getElem hi]; rfl
  rw [e]
  rw [faces_rows hR] at hi ⊢
  obtain ⟨a, ha, _, ea, _⟩ := rows_get _ _ hi
  rw [ea]
  unfold rowOf
  rw [List.length_map, List.length_range]
  exact (per_spec hP ha).2.1
/-- what the program tells: angles in a slice -/
noncomputable def angR (n : Int) (es : List (Int × Int)) (rs : List (List Int)) : List (Nat × Nat × Nat × Nat) := if askA n es rs = true then angL n es rs else []
def AngPost (Q : List (Nat × Nat × Nat × Nat)) (w : World) (e : Ending) (w' : World) : Prop := ∃ A c, e = .returned (.slice A Q.length c) ∧ Below w.heap.size w w' ∧ Cells w' w'.heap.size A (qCells Q) ∧ ∀ p, A = some p → w.heap.size ≤ p.block
set_option maxRecDepth 20000 in
set_option maxHeartbeats 4000000 in
theorem angs_any (n : Int) (A C : Option Addr) (cap ccap : Nat) (es : List (Int × Int)) (rs : List (List Int)) (w : World) (hes : Cells w w.heap.size A (edgeCells es)) (hrs : RowsAt w w.heap.size C rs) (hr1 : rs.length ≤ 1000) (hr2 : ∀ l ∈ rs, l.length ≤ 1000) :
    Calls Tryz.prog 33 #[.agg #[.int .i64 n, .slice A es.length cap], .slice C rs.length ccap] w (AngPost (angR n es rs) w) := by
  have S1 := Lib.hid (SG.start n cap hes hrs)
  have HR2 := Lib.hid hr2
  clear hes hrs hr2
  go_enter Tryz.func33, Tryz.ntmps33
  go_upto_region 1 with fail
  generalize w.alloc (.cells #[.int .i64 n, .slice A es.length cap] 24) = w1 at *
  have g0 := S1.out.g0
  have g1 := S1.out.g1
  go_wp2_with fail
  refine (askA_any n A C cap ccap es rs w1 S1.out.es S1.out.rs hr1 HR2.out).mono ?_
  rintro e w2 ⟨rfl, hb2⟩
  have S2 := Lib.hid (S1.out.next hb2)
  have g0 := S2.out.g0
  have g1 := S2.out.g1
  clear hb2 S1
  cases ha : askA n es rs with
  | false =>
    have HA := Lib.hid ha
    clear ha
    go_wp2_with fail
    go_ret
    unfold angR
    rw [HA.out]
    exact ⟨none, 0, rfl, S2.out.below, Cells.nil, fun _ h => (by cases h)⟩
  | true =>
    have HP := Lib.hid (ask_right ha)
    have HA := Lib.hid ha
    obtain ⟨hn0, hn1, hn2⟩ := may_parts HP.out.may
    clear ha
    have hmk : ∀ W, (Instr.makeSlice 30 (.int .i64 (2 * (es.length : Int))) (.int .i64 (2 * (es.length : Int)))).run Tryz.prog W = .ok (.slice (some ⟨W.heap.size, 0, none⟩) (2 * es.length) (2 * es.length)) (W.alloc (.cells (List.replicate (2 * es.length) (Value.int .i64 0)).toArray 3)) := fun W => by
      have := run_make1 elemInt rfl (2 * es.length) (by omega) (by omega) W
      rw [show ((2 * es.length : Nat) : Int) = 2 * (es.length : Int) by omega] at this
      exact this
    have hmk4 : ∀ W, (Instr.makeSlice 65 (.int .i64 (2 * (es.length : Int))) (.int .i64 (2 * (es.length : Int)))).run Tryz.prog W = .ok (.slice (some ⟨W.heap.size, 0, none⟩) (2 * es.length) (2 * es.length)) (W.alloc (.cells (qCells (List.replicate (2 * es.length) (0, 0, 0, 0))).toArray 68)) := fun W => by
      have := run_make4 Tryz.underlying65 elemAngI (2 * es.length) (by omega) W
      rw [show ((2 * es.length : Nat) : Int) = 2 * (es.length : Int) by omega] at this
      exact this
    have HMK4 := Lib.hid hmk4
    clear hmk4
    have bF := Blk.new w2 3 (Array.replicate (2 * es.length) (Value.int .i64 0))
    have hbF := (Below.refl w2.heap.size w2).alloc (Nat.le_refl _) (.cells (Array.replicate (2 * es.length) (Value.int .i64 0)) 3)
    have hzF := World.size_alloc w2 (.cells (Array.replicate (2 * es.length) (Value.int .i64 0)) 3)
    go_upto_region 4 with fail
    generalize w2.alloc (.cells (Array.replicate (2 * es.length) (Value.int .i64 0)) 3) = w3 at *
    have S3 := Lib.hid (S2.out.next hbF)
    have HBF := Lib.hid (show Blk w3 w2.heap.size 3 (intCells (List.replicate (2 * es.length) 0)).toArray by simpa [intCells] using bF)
    have HB23 := Lib.hid hbF
    have g0 := S3.out.g0
    have g1 := S3.out.g1
    clear bF hbF hmk
    go_wp2_with fail
    refine (faces2_any n A C cap ccap es rs w3 S3.out.es S3.out.rs hr1 HR2.out).mono ?_
    rintro e w4 ⟨A4, c4, rfl, hb4, hhi⟩
    obtain ⟨gF, hgF⟩ : ∃ gF, gF = w2.heap.size := ⟨_, rfl⟩
    have hb24 : Below gF w2 w4 := by rw [hgF]; exact HB23.out.trans (hb4.mono (by omega))
    have HB24 := Lib.hid hb24
    have HI4 := Lib.hid hhi
    have HBF4 := Lib.hid (show Blk w4 gF 3 (intCells (List.replicate (2 * es.length) 0)).toArray by rw [hgF]; exact HBF.out.below hb4 (by omega))
    have hz4 := hb4.size
    have HFN := Lib.hid (fun f z (h : z ∈ (facesOf n es rs).getD f []) => face_nat HP.out h)
    have hFl := faces_le HP.out
    have HFLEN := Lib.hid (fun i (hi : i < (facesOf n es rs).length) => face_len HP.out hi)
    have HAF := Lib.hid (show ∀ h, angF n es rs h = faceU (facesOf n es rs) (facesOf n es rs).length ((ot h : Nat) : Int) from fun _ => rfl)
    obtain ⟨F, hF⟩ : ∃ F, F = facesOf n es rs := ⟨_, rfl⟩
    rw [← hF] at HI4 HFN hFl HAF HFLEN
    rw [← hF, ← hgF]
    have HGE := Lib.hid hgF
    have hgF3 : gF < w3.heap.size := by omega
    clear hb24 hhi hb4 hF g0 g1 S3 hgF
    go_wp2_with fail
    go_loopg [28] F.length (fun k s28 wr => ∃ (i : Nat) (fs : List Int), s28 = .int .i64 i ∧ i ≤ F.length ∧ k = F.length - i ∧ w4.grownBy wr (some gF) ∧ Blk wr gF 3 (intCells fs).toArray ∧ fs.length = 2 * es.length ∧ ∀ h, h < 2 * es.length → fs.getD h 0 = (faceU F i h : Nat))
    case atStart => exact ⟨0, _, rfl, Nat.zero_le _, rfl, World.grownBy.refl _ _, HBF4.out, by simp, fun h hh => by simp [hh, faceU]⟩
    case round =>
      obtain ⟨i, fs, rfl, hi, hk, hg, hbl, hfl, hfs⟩ := hrel
      have Hk := Lib.hid hk
      have HG := Lib.hid hg
      have HBL := Lib.hid hbl
      have HFL := Lib.hid hfl
      have HFS := Lib.hid hfs
      have hzr := hg.size
      clear hk hg hbl hfl hfs
      by_cases hil : i < F.length
      · have hil' : (i : Int) < F.length := by omega
        obtain ⟨b, off, rfl, hb1, hb2, hcc⟩ := HI4.out (by omega)
        obtain ⟨Ai, ci, zi, hci⟩ := hcc i hil
        have zi : wr.cell? ⟨b, off + i, none⟩ = some (.slice Ai F[i].length ci) := (World.cell?_of_block (a := ⟨b, off + i, none⟩) (HG.out.block b hb2 (fun e => by injection e with e; omega))).trans zi
        have HCI := Lib.hid hci
        have HFNI := Lib.hid (fun t (ht : t < F[i].length) => HFN.out i F[i][t] (by rw [List.getD_eq_getElem?_getD, List.getElem?_eq_getElem hil]; exact List.getElem_mem ht))
        have HGD := Lib.hid (show F.getD i [] = F[i] by rw [List.getD_eq_getElem?_getD, List.getElem?_eq_getElem hil]; rfl)
        have hll : F[i].length ≤ 1000 := by
          have hnd : F[i].length ≤ 2 * es.length := HFLEN.out i hil
          omega
        generalize F[i] = l at *
        clear hcc hci
        go_wp2_with fail
        clear zi
        go_loopg [35] l.length (fun k s35 wr => ∃ (j : Nat) (fs : List Int), s35 = .int .i64 j ∧ j ≤ l.length ∧ k = l.length - j ∧ w4.grownBy wr (some gF) ∧ Blk wr gF 3 (intCells fs).toArray ∧ fs.length = 2 * es.length ∧ ∀ h : Nat, h < 2 * es.length → fs.getD h 0 = ((if (h : Int) ∈ l.take j then i else faceU F i h : Nat) : Int))
        case atStart => exact ⟨0, fs, rfl, Nat.zero_le _, rfl, HG.out, HBL.out, HFL.out, fun h hh => by simpa using HFS.out h hh⟩
        case round =>
          obtain ⟨j, fs, rfl, hj, hk2, hg, hbl, hfl, hfs⟩ := hrel
          have Hk2 := Lib.hid hk2
          have HG := Lib.hid hg
          have HBL := Lib.hid hbl
          have HFL := Lib.hid hfl
          have HFS := Lib.hid hfs
          clear hk2 hg hbl hfl hfs
          by_cases hjl : j < l.length
          · have hjl' : (j : Int) < l.length := by omega
            obtain ⟨bi, oi, rfl, hbi1, hbi2, hcv⟩ := HCI.out (by omega)
            obtain ⟨h, hh1, hh2⟩ := HFNI.out j hjl
            have cx := (World.cell?_of_block (a := ⟨bi, oi + j, none⟩) (HG.out.block bi hbi2 (fun e => by injection e with e; omega))).trans (hcv j hjl)
            rw [hh1] at cx
            have hhl : h < fs.length := by rw [HFL.out]; exact hh2
            have zc : wr.cell? ⟨gF, h, none⟩ = some (.int .i64 (fs.getD h 0)) := by
              rw [HBL.out.cell h]; simp [intCells, hhl]
            have fz := HBL.out.frozen h
            have hh' : (h : Int) < 2 * es.length := by omega
            have HBL2 := Lib.hid (show Blk (wr.setCell ⟨gF, h, none⟩ (.int .i64 i)) gF 3 (intCells (fs.set h i)).toArray by
              have := HBL.out.set_ h (.int .i64 i)
              simpa [intCells, List.map_set] using this)
            have HG2 := Lib.hid (only_setCell HG.out (p := ⟨gF, h, none⟩) (.inl rfl) (.int .i64 i))
            have HFS2 := Lib.hid (show ∀ h' : Nat, h' < 2 * es.length → (fs.set h (i : Int)).getD h' 0 = ((if (h' : Int) ∈ l.take (j + 1) then i else faceU F i h' : Nat) : Int) from fun h' hh' => by
              rw [getD_setZ _ _ _ _ hhl, List.take_succ_eq_append_getElem hjl, hh1]
              by_cases e : h' = h
              · subst e
                rw [if_pos rfl, if_pos (by simp)]
              · rw [if_neg e, HFS.out h' hh']
                have : ((h' : Int) ∈ l.take j ++ [(h : Int)]) ↔ ((h' : Int) ∈ l.take j) := by
                  simp only [List.mem_append, List.mem_singleton]
                  exact ⟨fun e2 => e2.elim id (fun e2 => absurd (by omega) e), .inl⟩
                simp only [this])
            have hlf : (fs.set h (i : Int)).length = 2 * es.length := by simp [HFL.out]
            have HLF := Lib.hid hlf
            generalize fs.getD h 0 = old at *
            clear hcv hh1 hlf
            go_wp2_with fail
            clear cx zc fz
            go_roundg (l.length - (j + 1))
            case measure => rw [Hk2.out]; omega
            case rel => exact ⟨j + 1, fs.set h i, by go_num, by omega, rfl, HG2.out, HBL2.out, HLF.out, HFS2.out⟩
          · have hje : j = l.length := by omega
            have hjl' : ¬ (j : Int) < l.length := by omega
            have HFS2 := Lib.hid (show ∀ h : Nat, h < 2 * es.length → fs.getD h 0 = (faceU F (i + 1) h : Nat) from fun h hh => by
              rw [HFS.out h hh, hje, List.take_length, show faceU F (i + 1) (h : Int) = if (F.getD i []).contains (h : Int) then i else faceU F i h from rfl, HGD.out]
              by_cases hm : (h : Int) ∈ l <;> simp [hm])
            clear hje
            go_wp2_with fail
            go_roundg (F.length - (i + 1))
            case measure => rw [Hk.out]; omega
            case rel => exact ⟨i + 1, fs, by go_num, by omega, rfl, HG.out, HBL.out, HFL.out, HFS2.out⟩
      · have hie : i = F.length := by omega
        have hil' : ¬ (i : Int) < F.length := by omega
        obtain ⟨w5, rfl⟩ : ∃ y, y = wr := ⟨_, rfl⟩
        have HFF := Lib.hid (show ∀ h, h < 2 * es.length → fs.getD (ot h) 0 = (angF n es rs h : Nat) from fun h hh => by
          rw [HFS.out (ot h) (ot_lt hh), HAF.out, hie])
        have S5 := Lib.hid (S2.out.next (show Below w2.heap.size w2 w5 by
          have h1 := HB24.out.grown HG.out (show gF ≤ w4.heap.size by omega) (fun k hk => by injection hk with hk; omega)
          rw [← HGE.out]
          exact h1))
        have g0 := S5.out.g0
        have g1 := S5.out.g1
        have hmk4 := HMK4.out
        have bO := Blk.new w5 68 (qCells (List.replicate (2 * es.length) (0, 0, 0, 0))).toArray
        have hbO := (Below.refl w5.heap.size w5).alloc (Nat.le_refl _) (.cells (qCells (List.replicate (2 * es.length) (0, 0, 0, 0))).toArray 68)
        have hzO := World.size_alloc w5 (.cells (qCells (List.replicate (2 * es.length) (0, 0, 0, 0))).toArray 68)
        clear hie
        go_upto_region 14 with fail
        generalize w5.alloc (.cells (qCells (List.replicate (2 * es.length) (0, 0, 0, 0))).toArray 68) = w6 at *
        have HGF5 := Lib.hid HBL.out.lt
        obtain ⟨gO, hgO⟩ : ∃ gO, gO = w5.heap.size := ⟨_, rfl⟩
        have HBO := Lib.hid (show Blk w6 gO 68 (qCells (List.replicate (2 * es.length) (0, 0, 0, 0))).toArray by rw [hgO]; exact bO)
        have HB56 := Lib.hid (show Below gO w5 w6 by rw [hgO]; exact hbO)
        have HGO := Lib.hid hgO
        rw [← hgO]
        clear bO hbO hmk4 g0 g1 hgO
        go_wp2_with fail
        go_loopg [52] rs.length (fun k s52 wr => ∃ (x : Nat) (Q : List (Nat × Nat × Nat × Nat)), s52 = .int .i64 x ∧ x ≤ rs.length ∧ k = rs.length - x ∧ Below gO w5 wr ∧ Blk wr gO 68 (qCells Q).toArray ∧ Q.length = 2 * es.length ∧ ∀ h, h < 2 * es.length → vtx es h < x → Q.getD h (0, 0, 0, 0) = angQ n es rs h)
        case atStart => exact ⟨0, _, rfl, Nat.zero_le _, rfl, HB56.out, HBO.out, by simp, fun h _ hx => absurd hx (Nat.not_lt_zero _)⟩
        case round =>
          obtain ⟨x, Q, rfl, hx, hk, hb, hbo, hql, hqd⟩ := hrel
          have Hk := Lib.hid hk
          have HB := Lib.hid hb
          have HBO := Lib.hid hbo
          have HQL := Lib.hid hql
          have HQD := Lib.hid hqd
          have hzr := hb.size
          clear hk hb hbo hql hqd
          by_cases hxl : x < rs.length
          · have hxl' : (x : Int) < rs.length := by omega
            obtain ⟨b, off, rfl, hbb, hcc⟩ := S5.out.rs (by omega)
            obtain ⟨Ai, ci, zi, hCi⟩ := hcc x hxl
            have zi : wr.cell? ⟨b, off + x, none⟩ = some (.slice Ai rs[x].length ci) := (HB.out.cell (p := ⟨b, off + x, none⟩) (by rw [HGO.out]; exact hbb)).trans zi
            have HCI := Lib.hid hCi
            have HNT := Lib.hid (fun t (ht : t < rs[x].length) => HP.out.nat hxl ht)
            have HSG := Lib.hid (fun t (ht : t < rs[x].length) (d : Nat) (hd : rs[x][t] = (d : Int)) => (by
              rw [sig_at HP.out hxl ht hd, List.getD_eq_getElem?_getD, List.getElem?_eq_getElem (Nat.mod_lt _ (by omega))]
              rfl : sig es rs d = (rs[x].getD ((t + 1) % rs[x].length) 0).toNat))
            have HCOV := Lib.hid (fun h (hh : h < 2 * es.length) (hv : vtx es h = x) => (by
              obtain ⟨x', t, hx', ht, e, hv'⟩ := HP.out.pos hh
              have : x' = x := by omega
              subst this
              exact ⟨t, ht, e⟩ : ∃ t, ∃ ht : t < rs[x].length, rs[x][t] = (h : Int)))
            have hll : rs[x].length ≤ 1000 := HR2.out _ (List.getElem_mem hxl)
            generalize rs[x] = l at *
            clear hcc hCi
            go_wp2_with fail
            clear zi
            go_loopg [59] l.length (fun k s59 wr => ∃ (i : Nat) (Q : List (Nat × Nat × Nat × Nat)), s59 = .int .i64 i ∧ i ≤ l.length ∧ k = l.length - i ∧ Below gO w5 wr ∧ Blk wr gO 68 (qCells Q).toArray ∧ Q.length = 2 * es.length ∧ ∀ h, h < 2 * es.length → (vtx es h < x ∨ ∃ t, ∃ ht : t < l.length, t < i ∧ l[t] = (h : Int)) → Q.getD h (0, 0, 0, 0) = angQ n es rs h)
            case atStart => exact ⟨0, Q, rfl, Nat.zero_le _, rfl, HB.out, HBO.out, HQL.out, fun h hh hd => HQD.out h hh (hd.resolve_right (fun ⟨t, _, ht, _⟩ => absurd ht (Nat.not_lt_zero _)))⟩
            case round =>
              obtain ⟨i, Q, rfl, hi, hk2, hb, hbo, hql, hqd⟩ := hrel
              have Hk2 := Lib.hid hk2
              have HB := Lib.hid hb
              have HBO := Lib.hid hbo
              have HQL := Lib.hid hql
              have HQD := Lib.hid hqd
              have hzr2 := hb.size
              clear hk2 hb hbo hql hqd
              by_cases hil : i < l.length
              · have hil' : (i : Int) < l.length := by omega
                obtain ⟨bi, oi, rfl, hbi, hcv⟩ := HCI.out.ints (by omega)
                have hml : (i + 1) % l.length < l.length := Nat.mod_lt _ (by omega)
                obtain ⟨h, hh1, hh2, hh3⟩ := HNT.out i hil
                obtain ⟨y, hy1, _, _⟩ := HNT.out ((i + 1) % l.length) hml
                have hsg := HSG.out i hil h hh1
                rw [List.getD_eq_getElem?_getD, List.getElem?_eq_getElem hml, Option.getD_some, hy1, Int.toNat_natCast] at hsg
                have cx := (HB.out.cell (p := ⟨bi, oi + i, none⟩) (by rw [HGO.out]; exact hbi)).trans (hcv i hil)
                have cy := (HB.out.cell (p := ⟨bi, oi + (i + 1) % l.length, none⟩) (by rw [HGO.out]; exact hbi)).trans (hcv _ hml)
                rw [hh1] at cx
                rw [hy1] at cy
                have HMD := Lib.hid (show Int.tmod ((i : Int) + 1) (l.length : Int) = (((i + 1) % l.length : Nat) : Int) by
                  rw [Int.tmod_eq_emod_of_nonneg (by omega)]; simp)
                have HML := Lib.hid (show ((((i + 1) % l.length : Nat)) : Int) < l.length by omega)
                have HL0 := Lib.hid (show ¬ (l.length : Int) = 0 by omega)
                generalize (i + 1) % l.length = m at *
                have HFV := Lib.hid (HFF.out h hh2)
                have HCF := Lib.hid (show wr.cell? ⟨gF, ot h, none⟩ = some (.int .i64 (angF n es rs h : Nat)) by
                  rw [HB.out.cell (p := ⟨gF, ot h, none⟩) (by rw [HGO.out]; exact HGF5.out), HBL.out.cell (ot h), ← HFV.out]
                  have : ot h < fs.length := by rw [HFL.out]; exact ot_lt hh2
                  simp [intCells, this])
                have HCY := Lib.hid cy
                have HGF := Lib.hid (show gF < wr.heap.size by have := HGF5.out; omega)
                have HBI := Lib.hid (show bi < wr.heap.size by omega)
                have HOM := Lib.hid (show ((ot h : Nat) : Int) < 2 * (es.length : Int) by have := ot_lt hh2; omega)
                have HHM := Lib.hid (show (h : Int) < 2 * (es.length : Int) by omega)
                have HHQ := Lib.hid (show h < Q.length by rw [HQL.out]; exact hh2)
                have HKD := Lib.hid (fun wv => kind_any h y wv)
                have HAQ := Lib.hid (show angQ n es rs h = (h, x, angF n es rs h, kindF h y) by unfold angQ angK; rw [hsg, hh3])
                have HHT := Lib.hid hh1
                have hh256 : h < 256 := by omega
                obtain ⟨fv, hfv⟩ : ∃ fv, fv = angF n es rs h := ⟨_, rfl⟩
                obtain ⟨kd, hkd⟩ : ∃ kd, kd = kindF h y := ⟨_, rfl⟩
                rw [← hfv] at HCF HAQ
                rw [← hkd] at HKD HAQ
                clear hcv hh1 hy1 hsg cy hfv hkd
                go_upto_region 20 with fail
                clear cx
                refine R3.wp_region_i gO [[], [68]] [0, 0, 0, 0, 0, 0, 0, 0, 0, 0, 0, 0, 0, 0, 0, 0, 0, 0, 0, 0, 0, 1]
                  [([], .val (.slice (some ⟨gO, 0, none⟩) (2 * es.length) (2 * es.length))), ([], .val (.int .i64 h)), ([], .val (.int .i64 h)), ([], .val (.int .i64 x)), ([], .val (.slice (some ⟨gF, 0, none⟩) (2 * es.length) (2 * es.length))), ([], .val (.int .i64 h)), ([5], .val (.int .i64 (ot h : Nat))), ([4, 6], .val (.pointer (some ⟨gF, ot h, none⟩))), ([7], .val (.int .i64 (fv : Nat))), ([], .val (.int .i64 h)), ([], .val (.slice (some ⟨bi, oi, none⟩) l.length ci)), ([], .val (.int .i64 i)), ([11], .val (.int .i64 ((i : Int) + 1))), ([], .val (.slice (some ⟨bi, oi, none⟩) l.length ci)), ([13], .val (.int .i64 l.length)), ([12, 14], .val (.int .i64 (m : Nat))), ([10, 15], .val (.pointer (some ⟨bi, oi + m, none⟩))), ([16], .val (.int .i64 (y : Nat))), ([9, 17], .val (.int .i64 (kd : Nat))), ([2, 3, 8, 18], .val (.agg #[.int .i64 h, .int .i64 x, .int .i64 fv, .int .i64 kd])), ([0, 1], .val (.pointer (some ⟨gO, h * 4, none⟩))), ([20, 19], pfB gO 68 (qCells (Q.set h (h, x, fv, kd))).toArray)] [21] (by kernel_rfl) (by kernel_rfl) (fun us => ?_) ?_
                · refine R3.pgo_pure _ rfl rfl (fun wv hw hu => ⟨.slice (some ⟨gO, 0, none⟩) (2 * es.length) (2 * es.length), ?_, rfl⟩) ?_
                  · have tok := True.intro
                    clear hw hu
                    go_simp
                  refine R3.pgo_pure _ rfl rfl (fun wv hw hu => ⟨.int .i64 h, ?_, rfl⟩) ?_
                  · have tok := True.intro
                    clear hw hu
                    go_simp
                  refine R3.pgo_pure _ rfl rfl (fun wv hw hu => ⟨.int .i64 h, ?_, rfl⟩) ?_
                  · have tok := True.intro
                    clear hw hu
                    go_simp
                  refine R3.pgo_pure _ rfl rfl (fun wv hw hu => ⟨.int .i64 x, ?_, rfl⟩) ?_
                  · have tok := True.intro
                    clear hw hu
                    go_simp
                  refine R3.pgo_pure _ rfl rfl (fun wv hw hu => ⟨.slice (some ⟨gF, 0, none⟩) (2 * es.length) (2 * es.length), ?_, rfl⟩) ?_
                  · have tok := True.intro
                    clear hw hu
                    go_simp
                  refine R3.pgo_pure _ rfl rfl (fun wv hw hu => ⟨.int .i64 h, ?_, rfl⟩) ?_
                  · have tok := True.intro
                    clear hw hu
                    go_simp
                  refine R3.pgo_pure _ rfl rfl (fun wv hw hu => ⟨.int .i64 (ot h : Nat), ?_, rfl⟩) ?_
                  · have tok := True.intro
                    have h5 : us 5 = .int .i64 h := hu.1
                    have hx1 := bits_xor1 (h := h) (by omega)
                    clear hw hu
                    go_simp
                  refine R3.pgo_pure _ rfl rfl (fun wv hw hu => ⟨.pointer (some ⟨gF, ot h, none⟩), ?_, rfl⟩) ?_
                  · have tok := True.intro
                    have h4 : us 4 = .slice (some ⟨gF, 0, none⟩) (2 * es.length) (2 * es.length) := hu.1
                    have h6 : us 6 = .int .i64 (ot h : Nat) := hu.2.1
                    have hoM := HOM.out
                    clear hw hu
                    go_simp
                  refine R3.pgo_pure _ rfl rfl (fun wv hw hu => ⟨.int .i64 (fv : Nat), ?_, rfl⟩) ?_
                  · have tok := True.intro
                    have h7 : us 7 = .pointer (some ⟨gF, ot h, none⟩) := hu.1
                    have zy : wv.cell? ⟨gF, ot h, none⟩ = some (.int .i64 (fv : Nat)) := ((evo_nil (by kernel_rfl) hw).cell (p := ⟨gF, ot h, none⟩) HGF.out).trans HCF.out
                    clear hw hu
                    go_simp
                  refine R3.pgo_pure _ rfl rfl (fun wv hw hu => ⟨.int .i64 h, ?_, rfl⟩) ?_
                  · have tok := True.intro
                    clear hw hu
                    go_simp
                  refine R3.pgo_pure _ rfl rfl (fun wv hw hu => ⟨.slice (some ⟨bi, oi, none⟩) l.length ci, ?_, rfl⟩) ?_
                  · have tok := True.intro
                    clear hw hu
                    go_simp
                  refine R3.pgo_pure _ rfl rfl (fun wv hw hu => ⟨.int .i64 i, ?_, rfl⟩) ?_
                  · have tok := True.intro
                    clear hw hu
                    go_simp
                  refine R3.pgo_pure _ rfl rfl (fun wv hw hu => ⟨.int .i64 ((i : Int) + 1), ?_, rfl⟩) ?_
                  · have tok := True.intro
                    have h11 : us 11 = .int .i64 i := hu.1
                    have hw1 : IntKind.i64.wrap ((i : Int) + 1) = (i : Int) + 1 := by rw [IntKind.wrap_i64]; omega
                    clear hw hu
                    go_simp
                  refine R3.pgo_pure _ rfl rfl (fun wv hw hu => ⟨.slice (some ⟨bi, oi, none⟩) l.length ci, ?_, rfl⟩) ?_
                  · have tok := True.intro
                    clear hw hu
                    go_simp
                  refine R3.pgo_pure _ rfl rfl (fun wv hw hu => ⟨.int .i64 l.length, ?_, rfl⟩) ?_
                  · have tok := True.intro
                    have h13 : us 13 = .slice (some ⟨bi, oi, none⟩) l.length ci := hu.1
                    clear hw hu
                    go_simp
                  refine R3.pgo_pure _ rfl rfl (fun wv hw hu => ⟨.int .i64 (m : Nat), ?_, rfl⟩) ?_
                  · have tok := True.intro
                    have h12 : us 12 = .int .i64 ((i : Int) + 1) := hu.1
                    have h14 : us 14 = .int .i64 l.length := hu.2.1
                    have hmd := HMD.out
                    have hl0 := HL0.out
                    clear hw hu
                    go_simp
                    exact fun e => by rw [e] at hil; simp at hil
                  refine R3.pgo_pure _ rfl rfl (fun wv hw hu => ⟨.pointer (some ⟨bi, oi + m, none⟩), ?_, rfl⟩) ?_
                  · have tok := True.intro
                    have h10 : us 10 = .slice (some ⟨bi, oi, none⟩) l.length ci := hu.1
                    have h15 : us 15 = .int .i64 (m : Nat) := hu.2.1
                    have hml := HML.out
                    clear hw hu
                    go_simp
                  refine R3.pgo_pure _ rfl rfl (fun wv hw hu => ⟨.int .i64 (y : Nat), ?_, rfl⟩) ?_
                  · have tok := True.intro
                    have h16 : us 16 = .pointer (some ⟨bi, oi + m, none⟩) := hu.1
                    have zy : wv.cell? ⟨bi, oi + m, none⟩ = some (.int .i64 (y : Nat)) := ((evo_nil (by kernel_rfl) hw).cell (p := ⟨bi, oi + m, none⟩) HBI.out).trans HCY.out
                    clear hw hu
                    go_simp
                  refine R3.pgo_op _ rfl rfl (fun K wv hw hu hK => ?_) ?_
                  · have tok := True.intro
                    have h9 : us 9 = .int .i64 h := hu.1
                    have h17 : us 17 = .int .i64 (y : Nat) := hu.2.1
                    refine wpo_call (f := 75) (args := #[.int .i64 h, .int .i64 y]) ?_ ((HKD.out wv).mono ?_)
                    · clear hK hw hu
                      go_simp
                    rintro e w' ⟨rfl, rfl⟩
                    exact ⟨_, rfl, hK _ _ (Evo.refl _ _ _) rfl⟩
                  refine R3.pgo_pure _ rfl rfl (fun wv hw hu => ⟨.agg #[.int .i64 h, .int .i64 x, .int .i64 fv, .int .i64 kd], ?_, rfl⟩) ?_
                  · have tok := True.intro
                    have h2 : us 2 = .int .i64 h := hu.1
                    have h3 : us 3 = .int .i64 x := hu.2.1
                    have h8 : us 8 = .int .i64 (fv : Nat) := hu.2.2.1
                    have h18 : us 18 = .int .i64 (kd : Nat) := hu.2.2.2.1
                    clear hw hu
                    go_simp
                  refine R3.pgo_pure _ rfl rfl (fun wv hw hu => ⟨.pointer (some ⟨gO, h * 4, none⟩), ?_, rfl⟩) ?_
                  · have tok := True.intro
                    have h0 : us 0 = .slice (some ⟨gO, 0, none⟩) (2 * es.length) (2 * es.length) := hu.1
                    have h1 : us 1 = .int .i64 h := hu.2.1
                    have hhM := HHM.out
                    clear hw hu
                    go_simp
                  refine R3.pgo_skip _ rfl rfl (fun wv hw hu => ?_) ?_
                  · have tok := True.intro
                    have h20 : us 20 = .pointer (some ⟨gO, h * 4, none⟩) := hu.1
                    have h19 : us 19 = .agg #[.int .i64 h, .int .i64 x, .int .i64 fv, .int .i64 kd] := hu.2.1
                    have hbv : Blk wv gO 68 (qCells Q).toArray := (show Blk wr.drew gO 68 (qCells Q).toArray from HBO.out).below (evo_nil (by kernel_rfl) hw) HBO.out.lt
                    obtain ⟨⟨z0, f0⟩, ⟨z1, f1⟩, ⟨z2, f2⟩, ⟨z3, f3⟩, hfin⟩ := store4 hbv HHQ.out (h, x, fv, kd)
                    refine ⟨(((wv.setCell ⟨gO, h * 4, none⟩ (.int .i64 h)).setCell ⟨gO, h * 4 + 1, none⟩ (.int .i64 x)).setCell ⟨gO, h * 4 + 2, none⟩ (.int .i64 fv)).setCell ⟨gO, h * 4 + 3, none⟩ (.int .i64 kd), ?_, (((Evo.set_ hbv (by simp) (Nat.le_refl _) (h * 4) _).trans (Evo.set_ (hbv.set_ _ _) (by simp) (Nat.le_refl _) (h * 4 + 1) _)).trans (Evo.set_ ((hbv.set_ _ _).set_ _ _) (by simp) (Nat.le_refl _) (h * 4 + 2) _)).trans (Evo.set_ (((hbv.set_ _ _).set_ _ _).set_ _ _) (by simp) (Nat.le_refl _) (h * 4 + 3) _), hfin⟩
                    clear hw hu
                    clear hbv hfin
                    go_simp
                  trivial
                · intro us w7 hw hu
                  have HBO7 := Lib.hid (show Blk w7 gO 68 (qCells (Q.set h (h, x, fv, kd))).toArray from hu.1)
                  have HB7 := Lib.hid (HB.out.trans (below_undrew' (hw.below (show gO ≤ wr.drew.heap.size from by have := HBO.out.lt; exact Nat.le_of_lt this))))
                  have HQD7 := Lib.hid (show ∀ h', h' < 2 * es.length → (vtx es h' < x ∨ ∃ t, ∃ ht : t < l.length, t < i + 1 ∧ l[t] = (h' : Int)) → (Q.set h (h, x, fv, kd)).getD h' (0, 0, 0, 0) = angQ n es rs h' from fun h' hh' hd => by
                    rw [List.getD_eq_getElem?_getD, List.getElem?_set]
                    by_cases e : h = h'
                    · subst e
                      rw [if_pos rfl, if_pos HHQ.out, HAQ.out]
                      rfl
                    · rw [if_neg e, ← List.getD_eq_getElem?_getD]
                      refine HQD.out h' hh' (hd.imp id fun ⟨t, ht, hti, hte⟩ => ⟨t, ht, ?_, hte⟩)
                      by_cases e2 : t = i
                      · subst e2
                        rw [HHT.out] at hte
                        omega
                      · omega)
                  have HQL7 := Lib.hid (show (Q.set h (h, x, fv, kd)).length = 2 * es.length by rw [List.length_set]; exact HQL.out)
                  clear hw hu
                  simp only [lexL]
                  go_simp
                  go_wp2_with fail
                  go_roundg (l.length - (i + 1))
                  case measure => rw [Hk2.out]; omega
                  case rel => exact ⟨i + 1, Q.set h (h, x, fv, kd), by go_num, by omega, rfl, HB7.out, HBO7.out, HQL7.out, HQD7.out⟩
              · have hie : i = l.length := by omega
                have hil' : ¬ (i : Int) < l.length := by omega
                have HQD2 := Lib.hid (show ∀ h, h < 2 * es.length → vtx es h < x + 1 → Q.getD h (0, 0, 0, 0) = angQ n es rs h from fun h hh hv => HQD.out h hh (by
                  by_cases e : vtx es h = x
                  · obtain ⟨t, ht, e2⟩ := HCOV.out h hh e
                    exact .inr ⟨t, ht, by omega, e2⟩
                  · exact .inl (by omega)))
                clear hie
                go_wp2_with fail
                go_roundg (rs.length - (x + 1))
                case measure => rw [Hk.out]; omega
                case rel => exact ⟨x + 1, Q, by go_num, by omega, rfl, HB.out, HBO.out, HQL.out, HQD2.out⟩
          · have hxe : x = rs.length := by omega
            have hxl' : ¬ (x : Int) < rs.length := by omega
            have HQE := Lib.hid (show Q = angL n es rs by
              apply List.ext_getElem
              · rw [HQL.out]; simp [angL]
              · intro h h1 h2
                have hh : h < 2 * es.length := by rw [← HQL.out]; exact h1
                have hv := vtx_lt (right_inN HP.out) hh
                have := HQD.out h hh (by omega)
                rw [List.getD_eq_getElem?_getD, List.getElem?_eq_getElem h1, Option.getD_some] at this
                rw [this]
                simp [angL])
            have HF := Lib.hid (S5.out.next (by rw [← HGO.out]; exact HB.out))
            have HC := Lib.hid (show Cells wr wr.heap.size (some ⟨gO, 0, none⟩) (qCells Q) from (Cells.of_blk (R := #[]) (by simpa using HBO.out)).more HBO.out.lt)
            clear hxe
            go_wp2_with fail
            go_ret
            have e : angR n es rs = Q := by unfold angR; rw [HA.out, if_pos rfl, HQE.out]
            rw [e]
            refine ⟨some ⟨gO, 0, none⟩, 2 * es.length, ?_, HF.out.below, HC.out, fun p e => by injection e with e; subst e; have h1 := S5.out.lt; have h2 := HGO.out; show w.heap.size ≤ gO; omega⟩
            rw [HQL.out]
            rfl
end Go.Proofs.YtelcofkjpkdjiaaGreat
/-
  arborref06.Angles: what it computes. Written by an AI agent.
-/
namespace Go.Proofs.YtelcofkjpkdjiaaGreat
open Go.RowKit

theorem elemAngR : Elem Tryz.prog 71 101 (.agg #[.int .i64 0, .int .i64 0, .int .i64 0, .int .i64 0]) 4 32 := Elem.mk' Tryz.underlying71 (by kernel_rfl) rfl (by omega)
theorem own_of_blk4 {w : World} {base g : Nat} {t : TypeId} (h : Blk w g t #[]) (hb : base ≤ g) : w.ownsRow base t 4 (.slice (some ⟨g, 0, none⟩) 0 0) 0 [] :=
  ⟨rfl, .inr ⟨g, 0, _, rfl, hb, h, Nat.le_refl _, by unfold maxLen; omega, rfl, rfl⟩⟩
theorem own_ge {w : World} {base size n m c : Nat} {t : TypeId} {A : Option Addr} {xs : List Value} (h : w.ownsRow base t size (.slice A m c) n xs) : ∀ p, A = some p → base ≤ p.block := fun p hp => by
  rcases h.2 with ⟨e, _⟩ | ⟨g, cap, cur, e, h1, _⟩
  · injection e with e; subst e; cases hp
  · injection e with e
    subst e
    injection hp with hp
    subst hp
    exact h1
theorem atE_vtx {N : Nat} {es : List (Int × Int)} (hin : InN N es) {h : Nat} (hh : h < 2 * es.length) : atE es h = (vtx es h : Nat) := by
  have h0 : 0 ≤ atE es h := by
    have hk : h / 2 < es.length := by omega
    obtain ⟨a, b, c, d⟩ := hin es[h / 2] (List.getElem_mem hk)
    unfold atE
    rw [List.getD_eq_getElem?_getD, List.getElem?_eq_getElem hk]
    split <;> simpa using (by omega)
  unfold vtx
  omega
theorem faceU_succ (F : List (List Int)) (k : Nat) (h : Int) : faceU F (k + 1) h = if (F.getD k []).contains h then k else faceU F k h := rfl
def hitT (l : List Int) (h i : Nat) : Prop := ∃ t, ∃ ht : t < l.length, t < i ∧ l[t] = (h : Int)
theorem hitT_succ {l : List Int} {h i : Nat} (hi : i < l.length) : hitT l h (i + 1) ↔ hitT l h i ∨ l[i] = (h : Int) := by
  constructor
  · rintro ⟨t, ht, hti, e⟩
    by_cases e2 : t = i
    · subst e2; exact .inr e
    · exact .inl ⟨t, ht, by omega, e⟩
  · rintro (⟨t, ht, hti, e⟩ | e)
    · exact ⟨t, ht, by omega, e⟩
    · exact ⟨i, hi, by omega, e⟩
def angT (n : Int) (es : List (Int × Int)) (rs : List (List Int)) (h : Nat) : List (Nat × Nat × Nat × Nat) := (List.range h).map (angQ n es rs)
theorem angT_succ (n : Int) (es : List (Int × Int)) (rs : List (List Int)) (h : Nat) : angT n es rs (h + 1) = angT n es rs h ++ [angQ n es rs h] := by
  unfold angT; rw [List.range_succ, List.map_append]; rfl
theorem qCells_append (P Q : List (Nat × Nat × Nat × Nat)) : qCells (P ++ Q) = qCells P ++ qCells Q := by unfold qCells; rw [List.flatMap_append]
set_option maxRecDepth 20000 in
set_option maxHeartbeats 4000000 in
theorem refAngs_any (n : Int) (A C : Option Addr) (cap ccap : Nat) (es : List (Int × Int)) (rs : List (List Int)) (w : World) (hes : Cells w w.heap.size A (edgeCells es)) (hrs : RowsAt w w.heap.size C rs) (hr1 : rs.length ≤ 1000) (hr2 : ∀ l ∈ rs, l.length ≤ 1000) (hP : RightP n es rs) :
    Calls Tryz.prog 38 #[.agg #[.int .i64 n, .slice A es.length cap], .slice C rs.length ccap] w (AngPost (angL n es rs) w) := by
  have hm := (may_parts hP.may).2.2
  have S1 := Lib.hid (SG.start n cap hes hrs)
  have HR2 := Lib.hid hr2
  have HP := Lib.hid hP
  have HIN := Lib.hid (right_inN hP)
  clear hes hrs hr2 hP
  go_enter Tryz.func38, Tryz.ntmps38
  go_upto_region 1 with fail
  generalize w.alloc (.cells #[.int .i64 n, .slice A es.length cap] 24) = w1 at *
  have HO2 := Lib.hid (own_of_blk4 (Blk.new w1 101 #[]) (Nat.le_refl _))
  have hb2 := (Below.refl w1.heap.size w1).alloc (Nat.le_refl _) (.cells #[] 101)
  have S2 := Lib.hid (S1.out.next hb2)
  have HB12 := Lib.hid hb2
  have hz2 := World.size_alloc w1 (.cells #[] 101)
  have g0 := S2.out.g0
  have g1 := S2.out.g1
  clear hb2
  go_wp2_with fail
  generalize w1.alloc (.cells #[] 101) = w2 at *
  refine (refFaces2_any n A C cap ccap es rs w2 S2.out.es S2.out.rs hr1 HR2.out HP.out).mono ?_
  rintro e w3 ⟨A6, c6, rfl, hb3, hhi⟩
  obtain ⟨g, hg⟩ : ∃ g, g = w1.heap.size := ⟨_, rfl⟩
  have HO3 := Lib.hid (show w3.ownsRow g 101 4 (.slice (some ⟨g, 0, none⟩) 0 0) 0 [] by
    have := own_below HO2.out hb3 (Nat.le_refl _)
    rw [hg]; exact this)
  have HB13 := Lib.hid (show Below g w1 w3 by rw [hg]; exact HB12.out.trans (hb3.mono (by omega)))
  have HH := Lib.hid hhi
  have HFN := Lib.hid (fun f z (h : z ∈ (facesOf n es rs).getD f []) => face_nat HP.out h)
  have hFl := faces_le HP.out
  have HFLEN := Lib.hid (fun i (hi : i < (facesOf n es rs).length) => face_len HP.out hi)
  have HAF := Lib.hid (show ∀ h, angF n es rs h = faceU (facesOf n es rs) (facesOf n es rs).length ((ot h : Nat) : Int) from fun _ => rfl)
  obtain ⟨F, hF⟩ : ∃ F, F = facesOf n es rs := ⟨_, rfl⟩
  rw [← hF] at HH HFN hFl HAF HFLEN
  rw [← hF, ← hg]
  have HGE := Lib.hid hg
  have hz3 := hb3.size
  have hgz : g < w2.heap.size := by omega
  clear hhi hb3 hF g0 g1 hg
  go_wp2_with fail
  go_loopg [5, 7] (2 * es.length) (fun k s5 s7 wr => ∃ h : Nat, s7 = .int .i64 h ∧ h ≤ 2 * es.length ∧ k = 2 * es.length - h ∧ Below g w1 wr ∧ w3.heap.size ≤ wr.heap.size ∧ (∀ k, w2.heap.size ≤ k → k < w3.heap.size → wr.heap[k]? = w3.heap[k]?) ∧ wr.ownsRow g 101 4 s5 h (qCells (angT n es rs h)) ∧ ∀ k, s5.ownBlock = some k → k < w2.heap.size ∨ w3.heap.size ≤ k)
  case atStart => exact ⟨0, rfl, Nat.zero_le _, rfl, HB13.out, Nat.le_refl _, fun _ _ _ => rfl, HO3.out, fun k hk => .inl (by simp only [Value.ownBlock, Option.some.injEq] at hk; omega)⟩
  case round =>
    obtain ⟨h, rfl, hh, hk, hb, hsz, hkp, hown, hob⟩ := hrel
    have Hk := Lib.hid hk
    have HB := Lib.hid hb
    have HKP := Lib.hid hkp
    have HOW := Lib.hid hown
    have HOB := Lib.hid hob
    obtain ⟨A5, c5, rfl⟩ := own_slice hown
    have S4 := Lib.hid (S1.out.next (w' := wr) (by rw [← HGE.out]; exact hb))
    have g0 := S4.out.g0
    have g1 := S4.out.g1
    clear hk hb hkp hown hob
    by_cases hhl : h < 2 * es.length
    · have hhl' : (h : Int) < 2 * (es.length : Int) := by omega
      go_wp2_with fail
      refine (at_any n A cap es h wr S4.out.es hhl (by omega)).mono ?_
      rintro e w5 ⟨rfl, hb5⟩
      rw [atE_vtx HIN.out hhl]
      have hxl := vtx_lt HIN.out hhl
      have S5 := Lib.hid (S4.out.next hb5)
      have HB5 := Lib.hid hb5
      have hz5 := hb5.size
      obtain ⟨b, off, rfl, hbb, hcc⟩ := S5.out.rs (by omega)
      obtain ⟨Ai, ci, zi, hCi⟩ := hcc (vtx es h) hxl
      have HCI := Lib.hid hCi
      have HNT := Lib.hid (fun t (ht : t < rs[vtx es h].length) => HP.out.nat hxl ht)
      have HSG := Lib.hid (fun t (ht : t < rs[vtx es h].length) (hd : rs[vtx es h][t] = (h : Int)) => (by
        rw [sig_at HP.out hxl ht hd, List.getD_eq_getElem?_getD, List.getElem?_eq_getElem (Nat.mod_lt _ (by omega))]
        rfl : sig es rs h = (rs[vtx es h].getD ((t + 1) % rs[vtx es h].length) 0).toNat))
      have HPOS := Lib.hid (show hitT rs[vtx es h] h rs[vtx es h].length from by
        obtain ⟨x', t, hx', ht, e, hv'⟩ := HP.out.pos hhl
        subst hv'
        exact ⟨t, ht, ht, e⟩)
      have hll : rs[vtx es h].length ≤ 1000 := HR2.out _ (List.getElem_mem hxl)
      have HAQ := Lib.hid (show angQ n es rs h = (h, vtx es h, faceU F F.length ((ot h : Nat) : Int), kindF h (sig es rs h)) by unfold angQ angK; rw [HAF.out])
      have hxl' : ((vtx es h : Nat) : Int) < rs.length := by omega
      have hv256 : vtx es h ≤ 1000 := by omega
      generalize rs[vtx es h] = l at *
      generalize vtx es h = x at *
      obtain ⟨y0, hy0⟩ : ∃ y0, y0 = sig es rs h := ⟨_, rfl⟩
      rw [← hy0] at HSG HAQ
      obtain ⟨K, hK⟩ : ∃ K, K = kindF h y0 := ⟨_, rfl⟩
      rw [← hK] at HAQ
      have HKE := Lib.hid hK
      have hot : (((ot h : Nat) : Nat) : Int) = (h : Int) + 1 - 2 * ((h : Int) % 2) := by
        have h1 := ot_lt hhl
        unfold ot
        rcases Nat.mod_two_eq_zero_or_one h with h2 | h2
        · rw [if_pos h2]; omega
        · rw [if_neg (by omega)]; omega
      obtain ⟨o, ho⟩ : ∃ o, o = ot h := ⟨_, rfl⟩
      rw [← ho] at hot HAQ
      clear hcc hCi hb5 hy0 hK ho g0 g1
      have hnz := World.size_alloc w5 (.cells #[.int .i64 (h : Int), .int .i64 (x : Int), .int .i64 0, .int .i64 0] 101)
      go_wp2_with fail
      have HA6 := Lib.hid (show Blk (w5.alloc (.cells #[.int .i64 (h : Int), .int .i64 (x : Int), .int .i64 0, .int .i64 0] 101)) w5.heap.size 101 (qC (h, x, 0, 0)).toArray from Blk.new w5 _ _)
      have HB6 := Lib.hid ((Below.refl w5.heap.size w5).alloc (Nat.le_refl _) (.cells #[.int .i64 (h : Int), .int .i64 (x : Int), .int .i64 0, .int .i64 0] 101))
      generalize w5.alloc (.cells #[.int .i64 (h : Int), .int .i64 (x : Int), .int .i64 0, .int .i64 0] 101) = w6 at *
      obtain ⟨gA, hgA⟩ : ∃ gA, gA = w5.heap.size := ⟨_, rfl⟩
      rw [← hgA] at HA6 HB6
      rw [← hgA]
      have HGA := Lib.hid hgA
      clear hgA zi
      go_loopg [11] l.length (fun k s11 wr => ∃ i kd : Nat, s11 = .int .i64 i ∧ i ≤ l.length ∧ k = l.length - i ∧ Below gA w5 wr ∧ Blk wr gA 101 (qC (h, x, 0, kd)).toArray ∧ (hitT l h i → kd = K) ∧ (¬ hitT l h i → kd = 0))
      case atStart => exact ⟨0, 0, rfl, Nat.zero_le _, rfl, HB6.out, HA6.out, fun ⟨t, _, ht, _⟩ => absurd ht (Nat.not_lt_zero _), fun _ => rfl⟩
      case round =>
        obtain ⟨i, kd, rfl, hi, hk, hb, hbl, hyes, hno⟩ := hrel
        have Hk2 := Lib.hid hk
        have HB7 := Lib.hid hb
        have HBL := Lib.hid hbl
        have HYES := Lib.hid hyes
        have HNO := Lib.hid hno
        have hzr := hb.size
        clear hk hb hbl hyes hno
        by_cases hil : i < l.length
        · have hil' : (i : Int) < l.length := by omega
          obtain ⟨bi, oi, rfl, hbi, hcv⟩ := HCI.out.ints (by omega)
          have hml : (i + 1) % l.length < l.length := Nat.mod_lt _ (by omega)
          obtain ⟨z, hz1, _, _⟩ := HNT.out i hil
          obtain ⟨y, hy1, _, _⟩ := HNT.out ((i + 1) % l.length) hml
          have cx := (HB7.out.cell (p := ⟨bi, oi + i, none⟩) (by rw [HGA.out]; exact hbi)).trans (hcv i hil)
          have cy := (HB7.out.cell (p := ⟨bi, oi + (i + 1) % l.length, none⟩) (by rw [HGA.out]; exact hbi)).trans (hcv _ hml)
          rw [hz1] at cx
          rw [hy1] at cy
          have hmd : Int.tmod ((i : Int) + 1) (l.length : Int) = (((i + 1) % l.length : Nat) : Int) := by
            rw [Int.tmod_eq_emod_of_nonneg (by omega)]; simp
          have hml' : ((((i + 1) % l.length : Nat)) : Int) < l.length := by omega
          have hl0 : ¬ (l.length : Int) = 0 := by omega
          have HS := Lib.hid (hitT_succ (h := h) hil)
          rw [hz1] at HS
          have HY := Lib.hid (show z = h → y = y0 from fun e => by
            have := HSG.out i hil (by rw [hz1, e])
            rw [List.getD_eq_getElem?_getD, List.getElem?_eq_getElem hml, Option.getD_some, hy1, Int.toNat_natCast] at this
            exact this.symm)
          generalize (i + 1) % l.length = m at *
          clear hcv hz1 hy1
          by_cases hzh : z = h
          · subst hzh
            have hyy := HY.out rfl
            subst hyy
            have hzz : ((z : Int) != (z : Int)) = false := by simp
            have HS2 := Lib.hid (HS.out.2 (.inr rfl))
            have hKD : kd = K ∨ kd = 0 := by
              by_cases e : hitT l z i
              · exact .inl (HYES.out e)
              · exact .inr (HNO.out e)
            have hKE := HKE.out
            unfold kindF at hKE
            have z3 : wr.cell? ⟨gA, 3, none⟩ = some (.int .i64 kd) := by rw [HBL.out.cell 3]; rfl
            have f3 := HBL.out.frozen 3
            have hst : ∀ v : Nat, Blk (wr.setCell ⟨gA, 3, none⟩ (.int .i64 v)) gA 101 (qC (z, x, 0, v)).toArray := fun v => by
              have := HBL.out.set_ 3 (.int .i64 v)
              simpa [qC] using this
            have HST := Lib.hid hst
            have HB8 := Lib.hid (fun v => HB7.out.setCell (p := ⟨gA, 3, none⟩) (Nat.le_refl _) v)
            have hr : Int.tmod (z : Int) 2 = ((z % 2 : Nat) : Int) := by rw [Int.tmod_eq_emod_of_nonneg (by omega)]; omega
            have hry : Int.tmod (y : Int) 2 = ((y % 2 : Nat) : Int) := by rw [Int.tmod_eq_emod_of_nonneg (by omega)]; omega
            clear hst
            rcases Nat.mod_two_eq_zero_or_one z with h1 | h1 <;> rcases Nat.mod_two_eq_zero_or_one y with h2 | h2
            · have HKK := Lib.hid (show K = 1 by rw [hKE, if_pos ⟨h1, h2⟩])
              rw [h1] at hr
              rw [h2] at hry
              clear h1 h2 hKE hKD
              go_wp2_with fail
              go_roundg (l.length - (i + 1))
              case measure => rw [Hk2.out]; omega
              case rel => exact ⟨i + 1, 1, by go_num, by omega, rfl, HB8.out _, HST.out 1, fun _ => HKK.out.symm, fun e => absurd HS2.out e⟩
            · have HKK := Lib.hid (show K = 0 by rw [hKE, if_neg (by omega), if_neg (by omega)])
              have HK0 := Lib.hid (show kd = 0 by have := HKK.out; omega)
              rw [h1] at hr
              rw [h2] at hry
              clear h1 h2 hKE hKD
              go_wp2_with fail
              go_roundg (l.length - (i + 1))
              case measure => rw [Hk2.out]; omega
              case rel => exact ⟨i + 1, kd, by go_num, by omega, rfl, HB7.out, HBL.out, fun _ => by rw [HKK.out, HK0.out], fun e => absurd HS2.out e⟩
            · have HKK := Lib.hid (show K = 0 by rw [hKE, if_neg (by omega), if_neg (by omega)])
              have HK0 := Lib.hid (show kd = 0 by have := HKK.out; omega)
              rw [h1] at hr
              rw [h2] at hry
              clear h1 h2 hKE hKD
              go_wp2_with fail
              go_roundg (l.length - (i + 1))
              case measure => rw [Hk2.out]; omega
              case rel => exact ⟨i + 1, kd, by go_num, by omega, rfl, HB7.out, HBL.out, fun _ => by rw [HKK.out, HK0.out], fun e => absurd HS2.out e⟩
            · have HKK := Lib.hid (show K = 2 by rw [hKE, if_neg (by omega), if_pos ⟨h1, h2⟩])
              rw [h1] at hr
              rw [h2] at hry
              clear h1 h2 hKE hKD
              go_wp2_with fail
              go_roundg (l.length - (i + 1))
              case measure => rw [Hk2.out]; omega
              case rel => exact ⟨i + 1, 2, by go_num, by omega, rfl, HB8.out _, HST.out 2, fun _ => HKK.out.symm, fun e => absurd HS2.out e⟩
          · have hzz : ((z : Int) != (h : Int)) = true := by rw [bne_iff_ne]; omega
            have HS2 := Lib.hid (show hitT l h (i + 1) ↔ hitT l h i from by
              rw [HS.out]
              exact ⟨fun e => e.resolve_right (by omega), .inl⟩)
            clear hzh
            go_wp2_with fail
            go_roundg (l.length - (i + 1))
            case measure => rw [Hk2.out]; omega
            case rel => exact ⟨i + 1, kd, by go_num, by omega, rfl, HB7.out, HBL.out, fun e => HYES.out (HS2.out.1 e), fun e => HNO.out (fun e2 => e (HS2.out.2 e2))⟩
        · have hie : i = l.length := by omega
          have hil' : ¬ (i : Int) < l.length := by omega
          have hkd := HYES.out (by rw [hie]; exact HPOS.out)
          subst hkd
          have hr : Int.tmod (h : Int) 2 = (h : Int) % 2 := by rw [Int.tmod_eq_emod_of_nonneg (by omega)]
          clear hie
          obtain ⟨w7, rfl⟩ : ∃ q, q = wr := ⟨_, rfl⟩
          go_upto_region 19 with fail
          rw [← hot]
          have HHF := Lib.hid (fun (w' : World) (hb : Below gA w5 w') => (HH.out.keep (by have := hb.size; omega) (fun p h1 h2 => World.cell?_of_block ((hb.block p.block (by rw [HGA.out]; omega)).trans ((HB5.out.block p.block (by omega)).trans (HKP.out _ h1 h2)))) : RowsHi w' w2.heap.size A6 F))
          have hFl2 : F.length ≤ 1000 := by omega
          clear hr hot
          go_wp2_with fail
          go_loopg [14] F.length (fun k s14 wr => ∃ f : Nat, s14 = .int .i64 f ∧ f ≤ F.length ∧ k = F.length - f ∧ Below gA w5 wr ∧ Blk wr gA 101 (qC (h, x, faceU F f o, kd)).toArray)
          case atStart => exact ⟨0, rfl, Nat.zero_le _, rfl, HB7.out, HBL.out⟩
          case round =>
            obtain ⟨f, rfl, hf, hk2, hb, hbl⟩ := hrel
            have Hk3 := Lib.hid hk2
            have HB8 := Lib.hid hb
            have HBL8 := Lib.hid hbl
            clear hk2 hb hbl
            by_cases hfl : f < F.length
            · have hfl' : (f : Int) < F.length := by omega
              have HGD := Lib.hid (show F.getD f [] = F[f] by rw [List.getD_eq_getElem?_getD, List.getElem?_eq_getElem hfl]; rfl)
              have HFL := Lib.hid (HFLEN.out f hfl)
              have HFI := Lib.hid (fun (w' : World) (hb : Below gA w5 w') => (by
                obtain ⟨b, off, e, h1, h2, hc⟩ := HHF.out w' hb (by omega)
                obtain ⟨Ai, ci, h3, h4⟩ := hc f hfl
                exact ⟨b, off, e, Ai, ci, h3, fun hp => by
                  obtain ⟨bi, oi, e2, _, _, h7⟩ := h4 hp
                  exact ⟨bi, oi, e2, h7⟩⟩ : ∃ b off, A6 = some ⟨b, off, none⟩ ∧ ∃ Ai ci, w'.cell? ⟨b, off + f, none⟩ = some (.slice Ai F[f].length ci) ∧ (0 < F[f].length → ∃ bi oi, Ai = some ⟨bi, oi, none⟩ ∧ ∀ j (hj : j < F[f].length), w'.cell? ⟨bi, oi + j, none⟩ = some (.int .i64 F[f][j]))))
              have hfll : F[f].length ≤ 1000 := by have := HFL.out; omega
              generalize F[f] = fl at *
              go_wp2_with fail
              go_loopg [15] fl.length (fun k s15 wr => ∃ i : Nat, s15 = .int .i64 i ∧ i ≤ fl.length ∧ k = fl.length - i ∧ Below gA w5 wr ∧ Blk wr gA 101 (qC (h, x, if (o : Int) ∈ fl.take i then f else faceU F f o, kd)).toArray)
              case atStart => exact ⟨0, rfl, Nat.zero_le _, rfl, HB8.out, by simpa using HBL8.out⟩
              case round =>
                obtain ⟨i, rfl, hi, hk2, hb, hbl⟩ := hrel
                have Hk4 := Lib.hid hk2
                have HB9 := Lib.hid hb
                have HBL9 := Lib.hid hbl
                clear hk2 hb hbl
                obtain ⟨b6, o6, rfl, Aj, cj, zj, hcj⟩ := HFI.out wr HB9.out
                by_cases hil : i < fl.length
                · have hil' : (i : Int) < fl.length := by omega
                  obtain ⟨bi, oi, rfl, hcv⟩ := hcj (by omega)
                  have cx := hcv i hil
                  have HTK := Lib.hid (show ∀ o : Int, o ∈ fl.take (i + 1) ↔ o ∈ fl.take i ∨ o = fl[i] from fun o => by
                    rw [List.take_succ_eq_append_getElem hil, List.mem_append, List.mem_singleton])
                  generalize fl[i] = z at *
                  clear hcv hcj
                  by_cases hzo : z = (o : Int)
                  · subst hzo
                    have z2 : wr.cell? ⟨gA, 2, none⟩ = some (.int .i64 ((if (o : Int) ∈ fl.take i then f else faceU F f o : Nat) : Int)) := by rw [HBL9.out.cell 2]; rfl
                    have f2 := HBL9.out.frozen 2
                    have HST := Lib.hid (show Blk (wr.setCell ⟨gA, 2, none⟩ (.int .i64 f)) gA 101 (qC (h, x, if (o : Int) ∈ fl.take (i + 1) then f else faceU F f o, kd)).toArray by
                      rw [if_pos ((HTK.out _).2 (.inr rfl))]
                      have := HBL9.out.set_ 2 (.int .i64 f)
                      simpa [qC] using this)
                    have HB10 := Lib.hid (HB9.out.setCell (p := ⟨gA, 2, none⟩) (Nat.le_refl _) (.int .i64 f))
                    have hoo : ((o : Int) == (o : Int)) = true := by simp
                    generalize (if (o : Int) ∈ fl.take i then f else faceU F f o) = old at *
                    go_wp2_with fail
                    go_roundg (fl.length - (i + 1))
                    case measure => rw [Hk4.out]; omega
                    case rel => exact ⟨i + 1, by go_num, by omega, rfl, HB10.out, HST.out⟩
                  · have hzo' : (z == (o : Int)) = false := by rw [beq_eq_false_iff_ne]; exact hzo
                    have HST := Lib.hid (show Blk wr gA 101 (qC (h, x, if (o : Int) ∈ fl.take (i + 1) then f else faceU F f o, kd)).toArray by
                      have e : ((o : Int) ∈ fl.take (i + 1)) ↔ ((o : Int) ∈ fl.take i) := by
                        rw [HTK.out]
                        exact ⟨fun e => e.resolve_right (fun e => hzo e.symm), .inl⟩
                      simp only [e]
                      exact HBL9.out)
                    clear hzo
                    go_wp2_with fail
                    go_roundg (fl.length - (i + 1))
                    case measure => rw [Hk4.out]; omega
                    case rel => exact ⟨i + 1, by go_num, by omega, rfl, HB9.out, HST.out⟩
                · have hie : i = fl.length := by omega
                  have hil' : ¬ (i : Int) < fl.length := by omega
                  have HST := Lib.hid (show Blk wr gA 101 (qC (h, x, faceU F (f + 1) o, kd)).toArray by
                    have h1 := HBL9.out
                    rw [hie, List.take_length] at h1
                    rw [faceU_succ, HGD.out]
                    simpa using h1)
                  clear hie hcj
                  go_wp2_with fail
                  go_roundg (F.length - (f + 1))
                  case measure => rw [Hk3.out]; omega
                  case rel => exact ⟨f + 1, by go_num, by omega, rfl, HB9.out, HST.out⟩
            · have hfe : f = F.length := by omega
              have hfl' : ¬ (f : Int) < F.length := by omega
              have HBL9 := Lib.hid (show Blk wr gA 101 (qC (angQ n es rs h)).toArray by rw [HAQ.out, ← hfe]; exact HBL8.out)
              obtain ⟨fv, hfv⟩ : ∃ fv, fv = faceU F f o := ⟨_, rfl⟩
              have HQ := Lib.hid (show angQ n es rs h = (h, x, fv, kd) by rw [HAQ.out, hfv, hfe])
              clear hfe hfv
              rw [HQ.out] at HBL9
              have z0 : wr.cell? ⟨gA, 0, none⟩ = some (.int .i64 h) := by rw [HBL9.out.cell 0]; rfl
              have z1 : wr.cell? ⟨gA, 1, none⟩ = some (.int .i64 x) := by rw [HBL9.out.cell 1]; rfl
              have z2 : wr.cell? ⟨gA, 2, none⟩ = some (.int .i64 fv) := by rw [HBL9.out.cell 2]; rfl
              have z3 : wr.cell? ⟨gA, 3, none⟩ = some (.int .i64 kd) := by rw [HBL9.out.cell 3]; rfl
              have hzw := HB8.out.size
              have hgw1 : g ≤ wr.heap.size := by omega
              have HBR := Lib.hid (show Below g w1 wr from HB.out.trans ((HB5.out.trans (HB8.out.mono (by rw [HGA.out]; omega))).mono (by omega)))
              have HOWR := Lib.hid (own_below (own_below HOW.out HB5.out (Nat.le_refl _)) HB8.out (by rw [HGA.out]; exact Nat.le_refl _))
              have HKPR := Lib.hid (show ∀ k, w2.heap.size ≤ k → k < w3.heap.size → wr.heap[k]? = w3.heap[k]? from fun k h1 h2 => (HB8.out.block k (by rw [HGA.out]; omega)).trans ((HB5.out.block k (by omega)).trans (HKP.out k h1 h2)))
              have hzA := World.size_alloc wr (.cells #[.int .i64 (h : Int), .int .i64 (x : Int), .int .i64 (fv : Int), .int .i64 (kd : Int)] 101)
              have hwz : w3.heap.size ≤ wr.heap.size := by omega
              go_wp2_with (at_builtin; refine wp_app elemAngR rfl _ _ rfl g (.slice A5 h c5) _ _ rfl wr.heap.size [.int .i64 (h : Int), .int .i64 (x : Int), .int .i64 (fv : Int), .int .i64 (kd : Int)] rfl rfl HOWR.out rfl rfl ?x2 ?x3 ?x4 ?_)
              case x2 => omega
              case x3 => omega
              try (case x4 => omega)
              intro v10 w10 ho10 hg10 hb10
              have HBX := Lib.hid (below_app HBR.out HOWR.out hg10 hgw1 (Nat.le_refl _))
              have HOX := Lib.hid (show w10.ownsRow g 101 4 v10 (h + 1) (qCells (angT n es rs (h + 1))) by
                rw [angT_succ, qCells_append, HQ.out]
                simpa [qCells, qC] using ho10)
              have HKX := Lib.hid (show ∀ k, w2.heap.size ≤ k → k < w3.heap.size → w10.heap[k]? = w3.heap[k]? from fun k h1 h2 => (hg10.block k (by omega) (fun e => by have := HOB.out k e.symm; omega)).trans (HKPR.out k h1 h2))
              have HOBX := Lib.hid (show ∀ k, v10.ownBlock = some k → k < w2.heap.size ∨ w3.heap.size ≤ k from fun k hk => by
                rcases hb10 with e | e
                · exact HOB.out k (e ▸ hk)
                · rw [e] at hk; injection hk with hk; exact .inr (by omega))
              have hz10 := hg10.size
              have HZ10 := Lib.hid (show w3.heap.size ≤ w10.heap.size by omega)
              clear ho10 hg10 hb10 z0 z1 z2 z3
              go_wp2_with fail
              go_roundg (2 * es.length - (h + 1))
              case measure => rw [Hk.out]; omega
              case rel => exact ⟨h + 1, by go_num, by omega, rfl, HBX.out, HZ10.out, HKX.out, HOX.out, HOBX.out⟩
    · have hhe : h = 2 * es.length := by omega
      have hhl' : ¬ (h : Int) < 2 * (es.length : Int) := by omega
      have HC := Lib.hid (show Cells wr wr.heap.size A5 (qCells (angL n es rs)) by
        have h1 := Cells.of_own HOW.out
        rw [hhe] at h1
        exact h1)
      clear hhe
      go_wp2_with fail
      go_ret
      refine ⟨A5, c5, ?_, S4.out.below, HC.out, fun p hp => Nat.le_trans (Nat.le_of_lt S1.out.lt) (by rw [← HGE.out]; exact own_ge HOW.out p hp)⟩
      have e : (angL n es rs).length = h := by simp [angL]; omega
      rw [e]
      rfl
end Go.Proofs.YtelcofkjpkdjiaaGreat
/-
  arborref06.Bimodal: what it computes. Written by an AI agent.
-/
namespace Go.Proofs.YtelcofkjpkdjiaaGreat
open Go.RowKit

theorem Cells.quads {w : World} {B : Nat} {A : Option Addr} {Q : List (Nat × Nat × Nat × Nat)} (h : Cells w B A (qCells Q)) (hn : 0 < Q.length) :
    ∃ b off, A = some ⟨b, off, none⟩ ∧ b < B ∧ ∀ k (hk : k < Q.length), w.cell? ⟨b, off + k * 4, none⟩ = some (.int .i64 Q[k].1) ∧ w.cell? ⟨b, off + k * 4 + 1, none⟩ = some (.int .i64 Q[k].2.1) ∧ w.cell? ⟨b, off + k * 4 + 2, none⟩ = some (.int .i64 Q[k].2.2.1) ∧ w.cell? ⟨b, off + k * 4 + 3, none⟩ = some (.int .i64 Q[k].2.2.2) := by
  obtain ⟨b, off, e, hb, hc⟩ := h (by rw [qCells_length]; omega)
  refine ⟨b, off, e, hb, fun k hk => ?_⟩
  have a0 := hc _ _ ((qCells_at Q k hk 0 (by omega)).trans rfl)
  have a1 := hc _ _ ((qCells_at Q k hk 1 (by omega)).trans rfl)
  have a2 := hc _ _ ((qCells_at Q k hk 2 (by omega)).trans rfl)
  have a3 := hc _ _ ((qCells_at Q k hk 3 (by omega)).trans rfl)
  simp only [Nat.add_zero, ← Nat.add_assoc] at a0 a1 a2 a3
  exact ⟨a0, a1, a2, a3⟩
theorem angL_length (n : Int) (es : List (Int × Int)) (rs : List (List Int)) : (angL n es rs).length = 2 * es.length := by simp [angL]
end Go.Proofs.YtelcofkjpkdjiaaGreat
