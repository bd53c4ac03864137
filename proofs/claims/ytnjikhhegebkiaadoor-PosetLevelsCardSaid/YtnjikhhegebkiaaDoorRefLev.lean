/-
  arborref17.Levels: what it computes. (Printed by reflev.py.) Written by an AI agent.
-/
import Derived.Test.YtnjikhhegebkiaaDoorLev
namespace Go.Proofs.YtnjikhhegebkiaaDoor
open Go.RowKit

def rngL (m : Nat) : List Int := (List.range m).map fun i : Nat => (i : Int)
theorem rngL_length (m : Nat) : (rngL m).length = m := by simp [rngL]
theorem relaxL_succ (es : List (Int × Int)) (L : List Int) (j : Nat) : relaxL es L (rngL (j + 1)) = relaxE es (relaxL es L (rngL j)) j := by
  unfold relaxL rngL
  rw [List.range_succ, List.map_append, List.foldl_append]
  rfl
set_option maxRecDepth 20000 in
set_option maxHeartbeats 4000000 in
theorem levels_ref (n : Nat) (A : Option Addr) (cap : Nat) (es : List (Int × Int)) (w : World) (hes : Cells w w.heap.size A (edgeCells es)) (hE : EdgesIn n es) (hn : n ≤ 64) (hl : es.length ≤ 1000) :
    Calls Tryd.prog 19 #[.agg #[.int .i64 n, .slice A es.length cap]] w (fun e w' => ∃ v, e = .returned v ∧ Below w.heap.size w w' ∧ w'.ownsRow w.heap.size 3 1 v n (intCells (levR es n (List.replicate n 0)))) := by
  have b0 := Blk.new w 24 #[.int .i64 n, .slice A es.length cap]
  have hbw := (Below.refl w.heap.size w).alloc (Nat.le_refl _) (.cells #[.int .i64 n, .slice A es.length cap] 24)
  have s1 := World.size_alloc w (.cells #[.int .i64 n, .slice A es.length cap] 24)
  have HE := Lib.hid hE
  have HESA := Lib.hid ((hes.below hbw).more hbw.size)
  clear hE hes
  go_enter Tryd.func19, Tryd.ntmps19
  go_upto_region 1 with fail
  generalize w.alloc (.cells #[.int .i64 n, .slice A es.length cap] 24) = w1 at *
  have HB0 := Lib.hid b0
  have HW1 := Lib.hid hbw
  have g0 : w1.cell? ⟨w.heap.size, 0, none⟩ = some (.int .i64 n) := b0.cell 0
  have l1 : w.heap.size < w1.heap.size := by omega
  clear b0 hbw s1
  have hmk := fun W => run_make1 elemInt rfl n (by omega) (by omega) W
  have HB3 := Lib.hid (Blk.new w1 3 (Array.replicate n (.int .i64 0)))
  have HW3 := Lib.hid ((Below.refl w1.heap.size w1).alloc (Nat.le_refl _) (.cells (Array.replicate n (.int .i64 0)) 3))
  have hz3 := World.size_alloc w1 (.cells (Array.replicate n (.int .i64 0)) 3)
  go_wp2_with fail
  generalize w1.alloc (.cells (Array.replicate n (.int .i64 0)) 3) = w3 at *
  generalize hg : w1.heap.size = g at *
  have HZ := Lib.hid (show Blk w3 g 3 ((intCells (levR es 0 (List.replicate n 0))).toArray ++ #[]) by
    have := HB3.out
    simpa [levR, intCells] using this)
  have hgw : g < w3.heap.size := by omega
  clear g0
  go_loopg [4] n (fun k s4 wr => ∃ i : Nat, s4 = .int .i64 i ∧ i ≤ n ∧ k = n - i ∧ Below g w1 wr ∧ Bd (i * es.length) (levR es i (List.replicate n 0)) ∧ Blk wr g 3 ((intCells (levR es i (List.replicate n 0))).toArray ++ #[]))
  case atStart => exact ⟨0, rfl, Nat.zero_le _, rfl, HW3.out, by rw [Nat.zero_mul]; exact Bd.zero n, HZ.out⟩
  case round =>
    obtain ⟨i0, rfl, hi, hk, hb, hbd, hbl⟩ := hrel
    have Hk := Lib.hid hk
    have HB := Lib.hid hb
    have HBD := Lib.hid hbd
    have HBL := Lib.hid hbl
    have hgr := hbl.lt
    have g0 : wr.cell? ⟨w.heap.size, 0, none⟩ = some (.int .i64 n) := (hb.cell (p := ⟨w.heap.size, 0, none⟩) (by simp; omega)).trans (HB0.out.cell 0)
    clear hk hb hbd hbl
    by_cases hlt : i0 < n
    · have hlt' : (i0 : Int) < n := by omega
      obtain ⟨L0, hL0⟩ : ∃ z, z = levR es i0 (List.replicate n 0) := ⟨_, rfl⟩
      rw [← hL0] at HBL HBD
      have hL0l : L0.length = n := by rw [hL0, levR_length]; simp
      have HL0 := Lib.hid hL0
      have hmn : i0 * es.length ≤ 64 * 1000 := Nat.mul_le_mul (by omega) hl
      have HBL0 := Lib.hid (show Blk wr g 3 ((intCells (relaxL es L0 (rngL 0))).toArray ++ #[]) from HBL.out)
      clear hL0
      go_wp2_with fail
      obtain ⟨w4, rfl⟩ : ∃ y, y = wr := ⟨_, rfl⟩
      clear g0
      go_loopg [5] es.length (fun k s5 wr => ∃ j : Nat, s5 = .int .i64 j ∧ j ≤ es.length ∧ k = es.length - j ∧ Below g w1 wr ∧ Blk wr g 3 ((intCells (relaxL es L0 (rngL j))).toArray ++ #[]))
      case atStart => exact ⟨0, rfl, Nat.zero_le _, rfl, HB.out, HBL0.out⟩
      case round =>
        obtain ⟨j, rfl, hj, hk2, hb, hbj⟩ := hrel
        have Hk2 := Lib.hid hk2
        have HBW := Lib.hid hb
        have HBJ0 := Lib.hid hbj
        have hgr2 := hbj.lt
        have g1 : wr.cell? ⟨w.heap.size, 1, none⟩ = some (.slice A es.length cap) := (hb.cell (p := ⟨w.heap.size, 1, none⟩) (by simp; omega)).trans (HB0.out.cell 1)
        clear hk2 hb hbj
        by_cases hjl : j < es.length
        · have hjl' : (j : Int) < es.length := by omega
          obtain ⟨b, off, hAv, hbb, hcc⟩ := HESA.out.edges (by omega)
          obtain ⟨c0, c1⟩ := hcc j hjl
          obtain ⟨q0, q1, q2, q3⟩ := HE.out es[j] (List.getElem_mem hjl)
          obtain ⟨t, ht⟩ : ∃ t : Nat, es[j].1 = (t : Int) := ⟨es[j].1.toNat, by omega⟩
          obtain ⟨x, hx⟩ : ∃ x : Nat, es[j].2 = (x : Int) := ⟨es[j].2.toNat, by omega⟩
          rw [ht] at c0
          rw [hx] at c1
          have hbb : b < g := by omega
          have c0' := (HBW.out.cell (p := ⟨b, off + j * 2, none⟩) hbb).trans c0
          have c1' := (HBW.out.cell (p := ⟨b, off + j * 2 + 1, none⟩) hbb).trans c1
          have htn' : (t : Int) < n := by omega
          have hxn' : (x : Int) < n := by omega
          obtain ⟨Lj, hLj⟩ : ∃ z, z = relaxL es L0 (rngL j) := ⟨_, rfl⟩
          have hLjl : Lj.length = n := by rw [hLj, relaxL_length]; exact hL0l
          rw [← hLj] at HBJ0
          have hbd : Bd (i0 * es.length + j) Lj := by
            rw [hLj]
            have := Bd.list (es := es) (rngL j) _ L0 HBD.out
            rw [rngL_length] at this
            exact this
          obtain ⟨a, ha⟩ : ∃ a, a = Lj.getD x 0 := ⟨_, rfl⟩
          obtain ⟨v, hv⟩ : ∃ v, v = Lj.getD t 0 := ⟨_, rfl⟩
          have HCX := Lib.hid (show ((intCells Lj).toArray ++ #[])[x]? = some (.int .i64 a) by rw [ha, ← HBJ0.out.cell x]; exact HBJ0.out.intR (by omega))
          have HCT := Lib.hid (show ((intCells Lj).toArray ++ #[])[t]? = some (.int .i64 v) by rw [hv, ← HBJ0.out.cell t]; exact HBJ0.out.intR (by omega))
          have vb := hbd t
          rw [← hv] at vb
          have hwv : IntKind.i64.wrap (v + 1) = v + 1 := by rw [IntKind.wrap_i64]; omega
          have HLJ1 := Lib.hid (show relaxL es L0 (rngL (j + 1)) = Lj.set x (max a (v + 1)) by
            rw [relaxL_succ, ← hLj, relaxE]
            have e1 : (hd es (j : Int)).toNat = x := by unfold hd; simp only [Int.toNat_natCast]; rw [List.getD_eq_getElem?_getD, List.getElem?_eq_getElem hjl]; simp [hx]
            have e2 : (tl es (j : Int)).toNat = t := by unfold tl; simp only [Int.toNat_natCast]; rw [List.getD_eq_getElem?_getD, List.getElem?_eq_getElem hjl]; simp [ht]
            rw [e1, e2, ha, hv])
          obtain ⟨D1, hD1⟩ : ∃ D, D = (intCells (Lj.set x (max a (v + 1)))).toArray ++ #[] := ⟨_, rfl⟩
          have HD1 := Lib.hid (fun (wv : World) (h : Blk wv g 3 ((intCells Lj).toArray ++ #[])) => (by rw [hD1]; exact h.setIntR x (max a (v + 1)) (by omega) : Blk (wv.setCell ⟨g, x, none⟩ (.int .i64 (max a (v + 1)))) g 3 D1))
          have HDE := Lib.hid hD1
          subst hAv
          have HGE0 := Lib.hid (Blk.new wr 40 #[.int .i64 t, .int .i64 x])
          have HW4 := Lib.hid (HBW.out.alloc (by omega) (.cells #[.int .i64 t, .int .i64 x] 40))
          have HBJ := Lib.hid (HBJ0.out.alloc (.cells #[.int .i64 t, .int .i64 x] 40))
          have hz4 := World.size_alloc wr (.cells #[.int .i64 t, .int .i64 x] 40)
          clear hcc c0 c1 q0 q1 q2 q3 ht hx hLj ha hv hbd vb hD1 HBJ0
          go_upto_region 9 with fail
          generalize wr.alloc (.cells #[.int .i64 t, .int .i64 x] 40) = w5 at *
          generalize hge : wr.heap.size = ge at *
          have HGE := Lib.hid (show Blk w5 ge 40 #[.int .i64 t, .int .i64 x] from HGE0.out)
          refine R3.wp_region_i g [[], [3]] [0, 0, 0, 0, 0, 0, 0, 0, 0, 0, 0, 0, 0, 0, 0, 0, 1]
            [([], .val (.slice (some ⟨g, 0, none⟩) n n)), ([], .val (.pointer (some ⟨ge, 1, none⟩))), ([1], .val (.int .i64 x)), ([], .val (.slice (some ⟨g, 0, none⟩) n n)), ([], .val (.pointer (some ⟨ge, 1, none⟩))), ([4], .val (.int .i64 x)), ([3, 5], .val (.pointer (some ⟨g, x, none⟩))), ([6], .val (.int .i64 a)), ([], .val (.slice (some ⟨g, 0, none⟩) n n)), ([], .val (.pointer (some ⟨ge, 0, none⟩))), ([9], .val (.int .i64 t)), ([8, 10], .val (.pointer (some ⟨g, t, none⟩))), ([11], .val (.int .i64 v)), ([12], .val (.int .i64 (v + 1))), ([7, 13], .val (.int .i64 (max a (v + 1)))), ([0, 2], .val (.pointer (some ⟨g, x, none⟩))), ([15, 14], pfB g 3 D1)] [16] (by kernel_rfl) (by kernel_rfl) (fun us => ?_) ?_
          · refine R3.pgo_pure _ rfl rfl (fun wv hw hu => ⟨.slice (some ⟨g, 0, none⟩) n n, ?_, rfl⟩) ?_
            · have tok := True.intro
              clear hw hu
              go_simp
            refine R3.pgo_pure _ rfl rfl (fun wv hw hu => ⟨.pointer (some ⟨ge, 1, none⟩), ?_, rfl⟩) ?_
            · have tok := True.intro
              clear hw hu
              go_simp
            refine R3.pgo_pure _ rfl rfl (fun wv hw hu => ⟨.int .i64 x, ?_, rfl⟩) ?_
            · have tok := True.intro
              have h1 : us 1 = .pointer (some ⟨ge, 1, none⟩) := hu.1
              have zy : wv.cell? ⟨ge, 1, none⟩ = some (.int .i64 x) := (HGE.out.drew.evo hw (.inr (of_decide_eq_true (by kernel_rfl)))).cell 1
              clear hw hu
              go_simp
            refine R3.pgo_pure _ rfl rfl (fun wv hw hu => ⟨.slice (some ⟨g, 0, none⟩) n n, ?_, rfl⟩) ?_
            · have tok := True.intro
              clear hw hu
              go_simp
            refine R3.pgo_pure _ rfl rfl (fun wv hw hu => ⟨.pointer (some ⟨ge, 1, none⟩), ?_, rfl⟩) ?_
            · have tok := True.intro
              clear hw hu
              go_simp
            refine R3.pgo_pure _ rfl rfl (fun wv hw hu => ⟨.int .i64 x, ?_, rfl⟩) ?_
            · have tok := True.intro
              have h4 : us 4 = .pointer (some ⟨ge, 1, none⟩) := hu.1
              have zy : wv.cell? ⟨ge, 1, none⟩ = some (.int .i64 x) := (HGE.out.drew.evo hw (.inr (of_decide_eq_true (by kernel_rfl)))).cell 1
              clear hw hu
              go_simp
            refine R3.pgo_pure _ rfl rfl (fun wv hw hu => ⟨.pointer (some ⟨g, x, none⟩), ?_, rfl⟩) ?_
            · have tok := True.intro
              have h3 : us 3 = .slice (some ⟨g, 0, none⟩) n n := hu.1
              have h5 : us 5 = .int .i64 x := hu.2.1
              clear hw hu
              go_simp
            refine R3.pgo_pure _ rfl rfl (fun wv hw hu => ⟨.int .i64 a, ?_, rfl⟩) ?_
            · have tok := True.intro
              have h6 : us 6 = .pointer (some ⟨g, x, none⟩) := hu.1
              have zy : wv.cell? ⟨g, x, none⟩ = some (.int .i64 a) := (HBJ.out.drew.evo hw (.inr (of_decide_eq_true (by kernel_rfl)))).cell x |>.trans HCX.out
              clear hw hu
              go_simp
            refine R3.pgo_pure _ rfl rfl (fun wv hw hu => ⟨.slice (some ⟨g, 0, none⟩) n n, ?_, rfl⟩) ?_
            · have tok := True.intro
              clear hw hu
              go_simp
            refine R3.pgo_pure _ rfl rfl (fun wv hw hu => ⟨.pointer (some ⟨ge, 0, none⟩), ?_, rfl⟩) ?_
            · have tok := True.intro
              clear hw hu
              go_simp
            refine R3.pgo_pure _ rfl rfl (fun wv hw hu => ⟨.int .i64 t, ?_, rfl⟩) ?_
            · have tok := True.intro
              have h9 : us 9 = .pointer (some ⟨ge, 0, none⟩) := hu.1
              have zy : wv.cell? ⟨ge, 0, none⟩ = some (.int .i64 t) := (HGE.out.drew.evo hw (.inr (of_decide_eq_true (by kernel_rfl)))).cell 0
              clear hw hu
              go_simp
            refine R3.pgo_pure _ rfl rfl (fun wv hw hu => ⟨.pointer (some ⟨g, t, none⟩), ?_, rfl⟩) ?_
            · have tok := True.intro
              have h8 : us 8 = .slice (some ⟨g, 0, none⟩) n n := hu.1
              have h10 : us 10 = .int .i64 t := hu.2.1
              clear hw hu
              go_simp
            refine R3.pgo_pure _ rfl rfl (fun wv hw hu => ⟨.int .i64 v, ?_, rfl⟩) ?_
            · have tok := True.intro
              have h11 : us 11 = .pointer (some ⟨g, t, none⟩) := hu.1
              have zy : wv.cell? ⟨g, t, none⟩ = some (.int .i64 v) := (HBJ.out.drew.evo hw (.inr (of_decide_eq_true (by kernel_rfl)))).cell t |>.trans HCT.out
              clear hw hu
              go_simp
            refine R3.pgo_pure _ rfl rfl (fun wv hw hu => ⟨.int .i64 (v + 1), ?_, rfl⟩) ?_
            · have tok := True.intro
              have h12 : us 12 = .int .i64 v := hu.1
              clear hw hu
              go_simp
            refine R3.pgo_pure _ rfl rfl (fun wv hw hu => ⟨.int .i64 (max a (v + 1)), ?_, rfl⟩) ?_
            · have tok := True.intro
              have h7 : us 7 = .int .i64 a := hu.1
              have h13 : us 13 = .int .i64 (v + 1) := hu.2.1
              have hmx : (if a < v + 1 then v + 1 else a) = max a (v + 1) := by split <;> omega
              clear hw hu
              go_simp
            refine R3.pgo_pure _ rfl rfl (fun wv hw hu => ⟨.pointer (some ⟨g, x, none⟩), ?_, rfl⟩) ?_
            · have tok := True.intro
              have h0 : us 0 = .slice (some ⟨g, 0, none⟩) n n := hu.1
              have h2 : us 2 = .int .i64 x := hu.2.1
              clear hw hu
              go_simp
            refine R3.pgo_skip _ rfl rfl (fun wv hw hu => ?_) ?_
            · have tok := True.intro
              have h15 : us 15 = .pointer (some ⟨g, x, none⟩) := hu.1
              have h14 : us 14 = .int .i64 (max a (v + 1)) := hu.2.1
              have hbv := (HBJ.out.drew.evo hw (.inr (of_decide_eq_true (by kernel_rfl))))
              have fy := hbv.frozen x
              have zy : wv.cell? ⟨g, x, none⟩ = some (.int .i64 a) := hbv.cell x |>.trans HCX.out
              refine ⟨wv.setCell ⟨g, x, none⟩ (.int .i64 (max a (v + 1))), ?_, Evo.set_ hbv (by simp) (Nat.le_refl _) x _, HD1.out wv hbv⟩
              clear hw hu
              clear hbv
              go_simp
            trivial
          · intro us w6 hw hu
            have hb6 : Blk w6 g 3 D1 := hu.1
            have HB6 := Lib.hid (show Blk w6 g 3 ((intCells (relaxL es L0 (rngL (j + 1)))).toArray ++ #[]) by rw [HLJ1.out, ← HDE.out]; exact hb6)
            have HW6 := Lib.hid (HW4.out.trans (below_undrew' (hw.below (by simp only [World.size_drew]; omega))))
            clear hw hu hb6
            simp only [lexL]
            go_simp
            go_wp2_with fail
            go_roundg (es.length - (j + 1))
            case measure => rw [Hk2.out]; omega
            case rel => exact ⟨j + 1, by go_num, by omega, rfl, HW6.out, HB6.out⟩
        · have hje : j = es.length := by omega
          have hjl' : ¬ (j : Int) < es.length := by omega
          have HSt := Lib.hid (show levR es (i0 + 1) (List.replicate n 0) = relaxL es L0 (rngL j) by
            rw [hje, HL0.out]; rfl)
          have HBF := Lib.hid (show Blk wr g 3 ((intCells (levR es (i0 + 1) (List.replicate n 0))).toArray ++ #[]) by rw [HSt.out]; exact HBJ0.out)
          have HBdF := Lib.hid (show Bd ((i0 + 1) * es.length) (levR es (i0 + 1) (List.replicate n 0)) by
            rw [HSt.out]
            have := Bd.list (es := es) (rngL j) _ L0 HBD.out
            rw [rngL_length] at this
            refine this.more ?_
            rw [Nat.succ_mul]
            omega)
          clear HBJ0 hje
          go_wp2_with fail
          go_roundg (n - (i0 + 1))
          case measure => rw [Hk.out]; omega
          case rel => exact ⟨i0 + 1, by go_num, by omega, rfl, HBW.out, HBdF.out, HBF.out⟩
    · have hie : i0 = n := by omega
      have hlt' : ¬ (i0 : Int) < n := by omega
      have HF := Lib.hid (show wr.ownsRow w.heap.size 3 1 (.slice (some ⟨g, 0, none⟩) n n) n (intCells (levR es n (List.replicate n 0))) by
        have h1 := HBL.out
        rw [hie] at h1
        refine own_of_blk (xs := intCells (levR es n (List.replicate n 0))) ?_ (by omega) (by simp [intCells, levR_length]) (by omega)
        simpa using h1)
      have HWF := Lib.hid (HW1.out.trans (HB.out.mono (by omega)))
      clear HBL hie
      go_wp2_with fail
      go_ret
      exact ⟨_, rfl, HWF.out, HF.out⟩
end Go.Proofs.YtnjikhhegebkiaaDoor
