/-
  poset.Levels: what it computes. (Printed by levgen.py.) Written by an AI agent.
-/
import Derived.Test.YtnjikhhegebkiaaDoorAsk
import Derived.Test.YtnjikhhegebkiaaDoorLevLaw
namespace Go.Proofs.YtnjikhhegebkiaaDoor
open Go.RowKit

/-- block g holds these; a row is as it was -/
def pfBO {B : Nat} (g : Nat) (D : Array Value) (base : Nat) (v : Value) (m : Nat) (xs : List Value) : PFact B :=
  ⟨[3], [], fun _ _ w => Blk w g 3 D ∧ w.ownsRow base 3 1 v m xs, fun _ hT _ _ _ _ he hb => ⟨hb.1.evo he (.inr (hT _ (by simp))), own_evo hb.2 he (hT _ (by simp))⟩, fun _ _ _ _ _ h => h⟩
theorem evo_nil {B : Nat} {T : List TypeId} {w w' : World} (hT : T = []) (h : Evo B T w w') : Below w.heap.size w w' := ⟨h.os, h.tape, h.output, h.size, fun k hk => h.keep k hk (.inr (fun _ _ _ _ => by subst hT; simp))⟩
/-- the error's number: none, or the argument's -/
def errOf (b : Bool) : Int := if b then 0 else 1
set_option maxRecDepth 20000 in
set_option maxHeartbeats 4000000 in
theorem levels_any (n : Int) (A : Option Addr) (cap : Nat) (es : List (Int × Int)) (w : World) (hes : Cells w w.heap.size A (edgeCells es)) :
    Calls Tryd.prog 16 #[.agg #[.int .i64 n, .slice A es.length cap]] w (fun e w' => ∃ v, e = .returned (.tuple #[v, .int .i64 (errOf (askB n es))]) ∧ Below w.heap.size w w' ∧ (askB n es = true → w'.ownsRow w.heap.size 3 1 v n.toNat (intCells (levF n.toNat es))) ∧ (askB n es = false → v = .slice none 0 0)) := by
  have b0 := Blk.new w 24 #[.int .i64 n, .slice A es.length cap]
  have hbw := (Below.refl w.heap.size w).alloc (Nat.le_refl _) (.cells #[.int .i64 n, .slice A es.length cap] 24)
  have s1 := World.size_alloc w (.cells #[.int .i64 n, .slice A es.length cap] 24)
  have hesa := (hes.below hbw).more hbw.size
  go_enter Tryd.func16, Tryd.ntmps16
  go_upto_region 1 with fail
  generalize w.alloc (.cells #[.int .i64 n, .slice A es.length cap] 24) = w1 at *
  have HW1 := Lib.hid hbw
  have HES := Lib.hid hesa
  have HB0 := Lib.hid b0
  have g0 : w1.cell? ⟨w.heap.size, 0, none⟩ = some (.int .i64 n) := b0.cell 0
  have g1 : w1.cell? ⟨w.heap.size, 1, none⟩ = some (.slice A es.length cap) := b0.cell 1
  have l1 : w.heap.size < w1.heap.size := by omega
  clear hbw b0 hesa hes
  go_wp2_with fail
  refine (asked_any n A cap es w1 HES.out).mono ?_
  rintro e w2 ⟨gv, v, rfl, hb2, hv2⟩
  have HB2 := Lib.hid hb2
  have HV2 := Lib.hid hv2
  have hz2 := hb2.size
  have HW2 := Lib.hid (HW1.out.trans (hb2.mono (Nat.le_of_lt l1)))
  have g0 : w2.cell? ⟨w.heap.size, 0, none⟩ = some (.int .i64 n) := (HB0.out.below hb2 l1).cell 0
  clear hb2 hv2 g1
  cases ha : askB n es with
  | false =>
    have HA := Lib.hid ha
    clear ha
    go_wp2_with fail
    go_ret2
    refine ⟨.slice none 0 0, by rw [HA.out]; rfl, HW2.out, fun h => ?_, fun _ => rfl⟩
    rw [HA.out] at h
    cases h
  | true =>
    obtain ⟨hv, ho⟩ := HV2.out ha
    have hmay : mayB n es = true := by unfold askB at ha; exact (Bool.and_eq_true _ _ ▸ ha).1
    have hord : (orderF es n.toNat).length = n.toNat := by unfold askB at ha; exact of_decide_eq_true (Bool.and_eq_true _ _ ▸ ha).2
    obtain ⟨hm1, hm2, hm3⟩ := may_parts hmay
    have hin := badE_in hmay
    obtain ⟨n, rfl⟩ : ∃ k : Nat, n = k := ⟨n.toNat, by omega⟩
    have HA := Lib.hid ha
    simp only [Int.toNat_natCast] at hv ho hord
    have HE := Lib.hid (show EdgesIn n es from hin)
    have HOL := Lib.hid hord
    obtain ⟨A2, c2, rfl⟩ := own_slice ho
    have HO := Lib.hid (Cells.of_own ho)
    have HV := Lib.hid hv
    obtain ⟨Av, ce, go, gi, os, is, hbv, hesv, _⟩ := hv
    have HLV := Lib.hid hbv.lt
    have HY := Lib.hid (show w2.cell? ⟨gv, 1, none⟩ = some (.slice Av es.length ce) from hbv.cell 1)
    have HEV := Lib.hid hesv
    have hmk := fun W => run_make1 elemInt rfl n (by omega) (by omega) W
    have HB3 := Lib.hid (Blk.new w2 3 (Array.replicate n (.int .i64 0)))
    have HW3 := Lib.hid ((Below.refl w2.heap.size w2).alloc (Nat.le_refl _) (.cells (Array.replicate n (.int .i64 0)) 3))
    have hz3 := World.size_alloc w2 (.cells (Array.replicate n (.int .i64 0)) 3)
    clear hmay hord hin ho hbv hesv ha
    go_wp2_with fail
    generalize w2.alloc (.cells (Array.replicate n (.int .i64 0)) 3) = w3 at *
    generalize hg : w2.heap.size = g at *
    have HZ := Lib.hid (show Blk w3 g 3 ((intCells (levO es (List.replicate n 0) ((orderF es n).take 0))).toArray ++ #[]) by
      have := HB3.out
      simpa [levO, intCells] using this)
    have hgw : g < w3.heap.size := by omega
    have hl : es.length ≤ 1000 := by omega
    go_loopg [25] n (fun k s25 wr => ∃ i : Nat, s25 = .int .i64 i ∧ i ≤ n ∧ k = n - i ∧ Below g w2 wr ∧ Bd (i * es.length) (levO es (List.replicate n 0) ((orderF es n).take i)) ∧ Blk wr g 3 ((intCells (levO es (List.replicate n 0) ((orderF es n).take i))).toArray ++ #[]))
    case atStart => exact ⟨0, rfl, Nat.zero_le _, rfl, HW3.out, by rw [Nat.zero_mul]; exact Bd.zero n, HZ.out⟩
    case round =>
      obtain ⟨i0, rfl, hi, hk, hb, hbd, hbl⟩ := hrel
      have Hk := Lib.hid hk
      have HB := Lib.hid hb
      have HBD := Lib.hid hbd
      have HBL := Lib.hid hbl
      have hgr := hbl.lt
      clear hk hb hbd hbl
      by_cases hlt : i0 < n
      · have hlt' : (i0 : Int) < n := by omega
        have hol : i0 < (orderF es n).length := by rw [HOL.out]; exact hlt
        obtain ⟨q0, q1⟩ := (orderF_ord es n).lt _ (List.getElem_mem hol)
        obtain ⟨x, hx⟩ : ∃ x : Nat, (orderF es n)[i0] = (x : Int) := ⟨((orderF es n)[i0]).toNat, by omega⟩
        have hxn : x < n := by omega
        have hxn' : (x : Int) < n := by omega
        obtain ⟨bo, oo, hA2, hbo, hco⟩ := HO.out.ints (by omega)
        have co := (HB.out.cell (p := ⟨bo, oo + i0, none⟩) (by omega)).trans (hco i0 hol)
        rw [hx] at co
        have HX := Lib.hid hx
        subst hA2
        clear hco hx q0 q1
        go_wp2_with fail
        obtain ⟨w4, rfl⟩ : ∃ y, y = wr := ⟨_, rfl⟩
        refine (ins_any gv n es x w4 (HV.out.below HB.out (by omega)) hxn hl).mono ?_
        rintro e w5 ⟨v5, rfl, hb5, ho5⟩
        obtain ⟨A5, c5, rfl⟩ := own_slice ho5
        have HB5 := Lib.hid (HB.out.trans (hb5.mono (Nat.le_of_lt hgr)))
        have HBL5 := Lib.hid (HBL.out.below hb5 hgr)
        have hz5 := hb5.size
        have HO50 := Lib.hid ho5
        obtain ⟨l5, hl5⟩ : ∃ z, z = endsF es Prod.snd x es.length := ⟨_, rfl⟩
        have hlm : l5.length ≤ es.length := by rw [hl5]; exact endsF_length _ _ _ _
        obtain ⟨L0, hL0⟩ : ∃ z, z = levO es (List.replicate n 0) ((orderF es n).take i0) := ⟨_, rfl⟩
        rw [← hL0] at HBL5 HBD
        rw [← hl5] at HO50
        have HL5 := Lib.hid hl5
        have HL0 := Lib.hid hL0
        have hL0l : L0.length = n := by rw [hL0, levO_length]; simp
        have hmn : i0 * es.length ≤ 64 * 1000 := Nat.mul_le_mul (by omega) hl
        rw [← hl5]
        clear hb5 ho5 hl5 hL0 co
        go_wp2_with fail
        go_loopg [33] l5.length (fun k s33 wr => ∃ j : Nat, s33 = .int .i64 j ∧ j ≤ l5.length ∧ k = l5.length - j ∧ Below g w2 wr ∧ Blk wr g 3 ((intCells (relaxL es L0 (l5.take j))).toArray ++ #[]) ∧ wr.ownsRow w4.heap.size 3 1 (.slice A5 l5.length c5) l5.length (intCells l5))
        case atStart => exact ⟨0, rfl, Nat.zero_le _, rfl, HB5.out, HBL5.out, HO50.out⟩
        case round =>
          obtain ⟨j, rfl, hj, hk2, hb, hbj, ho⟩ := hrel
          have Hk2 := Lib.hid hk2
          have HBW := Lib.hid hb
          have HBJ := Lib.hid hbj
          have HO5 := Lib.hid ho
          have hgr2 := hbj.lt
          have hgw2 : g ≤ wr.heap.size := by omega
          clear hk2 hb hbj ho
          by_cases hjl : j < l5.length
          · have hjl' : (j : Int) < l5.length := by omega
            obtain ⟨i, hei, hil, hi1⟩ : ∃ i : Nat, l5[j] = (i : Int) ∧ ∃ h : i < es.length, es[i].2 = (x : Int) := by
              have e := HL5.out
              subst e
              exact endsF_at hjl
            obtain ⟨b5, o5, hA5, hb5, hc5⟩ := (Cells.of_own HO5.out).ints (by omega)
            have c5j := hc5 j hjl
            rw [hei] at c5j
            obtain ⟨b, off, hAv, hbb, hcc⟩ := HEV.out.edges (by omega)
            obtain ⟨c0, _⟩ := hcc i hil
            have HBB := Lib.hid (show b < wr.drew.heap.size from Nat.lt_of_lt_of_le hbb hgw2)
            obtain ⟨q0, q1, q2, q3⟩ := HE.out es[i] (List.getElem_mem hil)
            obtain ⟨t, ht⟩ : ∃ t : Nat, es[i].1 = (t : Int) := ⟨es[i].1.toNat, by omega⟩
            rw [ht] at c0
            have HC0 := Lib.hid ((HBW.out.cell (p := ⟨b, off + i * 2, none⟩) (by omega)).trans c0)
            have htn' : (t : Int) < n := by omega
            have hil' : (i : Int) < es.length := by omega
            obtain ⟨Lj, hLj⟩ : ∃ z, z = relaxL es L0 (l5.take j) := ⟨_, rfl⟩
            have hLjl : Lj.length = n := by rw [hLj, relaxL_length]; exact hL0l
            rw [← hLj] at HBJ
            have hbd : Bd (i0 * es.length + j) Lj := by
              rw [hLj]
              exact (Bd.list (l5.take j) _ L0 HBD.out).more (by simp; omega)
            obtain ⟨a, ha⟩ : ∃ a, a = Lj.getD x 0 := ⟨_, rfl⟩
            obtain ⟨v, hv⟩ : ∃ v, v = Lj.getD t 0 := ⟨_, rfl⟩
            have HCX := Lib.hid (show ((intCells Lj).toArray ++ #[])[x]? = some (.int .i64 a) by rw [ha, ← HBJ.out.cell x]; exact HBJ.out.intR (by omega))
            have HCT := Lib.hid (show ((intCells Lj).toArray ++ #[])[t]? = some (.int .i64 v) by rw [hv, ← HBJ.out.cell t]; exact HBJ.out.intR (by omega))
            have vb := hbd t
            rw [← hv] at vb
            have hwv : IntKind.i64.wrap (v + 1) = v + 1 := by rw [IntKind.wrap_i64]; omega
            have HLJ1 := Lib.hid (show relaxL es L0 (l5.take (j + 1)) = Lj.set x (max a (v + 1)) by
              rw [List.take_succ_eq_append_getElem hjl]
              show List.foldl _ _ _ = _
              rw [List.foldl_append]
              show relaxE es (relaxL es L0 (l5.take j)) l5[j] = _
              rw [← hLj, hei, relaxE]
              have e1 : (hd es (i : Int)).toNat = x := by unfold hd; simp only [Int.toNat_natCast]; rw [List.getD_eq_getElem?_getD, List.getElem?_eq_getElem hil]; simp [hi1]
              have e2 : (tl es (i : Int)).toNat = t := by unfold tl; simp only [Int.toNat_natCast]; rw [List.getD_eq_getElem?_getD, List.getElem?_eq_getElem hil]; simp [ht]
              rw [e1, e2, ha, hv])
            obtain ⟨D1, hD1⟩ : ∃ D, D = (intCells (Lj.set x (max a (v + 1)))).toArray ++ #[] := ⟨_, rfl⟩
            have HD1 := Lib.hid (fun (wv : World) (h : Blk wv g 3 ((intCells Lj).toArray ++ #[])) => (by rw [hD1]; exact h.setIntR x (max a (v + 1)) (by omega) : Blk (wv.setCell ⟨g, x, none⟩ (.int .i64 (max a (v + 1)))) g 3 D1))
            have HDE := Lib.hid hD1
            have HY1 := Lib.hid (show wr.cell? ⟨gv, 1, none⟩ = some (.slice (some ⟨b, off, none⟩) es.length ce) from (HBW.out.cell (p := ⟨gv, 1, none⟩) (by have := HLV.out; omega)).trans (by rw [HY.out, hAv]))
            have HLV2 := Lib.hid (show gv < wr.drew.heap.size from Nat.lt_of_lt_of_le HLV.out hgw2)
            have HG4 := Lib.hid hgr
            subst hA5
            clear hcc c0 hc5 q0 q1 q2 q3 hi1 hei ha hv ht hLj hbd vb hD1 hAv
            go_upto_region 11 with fail
            refine R3.wp_region_i g [[], [3]] [0, 0, 0, 0, 0, 0, 0, 0, 0, 0, 0, 0, 0, 0, 0, 0, 0, 0, 0, 0, 0, 1]
              [([], .val (.slice (some ⟨g, 0, none⟩) n n)), ([], .val (.int .i64 x)), ([], .val (.slice (some ⟨g, 0, none⟩) n n)), ([], .val (.int .i64 x)), ([2, 3], .val (.pointer (some ⟨g, x, none⟩))), ([4], .val (.int .i64 a)), ([], .val (.slice (some ⟨g, 0, none⟩) n n)), ([], .val (.pointer (some ⟨gv, 0, none⟩))), ([7], .val (.pointer (some ⟨gv, 0, none⟩))), ([8], .val (.pointer (some ⟨gv, 0, none⟩))), ([9], .val (.pointer (some ⟨gv, 1, none⟩))), ([10], .val (.slice (some ⟨b, off, none⟩) es.length ce)), ([], .val (.int .i64 i)), ([11, 12], .val (.pointer (some ⟨b, off + i * 2, none⟩))), ([13], .val (.pointer (some ⟨b, off + i * 2, none⟩))), ([14], .val (.int .i64 t)), ([6, 15], .val (.pointer (some ⟨g, t, none⟩))), ([16], .val (.int .i64 v)), ([17], .val (.int .i64 (v + 1))), ([5, 18], .val (.int .i64 (max a (v + 1)))), ([0, 1], .val (.pointer (some ⟨g, x, none⟩))), ([20, 19], pfBO g D1 w4.heap.size (.slice (some ⟨b5, o5, none⟩) l5.length c5) l5.length (intCells l5))] [21] (by kernel_rfl) (by kernel_rfl) (fun us => ?_) ?_
            · refine R3.pgo_pure _ rfl rfl (fun wv hw hu => ⟨.slice (some ⟨g, 0, none⟩) n n, ?_, rfl⟩) ?_
              · have tok := True.intro
                clear hw hu
                go_simp
              refine R3.pgo_pure _ rfl rfl (fun wv hw hu => ⟨.int .i64 x, ?_, rfl⟩) ?_
              · have tok := True.intro
                clear hw hu
                go_simp
              refine R3.pgo_pure _ rfl rfl (fun wv hw hu => ⟨.slice (some ⟨g, 0, none⟩) n n, ?_, rfl⟩) ?_
              · have tok := True.intro
                clear hw hu
                go_simp
              refine R3.pgo_pure _ rfl rfl (fun wv hw hu => ⟨.int .i64 x, ?_, rfl⟩) ?_
              · have tok := True.intro
                clear hw hu
                go_simp
              refine R3.pgo_pure _ rfl rfl (fun wv hw hu => ⟨.pointer (some ⟨g, x, none⟩), ?_, rfl⟩) ?_
              · have tok := True.intro
                have h2 : us 2 = .slice (some ⟨g, 0, none⟩) n n := hu.1
                have h3 : us 3 = .int .i64 x := hu.2.1
                clear hw hu
                go_simp
              refine R3.pgo_pure _ rfl rfl (fun wv hw hu => ⟨.int .i64 a, ?_, rfl⟩) ?_
              · have tok := True.intro
                have h4 : us 4 = .pointer (some ⟨g, x, none⟩) := hu.1
                have zy : wv.cell? ⟨g, x, none⟩ = some (.int .i64 a) := (HBJ.out.drew.evo hw (.inr (of_decide_eq_true (by kernel_rfl)))).cell x |>.trans HCX.out
                clear hw hu
                go_simp
              refine R3.pgo_pure _ rfl rfl (fun wv hw hu => ⟨.slice (some ⟨g, 0, none⟩) n n, ?_, rfl⟩) ?_
              · have tok := True.intro
                clear hw hu
                go_simp
              refine R3.pgo_pure _ rfl rfl (fun wv hw hu => ⟨.pointer (some ⟨gv, 0, none⟩), ?_, rfl⟩) ?_
              · have tok := True.intro
                clear hw hu
                go_simp
              refine R3.pgo_pure _ rfl rfl (fun wv hw hu => ⟨.pointer (some ⟨gv, 0, none⟩), ?_, rfl⟩) ?_
              · have tok := True.intro
                have h7 : us 7 = .pointer (some ⟨gv, 0, none⟩) := hu.1
                clear hw hu
                go_simp
              refine R3.pgo_pure _ rfl rfl (fun wv hw hu => ⟨.pointer (some ⟨gv, 0, none⟩), ?_, rfl⟩) ?_
              · have tok := True.intro
                have h8 : us 8 = .pointer (some ⟨gv, 0, none⟩) := hu.1
                clear hw hu
                go_simp
              refine R3.pgo_pure _ rfl rfl (fun wv hw hu => ⟨.pointer (some ⟨gv, 1, none⟩), ?_, rfl⟩) ?_
              · have tok := True.intro
                have h9 : us 9 = .pointer (some ⟨gv, 0, none⟩) := hu.1
                clear hw hu
                go_simp
              refine R3.pgo_pure _ rfl rfl (fun wv hw hu => ⟨.slice (some ⟨b, off, none⟩) es.length ce, ?_, rfl⟩) ?_
              · have tok := True.intro
                have h10 : us 10 = .pointer (some ⟨gv, 1, none⟩) := hu.1
                have zy : wv.cell? ⟨gv, 1, none⟩ = some (.slice (some ⟨b, off, none⟩) es.length ce) := ((evo_nil (by kernel_rfl) hw).cell (p := ⟨gv, 1, none⟩) HLV2.out).trans HY1.out
                clear hw hu
                go_simp
              refine R3.pgo_pure _ rfl rfl (fun wv hw hu => ⟨.int .i64 i, ?_, rfl⟩) ?_
              · have tok := True.intro
                clear hw hu
                go_simp
              refine R3.pgo_pure _ rfl rfl (fun wv hw hu => ⟨.pointer (some ⟨b, off + i * 2, none⟩), ?_, rfl⟩) ?_
              · have tok := True.intro
                have h11 : us 11 = .slice (some ⟨b, off, none⟩) es.length ce := hu.1
                have h12 : us 12 = .int .i64 i := hu.2.1
                clear hw hu
                go_simp
              refine R3.pgo_pure _ rfl rfl (fun wv hw hu => ⟨.pointer (some ⟨b, off + i * 2, none⟩), ?_, rfl⟩) ?_
              · have tok := True.intro
                have h13 : us 13 = .pointer (some ⟨b, off + i * 2, none⟩) := hu.1
                clear hw hu
                go_simp
              refine R3.pgo_pure _ rfl rfl (fun wv hw hu => ⟨.int .i64 t, ?_, rfl⟩) ?_
              · have tok := True.intro
                have h14 : us 14 = .pointer (some ⟨b, off + i * 2, none⟩) := hu.1
                have zy : wv.cell? ⟨b, off + i * 2, none⟩ = some (.int .i64 t) := ((evo_nil (by kernel_rfl) hw).cell (p := ⟨b, off + i * 2, none⟩) HBB.out).trans HC0.out
                clear hw hu
                go_simp
              refine R3.pgo_pure _ rfl rfl (fun wv hw hu => ⟨.pointer (some ⟨g, t, none⟩), ?_, rfl⟩) ?_
              · have tok := True.intro
                have h6 : us 6 = .slice (some ⟨g, 0, none⟩) n n := hu.1
                have h15 : us 15 = .int .i64 t := hu.2.1
                clear hw hu
                go_simp
              refine R3.pgo_pure _ rfl rfl (fun wv hw hu => ⟨.int .i64 v, ?_, rfl⟩) ?_
              · have tok := True.intro
                have h16 : us 16 = .pointer (some ⟨g, t, none⟩) := hu.1
                have zy : wv.cell? ⟨g, t, none⟩ = some (.int .i64 v) := (HBJ.out.drew.evo hw (.inr (of_decide_eq_true (by kernel_rfl)))).cell t |>.trans HCT.out
                clear hw hu
                go_simp
              refine R3.pgo_pure _ rfl rfl (fun wv hw hu => ⟨.int .i64 (v + 1), ?_, rfl⟩) ?_
              · have tok := True.intro
                have h17 : us 17 = .int .i64 v := hu.1
                clear hw hu
                go_simp
              refine R3.pgo_pure _ rfl rfl (fun wv hw hu => ⟨.int .i64 (max a (v + 1)), ?_, rfl⟩) ?_
              · have tok := True.intro
                have h5 : us 5 = .int .i64 a := hu.1
                have h18 : us 18 = .int .i64 (v + 1) := hu.2.1
                have hmx : (if a < v + 1 then v + 1 else a) = max a (v + 1) := by split <;> omega
                clear hw hu
                go_simp
              refine R3.pgo_pure _ rfl rfl (fun wv hw hu => ⟨.pointer (some ⟨g, x, none⟩), ?_, rfl⟩) ?_
              · have tok := True.intro
                have h0 : us 0 = .slice (some ⟨g, 0, none⟩) n n := hu.1
                have h1 : us 1 = .int .i64 x := hu.2.1
                clear hw hu
                go_simp
              refine R3.pgo_skip _ rfl rfl (fun wv hw hu => ?_) ?_
              · have tok := True.intro
                have h20 : us 20 = .pointer (some ⟨g, x, none⟩) := hu.1
                have h19 : us 19 = .int .i64 (max a (v + 1)) := hu.2.1
                have hbv := (HBJ.out.drew.evo hw (.inr (of_decide_eq_true (by kernel_rfl))))
                have how := own_evo HO5.out.drew hw (of_decide_eq_true (by kernel_rfl))
                have fy := hbv.frozen x
                have zy : wv.cell? ⟨g, x, none⟩ = some (.int .i64 a) := hbv.cell x |>.trans HCX.out
                refine ⟨wv.setCell ⟨g, x, none⟩ (.int .i64 (max a (v + 1))), ?_, Evo.set_ hbv (by simp) (Nat.le_refl _) x _, HD1.out wv hbv, how.kept (only_setCell (World.grownBy.refl wv (some g)) (p := ⟨g, x, none⟩) (.inl rfl) _) (ne_ownBlock how HG4.out)⟩
                clear hw hu
                clear hbv how
                go_simp
              trivial
            · intro us w6 hw hu
              have hb6 := hu.1.1
              have ho6 := hu.1.2
              have HB6 := Lib.hid (show Blk w6 g 3 ((intCells (relaxL es L0 (l5.take (j + 1)))).toArray ++ #[]) by rw [HLJ1.out, ← HDE.out]; exact hb6)
              have HO6 := Lib.hid (show w6.ownsRow w4.heap.size 3 1 _ l5.length (intCells l5) from ho6)
              have HW6 := Lib.hid (HBW.out.trans (below_undrew' (hw.below (Nat.le_of_lt hgr2))))
              clear hw hu hb6 ho6
              simp only [lexL]
              go_simp
              go_wp2_with fail
              go_roundg (l5.length - (j + 1))
              case measure => rw [Hk2.out]; omega
              case rel => exact ⟨j + 1, by go_num, by omega, rfl, HW6.out, HB6.out, HO6.out⟩
          · have hje : j = l5.length := by omega
            have hjl' : ¬ (j : Int) < l5.length := by omega
            have HSt := Lib.hid (show levO es (List.replicate n 0) ((orderF es n).take (i0 + 1)) = relaxL es L0 (l5.take j) by
              rw [hje, List.take_length, HL5.out, HL0.out, List.take_succ_eq_append_getElem hol, HX.out]
              unfold levO
              rw [List.foldl_append]
              rfl)
            have HBF := Lib.hid (show Blk wr g 3 ((intCells (levO es (List.replicate n 0) ((orderF es n).take (i0 + 1)))).toArray ++ #[]) by rw [HSt.out]; exact HBJ.out)
            have HBdF := Lib.hid (show Bd ((i0 + 1) * es.length) (levO es (List.replicate n 0) ((orderF es n).take (i0 + 1))) by
              rw [HSt.out]
              refine (Bd.list (l5.take j) _ L0 HBD.out).more ?_
              rw [Nat.succ_mul]
              simp
              omega)
            clear HBJ hje
            go_wp2_with fail
            go_roundg (n - (i0 + 1))
            case measure => rw [Hk.out]; omega
            case rel => exact ⟨i0 + 1, by go_num, by omega, rfl, HBW.out, HBdF.out, HBF.out⟩
      · have hie : i0 = n := by omega
        have hlt' : ¬ (i0 : Int) < n := by omega
        have HF := Lib.hid (show wr.ownsRow w.heap.size 3 1 (.slice (some ⟨g, 0, none⟩) n n) n (intCells (levF n es)) by
          have h1 := HBL.out
          rw [hie, List.take_of_length_le (by rw [HOL.out]; exact Nat.le_refl _)] at h1
          refine own_of_blk (xs := intCells (levF n es)) ?_ (by omega) (by simp [intCells, levF_length]) (by omega)
          simpa [levF] using h1)
        have HWF := Lib.hid (HW2.out.trans (HB.out.mono (by omega)))
        clear HBL hie
        go_wp2_with fail
        go_ret2
        refine ⟨_, by rw [HA.out]; rfl, HWF.out, fun _ => HF.out, fun h => ?_⟩
        rw [HA.out] at h
        cases h
end Go.Proofs.YtnjikhhegebkiaaDoor
