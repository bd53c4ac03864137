/-
  poset.Apart: what it computes. Written by an AI agent.
-/
import Derived.Test.YtnjikhhegebkiaaDoorChains
import Derived.Test.YtnjikhhegebkiaaDoorAltLaw
import Derived.Test.YtnjikhhegebkiaaDoorQue
namespace Go.Proofs.YtnjikhhegebkiaaDoor
open Go.RowKit

set_option maxRecDepth 20000 in
set_option maxHeartbeats 4000000 in
theorem apart_any (n : Int) (A : Option Addr) (cap : Nat) (es : List (Int × Int)) (w : World) (hes : Cells w w.heap.size A (edgeCells es)) (hT : Tab w) (hp : 0 < w.heap.size) :
    Calls Tryd.prog 11 #[.agg #[.int .i64 n, .slice A es.length cap]] w (fun e w' => ∃ v, e = .returned (.tuple #[v, .int .i64 (errOf (askB n es))]) ∧ Below w.heap.size w w' ∧ (askB n es = false → v = .slice none 0 0) ∧
      (askB n es = true → ∃ (T : List Nat) (B M : Nat), Grown1 false (fun _ => true) n.toNat es T ∧ Alt n.toNat (abF T n.toNat) (joinF (abF T n.toNat) n.toNat n.toNat) B M [] none ∧ w'.ownsRow w.heap.size 3 1 v (apartF B M n.toNat).length (intCells (apartF B M n.toNat)))) := by
  have b0 := Blk.new w 24 #[.int .i64 n, .slice A es.length cap]
  have hbw := (Below.refl w.heap.size w).alloc (Nat.le_refl _) (.cells #[.int .i64 n, .slice A es.length cap] 24)
  have s1 := World.size_alloc w (.cells #[.int .i64 n, .slice A es.length cap] 24)
  have hesa := (hes.below hbw).more hbw.size
  go_enter Tryd.func11, Tryd.ntmps11
  go_upto_region 1 with fail
  generalize w.alloc (.cells #[.int .i64 n, .slice A es.length cap] 24) = w1 at *
  have HW1 := Lib.hid hbw
  have HES := Lib.hid hesa
  have HB0 := Lib.hid b0
  have g0 : w1.cell? ⟨w.heap.size, 0, none⟩ = some (.int .i64 n) := b0.cell 0
  have g1 : w1.cell? ⟨w.heap.size, 1, none⟩ = some (.slice A es.length cap) := b0.cell 1
  have l1 : w.heap.size < w1.heap.size := by omega
  have HT1 := Lib.hid (hT.below hbw hp)
  clear hbw b0 hesa hes s1
  go_wp2_with fail
  refine (pair_any n A cap es w1 HES.out HT1.out (by omega)).mono ?_
  rintro e w2 ⟨v, rfl, hb2, hnil, hyes⟩
  have HYES := Lib.hid hyes
  have HNIL := Lib.hid hnil
  have hz2 := hb2.size
  have HW2 := Lib.hid (HW1.out.trans (hb2.mono (Nat.le_of_lt l1)))
  have HTT := Lib.hid (HT1.out.below hb2 (by omega))
  have HGB := Lib.hid (HB0.out.below hb2 l1)
  clear hb2 g0 g1 hyes hnil
  cases ha : askB n es with
  | false =>
    have HA := Lib.hid ha
    clear ha
    go_wp2_with fail
    go_ret2
    refine ⟨.slice none 0 0, by rw [HA.out]; rfl, HW2.out, fun _ => rfl, fun h => ?_⟩
    rw [HA.out] at h
    cases h
  | true =>
    have HA := Lib.hid ha
    have hmay : mayB n es = true := by unfold askB at ha; exact (Bool.and_eq_true _ _ ▸ ha).1
    have hord : (orderF es n.toNat).length = n.toNat := by unfold askB at ha; exact of_decide_eq_true (Bool.and_eq_true _ _ ▸ ha).2
    obtain ⟨hm1, hm2, hm3⟩ := may_parts hmay
    have hin := badE_in hmay
    obtain ⟨n, rfl⟩ : ∃ k : Nat, n = k := ⟨n.toNat, by omega⟩
    obtain ⟨T, y, hgr, rfl, hyP, hyN, hyV, hkm⟩ := HYES.out ha
    simp only [Int.toNat_natCast] at hgr hkm hord
    have HGR := Lib.hid hgr
    have hab := abF_ok (show InN n es from hin) (by omega) hgr
    have HAB := Lib.hid hab
    have HJ := Lib.hid (joinF_spec (by omega) hab n (Nat.le_refl _))
    have HOK := Lib.hid (joinF_ok hab (by omega) n (Nat.le_refl _))
    have hrk := ranked_of (show EdgesIn n es from hin) hord (by omega) hgr
    obtain ⟨L, hL⟩ : ∃ L : Nat → Nat, L = fun v => ((levF n es).getD v 0).toNat := ⟨_, rfl⟩
    rw [← hL] at hrk
    have HRK := Lib.hid hrk
    obtain ⟨t, ht⟩ : ∃ t, t = joinF (abF T n) n n := ⟨_, rfl⟩
    rw [← ht] at hkm HJ HOK
    have HTE := Lib.hid ht
    have HKM := Lib.hid hkm
    obtain ⟨gP, ga, gn, gp, cA, RA⟩ := y
    obtain ⟨gP', hgP'⟩ : ∃ z, z = gP := ⟨_, rfl⟩
    have HPV := Lib.hid (fun y (hy : y < n) => HOK.out.back y hy)
    have HNX := Lib.hid (fun x (hx : x < n) => HJ.out.good.n1 x hx)
    have hPl := hkm.P.lt
    have hpl := hkm.V.lt
    have hnl := hkm.N.lt
    have hAl := hkm.A.lt
    simp only at hPl hpl hnl hAl
    have z1 : w2.cell? ⟨gP, 1, none⟩ = some (.slice (some ⟨gn, 0, none⟩) n n) := hkm.P.cell 1
    have hyb : w2.heap.size ≤ w2.heap.size := Nat.le_refl _
    clear ha hmay hord hin hgr hab hrk hL ht hkm hgP' hyP hyN hyV
    go_wp2_with fail
    go_loopg [8, 27] n (fun k s8 s27 wr => ∃ (x : Nat), s27 = .int .i64 x ∧ x ≤ n ∧ k = n - x ∧ Que wr w2.heap.size s8 (freeL t.nx x) ∧ Below w2.heap.size w2 wr)
    case atStart => exact ⟨0, rfl, Nat.zero_le _, rfl, Que.nil _ _, Below.refl _ _⟩
    case round =>
      obtain ⟨x, rfl, hx, hk, hq, hb⟩ := hrel
      have Hk := Lib.hid hk
      obtain ⟨A8, c8, rfl⟩ := hq.slice
      have HQ := Lib.hid hq
      have HB := Lib.hid hb
      have hzr := hb.size
      have hfl := freeL_length t.nx x
      clear hk hq hb
      by_cases hlt : x < n
      · have hlt' : (x : Int) < n := by omega
        have zv : wr.cell? ⟨gn, x, none⟩ = some (.int .i64 (t.nx.getD x 0)) := (HKM.out.N.below HB.out hnl).intR (by rw [show t.nx.length = n from HOK.out.nx]; exact hlt)
        obtain ⟨v, hv⟩ : ∃ v, v = t.nx.getD x 0 := ⟨_, rfl⟩
        rw [← hv] at zv
        have HV := Lib.hid hv
        clear hv
        by_cases hv1 : v = -1
        · subst hv1
          have HF := Lib.hid (show freeL t.nx (x + 1) = freeL t.nx x ++ [(x : Int)] by rw [freeL_succ, if_pos HV.out.symm])
          have hcs : Cells (wr.alloc (.cells #[.int .i64 (x : Int)] 3)) (wr.heap.size + 1) (some ⟨wr.heap.size, 0, none⟩) [.int .i64 (x : Int)] := Cells.of_blk (R := #[]) (by simpa using Blk.new wr 3 #[.int .i64 (x : Int)])
          have HAL := Lib.hid (HB.out.alloc hzr (.cells #[.int .i64 (x : Int)] 3))
          have HQA := Lib.hid (HQ.out.below ((Below.refl _ _).alloc (Nat.le_refl _) (.cells #[.int .i64 (x : Int)] 3)) (Nat.le_refl _))
          have HCS := Lib.hid hcs
          have hzA := World.size_alloc wr (.cells #[.int .i64 (x : Int)] 3)
          clear hcs
          go_wp2_with (at_builtin; refine wp_que rfl _ _ rfl (v := .slice A8 (freeL t.nx x).length c8) rfl HQA.out rfl HCS.out ?x2 ?x3 ?_)
          case x2 => omega
          case x3 => omega
          intro v' w' hq' hg' _
          have HQ2 := Lib.hid (show Que w' w2.heap.size v' (freeL t.nx (x + 1)) by rw [HF.out]; exact hq')
          have HB2 := Lib.hid (HAL.out.trans (show Below w2.heap.size _ w' from (But.of_grown hg').below (by omega) (fun k hk => (HQ.out.block (by rwa [Option.mem_toList] at hk)).1)))
          clear hq' hg' hfl hzA
          go_wp2_with fail
          go_roundg (n - (x + 1))
          case measure => rw [Hk.out]; omega
          case rel => exact ⟨x + 1, by go_num, by omega, rfl, HQ2.out, HB2.out⟩
        · have hv2 : (v == -1) = false := by rw [beq_eq_false_iff_ne]; exact hv1
          have HF := Lib.hid (show freeL t.nx (x + 1) = freeL t.nx x by rw [freeL_succ, if_neg (by rw [← HV.out]; exact hv1), List.append_nil])
          clear hv1 hfl
          go_wp2_with fail
          go_roundg (n - (x + 1))
          case measure => rw [Hk.out]; omega
          case rel => exact ⟨x + 1, by go_num, by omega, rfl, by rw [HF.out]; exact HQ.out, HB.out⟩
      · have hxe : x = n := by omega
        have hlt' : ¬ (x : Int) < n := by omega
        have HQ0 := Lib.hid (show Que wr w2.heap.size (.slice A8 (freeL t.nx x).length c8) (freeL t.nx n) by have := HQ.out; rw [hxe] at this ⊢; exact this)
        have hfl2 := freeL_length t.nx n
        obtain ⟨w4, rfl⟩ : ∃ y, y = wr := ⟨_, rfl⟩
        clear hxe
        go_upto_region 12 with fail
        go_loopg [6, 7, 8] (unseen 0 * 65 + (freeL t.nx n).length) (fun k s6 s7 s8 wr => ∃ (B M : Nat) (todo : List Int), s6 = .int .u64 B ∧ s7 = .int .u64 M ∧ k = unseen B * 65 + todo.length ∧ k ≤ 5000 ∧ Alt n (abF T n) t B M todo none ∧ Que wr w2.heap.size s8 todo ∧ Below w2.heap.size w2 wr)
        case atStart => exact ⟨0, 0, freeL t.nx n, rfl, rfl, rfl, by rw [show unseen 0 = 64 by decide]; omega, Alt.start, HQ0.out, HB.out⟩
        case round =>
          obtain ⟨B, M, todo, rfl, rfl, hk2, hk5, halt, hq, hb⟩ := hrel
          have HALT := Lib.hid halt
          have HB3 := Lib.hid hb
          have Hk2 := Lib.hid hk2
          have hz3 := hb.size
          have hB64 := halt.b
          have hM64 := halt.m
          cases todo with
          | nil =>
            have hq0 := hq
            obtain ⟨A8, c8, rfl⟩ := hq0.slice
            have hl0 : ([] : List Int).length = 0 := rfl
            have gB : wr.cell? ⟨w.heap.size, 0, none⟩ = some (.int .i64 n) := ((HGB.out.below HB3.out (by omega))).cell 0
            obtain ⟨w5, rfl⟩ : ∃ y, y = wr := ⟨_, rfl⟩
            clear hk2 halt hq hq0 hb
            go_wp2_with fail
            go_loopg [2, 94] n (fun k s2 s94 wr => ∃ (x : Nat), s94 = .int .i64 x ∧ x ≤ n ∧ k = n - x ∧ wr.ownsRow w2.heap.size 3 1 s2 (apartF B M x).length (intCells (apartF B M x)) ∧ Below w2.heap.size w2 wr)
            case atStart => exact ⟨0, rfl, Nat.zero_le _, rfl, World.ownsRow_nil _ _ _ _, HB3.out⟩
            case round =>
              obtain ⟨x', rfl, hx', hk6, hown, hb⟩ := hrel
              obtain ⟨A9, c9, rfl⟩ := own_slice hown
              have Hk6 := Lib.hid hk6
              have HOW := Lib.hid hown
              have HB6 := Lib.hid hb
              have hz6 := hb.size
              have hapl := apartF_length B M x'
              clear hk6 hown hb
              by_cases hlt6 : x' < n
              · have hlt6' : (x' : Int) < n := by omega
                have hbB := has_is (s := B) (x := (x' : Int)) (p := B.testBit x') wr (setHas_nat B x' (by omega)) hB64
                have hbM := has_is (s := M) (x := (x' : Int)) (p := M.testBit x') wr (setHas_nat M x' (by omega)) hM64
                cases hB1 : B.testBit x' with
                | false =>
                  rw [hB1] at hbB
                  have HAF := Lib.hid (show apartF B M (x' + 1) = apartF B M x' by rw [apartF_succ, hB1]; simp)
                  clear hB1 hbM hapl
                  go_wp2_with fail
                  refine hbB.mono ?_
                  rintro e w7 ⟨rfl, rfl⟩
                  clear hbB
                  go_wp2_with fail
                  go_roundg (n - (x' + 1))
                  case measure => rw [Hk6.out]; omega
                  case rel => exact ⟨x' + 1, by go_num, by omega, rfl, by rw [HAF.out]; exact HOW.out, HB6.out⟩
                | true =>
                  rw [hB1] at hbB
                  cases hM1 : M.testBit x' with
                  | true =>
                    rw [hM1] at hbM
                    have HAF := Lib.hid (show apartF B M (x' + 1) = apartF B M x' by rw [apartF_succ, hB1, hM1]; simp)
                    clear hB1 hM1 hapl
                    go_wp2_with fail
                    refine hbB.mono ?_
                    rintro e w7 ⟨rfl, rfl⟩
                    clear hbB
                    go_wp2_with fail
                    refine hbM.mono ?_
                    rintro e w7 ⟨rfl, rfl⟩
                    clear hbM
                    go_wp2_with fail
                    go_roundg (n - (x' + 1))
                    case measure => rw [Hk6.out]; omega
                    case rel => exact ⟨x' + 1, by go_num, by omega, rfl, by rw [HAF.out]; exact HOW.out, HB6.out⟩
                  | false =>
                    rw [hM1] at hbM
                    have HAF := Lib.hid (show apartF B M (x' + 1) = apartF B M x' ++ [(x' : Int)] by rw [apartF_succ, hB1, hM1]; simp)
                    clear hB1 hM1
                    go_wp2_with fail
                    refine hbB.mono ?_
                    rintro e w7 ⟨rfl, rfl⟩
                    clear hbB
                    go_wp2_with fail
                    refine hbM.mono ?_
                    rintro e w7 ⟨rfl, rfl⟩
                    clear hbM
                    go_wp2_with (at_builtin; refine wp_app elemInt rfl _ _ rfl w2.heap.size (.slice A9 (apartF B M x').length c9) _ _ rfl wr.heap.size [.int .i64 (x' : Int)] rfl rfl HOW.out rfl rfl ?x2 ?x3 ?x4 ?_)
                    case x2 => omega
                    case x3 => omega
                    case x4 => omega
                    intro v10 w10 ho10 hg10 _
                    have HB10 := Lib.hid (below_app HB6.out HOW.out hg10 hz6 (Nat.le_refl _))
                    have HO10 := Lib.hid (show w10.ownsRow w2.heap.size 3 1 v10 (apartF B M (x' + 1)).length (intCells (apartF B M (x' + 1))) by rw [HAF.out]; simpa [intCells] using ho10)
                    clear ho10 hg10 hapl
                    go_wp2_with fail
                    go_roundg (n - (x' + 1))
                    case measure => rw [Hk6.out]; omega
                    case rel => exact ⟨x' + 1, by go_num, by omega, rfl, HO10.out, HB10.out⟩
              · have hxe : x' = n := by omega
                have hlt6' : ¬ (x' : Int) < n := by omega
                have HF := Lib.hid (show wr.ownsRow w.heap.size 3 1 (.slice A9 (apartF B M x').length c9) (apartF B M n).length (intCells (apartF B M n)) by
                  have := HOW.out
                  rw [hxe] at this ⊢
                  exact own_mono this (by omega))
                have HWF := Lib.hid (HW2.out.trans (HB6.out.mono (by omega)))
                have HAF := Lib.hid (show Alt n (abF T n) (joinF (abF T n) n n) B M [] none by rw [← HTE.out]; exact HALT.out)
                clear hxe hapl
                go_wp2_with fail
                go_ret2
                exact ⟨_, by rw [HA.out]; rfl, HWF.out, fun h => (by rw [HA.out] at h; cases h), fun _ => ⟨T, by simpa using HGR.out, B, M, by simpa using HAF.out, by simpa using HF.out⟩⟩
          | cons x0 todo =>
            obtain ⟨x, hx0, hxn⟩ := halt.tl x0 (by simp)
            subst hx0
            obtain ⟨g8, o8, c8, rfl, hc8, zq, hqt⟩ := hq.uncons
            have hlen8 : ((x : Int) :: todo).length = todo.length + 1 := by simp
            rw [hlen8] at hk2
            obtain ⟨Ad, hd⟩ : ∃ Ad, (if c8 = 1 then (some ⟨g8, o8, none⟩ : Option Addr) else some ⟨g8, o8 + 1, none⟩) = Ad := ⟨_, rfl⟩
            rw [hd] at hqt
            have HQT := Lib.hid hqt
            have hxn' : (x : Int) < n := by omega
            have hx64 : x < 64 := by omega
            have htl : todo.length ≤ 5000 := by omega
            clear hk2 halt hq hqt hb
            by_cases hs : setHas B (x : Int) = true
            · have HALT2 := Lib.hid (HALT.out.pass (by unfold Bit; rw [← setHas_nat B x hx64]; exact hs))
              have hhas := has_is (s := B) (x := (x : Int)) (p := true) wr hs hB64
              clear hs
              go_wp2_with fail
              refine hhas.mono ?_
              rintro e w5 ⟨rfl, rfl⟩
              clear hhas
              go_wp2_with fail
              go_roundg (unseen B * 65 + todo.length)
              case measure => rw [Hk2.out, hlen8]; omega
              case rel => exact ⟨B, M, todo, rfl, rfl, rfl, by have := Hk2.out; omega, HALT2.out, HQT.out, HB3.out⟩
            · have hs' : setHas B (x : Int) = false := by simpa using hs
              have hhas := has_is (s := B) (x := (x : Int)) (p := false) wr hs' hB64
              have hbit : B.testBit x = false := by rw [← setHas_nat B x hx64]; exact hs'
              have HALT2 := Lib.hid (HALT.out.grab (by omega))
              have hor := u64_or_nat B (ofSet [(x : Int)]) hB64 (ofSet_lt _)
              have HUN := Lib.hid (show unseen (B ||| ofSet [(x : Int)]) < unseen B from unseen_lt hx64 (fun i _ h => by rw [Nat.testBit_or, h]; rfl) hbit (by rw [Nat.testBit_or, ofSet_one x hx64, one_bit]; simp))
              obtain ⟨B', hB'⟩ : ∃ B', B' = B ||| ofSet [(x : Int)] := ⟨_, rfl⟩
              rw [← hB'] at HALT2 hor HUN
              have hCo := Cells.of_blk (R := #[]) (xs := [.int .i64 (x : Int)]) (by simpa using Blk.new wr 3 #[.int .i64 (x : Int)])
              have hof := of_any (some ⟨wr.heap.size, 0, none⟩) 1 [(x : Int)] (wr.alloc (.cells #[.int .i64 (x : Int)] 3)) (hCo.more (by simp)) (by simp)
              clear hs hs' hbit hB' hCo
              go_wp2_with fail
              refine hhas.mono ?_
              rintro e w5 ⟨rfl, rfl⟩
              clear hhas zq
              have HBA := Lib.hid (HB3.out.alloc hz3 (.cells #[.int .i64 (x : Int)] 3))
              have HQA := Lib.hid (HQT.out.below ((Below.refl _ _).alloc (Nat.le_refl _) (.cells #[.int .i64 (x : Int)] 3)) (Nat.le_refl _))
              have hzA := World.size_alloc wr (.cells #[.int .i64 (x : Int)] 3)
              go_wp2_with fail
              refine hof.mono ?_
              rintro e w5 ⟨rfl, rfl⟩
              obtain ⟨wa, hwa⟩ : ∃ wa, wa = wr.alloc (.cells #[.int .i64 (x : Int)] 3) := ⟨_, rfl⟩
              rw [← hwa] at HBA HQA hzA
              rw [← hwa]
              have p0 : wa.cell? ⟨gP, 0, none⟩ = some (.slice (some ⟨ga, 0, none⟩) n cA) := (HKM.out.P.below HBA.out hPl).cell 0
              have p1 := (HKM.out.A.below HBA.out hAl).setAt (x := x) (by rw [abF_length]; exact hxn)
              obtain ⟨S, hS⟩ : ∃ S, S = (abF T n).getD x 0 := ⟨_, rfl⟩
              rw [← hS] at p1
              have hS64 : S < 18446744073709551616 := by rw [hS]; exact HAB.out.lt x
              have hall := all_any S hS64 wa (HTT.out.below HBA.out (by omega)) (by omega)
              have HL := Lib.hid (show (∀ z ∈ bitsL S 64, ∃ k : Nat, z = k ∧ k < n ∧ Up (abF T n) x k) ∧ ∀ k, Up (abF T n) x k → (k : Int) ∈ bitsL S 64 from ⟨fun z hz => by
                obtain ⟨k, rfl, _, hb⟩ := mem_bitsL.1 hz
                rw [hS] at hb
                exact ⟨k, rfl, HAB.out.bit x k hb, hb⟩, fun k hk => mem_bitsL.2 ⟨k, rfl, by have := HAB.out.bit x k hk; omega, by rw [hS]; exact hk⟩⟩)
              have hll := bitsL_length S 64
              obtain ⟨L, hL⟩ : ∃ L, L = bitsL S 64 := ⟨_, rfl⟩
              rw [← hL] at hall HL hll
              clear hof hwa hS hL
              go_wp2_with fail
              refine hall.mono ?_
              rintro e w6 ⟨v, rfl, hb6, ho6⟩
              obtain ⟨A2, c2, rfl⟩ := own_slice ho6
              have HB6 := Lib.hid (HBA.out.trans (hb6.mono (by omega)))
              have HQ6 := Lib.hid (HQA.out.below hb6 (Nat.le_refl _))
              have hz6 := hb6.size
              obtain ⟨g2, hA2, hcells, hgq, hg6⟩ : ∃ g2, (0 < L.length → A2 = some ⟨g2, 0, none⟩) ∧ (∀ j (hj : j < L.length), w6.cell? ⟨g2, j, none⟩ = some (.int .i64 L[j])) ∧ (Value.slice Ad todo.length (c8 - 1)).ownBlock ≠ some g2 ∧ g2 < w6.heap.size := by
                by_cases hp : 0 < L.length
                · obtain ⟨g2, R, h1, h2, h3, _⟩ := own_some ho6 hp
                  refine ⟨g2, fun _ => h1, fun j hj => ?_, fun e => ?_, h3.lt⟩
                  · have : j < (intCells L).length := by simpa [intCells] using hj
                    rw [h3.cell]
                    simp [Array.getElem?_append, intCells, hj]
                  · have := (HQA.out.block e).2
                    omega
                · refine ⟨0, fun h => absurd h hp, fun j hj => by omega, fun e => ?_, by omega⟩
                  have := (HQA.out.block e).1
                  omega
              have HC6 := Lib.hid hcells
              have HGQ := Lib.hid hgq
              clear hall ho6 hb6 p0 p1 hcells hgq
              go_upto_region 18 with fail
              go_loopg [7, 8, 64] L.length (fun k s7 s8 s64 wr => ∃ (M' : Nat) (todo' : List Int) (j : Nat), s7 = .int .u64 M' ∧ s64 = .int .i64 j ∧ j ≤ L.length ∧ k = L.length - j ∧ Alt n (abF T n) t B' M' todo' (some x) ∧ (∀ i (hi : i < L.length), i < j → Bit M' (L[i]).toNat) ∧ Que wr w2.heap.size s8 todo' ∧ s8.ownBlock ≠ some g2 ∧ g2 < wr.heap.size ∧
                (∀ j (hj : j < L.length), wr.cell? ⟨g2, j, none⟩ = some (.int .i64 L[j])) ∧ Below w2.heap.size w2 wr ∧ todo'.length ≤ todo.length + j)
              case atStart => exact ⟨M, todo, 0, rfl, rfl, Nat.zero_le _, rfl, HALT2.out, fun i _ h => absurd h (Nat.not_lt_zero _), HQ6.out, HGQ.out, hg6, HC6.out, HB6.out, Nat.le_refl _⟩
              case round =>
                obtain ⟨M', todo', j, rfl, rfl, hj, hk3, halt, hmet, hq, hgq, hg2, hcl, hb, htd⟩ := hrel
                obtain ⟨A8, c9, rfl⟩ := hq.slice
                have Hk3 := Lib.hid hk3
                have HALT3 := Lib.hid halt
                have HMET := Lib.hid hmet
                have HQ7 := Lib.hid hq
                have HGQ7 := Lib.hid hgq
                have HCL := Lib.hid hcl
                have HB7 := Lib.hid hb
                have hz7 := hb.size
                have hM64' := halt.m
                clear hk3 halt hmet hq hgq hcl hb
                by_cases hjl : j < L.length
                · have hjl' : (j : Int) < L.length := by omega
                  obtain ⟨k, hk1, hkn, hup⟩ := HL.out.1 L[j] (List.getElem_mem hjl)
                  have cj := HCL.out j hjl
                  rw [hk1] at cj
                  have HK1 := Lib.hid hk1
                  have hkn' : (k : Int) < n := by omega
                  have hk64 : k < 64 := by omega
                  have hAA := hA2 (by omega)
                  subst hAA
                  have HALT5 := Lib.hid (HALT3.out.meet (by omega) hkn hup HJ.out.good)
                  have hor := u64_or_nat M' (ofSet [(k : Int)]) hM64' (ofSet_lt _)
                  have HORB := Lib.hid (show ∀ a, Bit (M' ||| ofSet [(k : Int)]) a ↔ Bit M' a ∨ k = a from fun a => or_bit hk64)
                  obtain ⟨M2, hM2⟩ : ∃ M2, M2 = M' ||| ofSet [(k : Int)] := ⟨_, rfl⟩
                  rw [← hM2] at HALT5 hor HORB
                  have HMET2 := Lib.hid (show ∀ i (hi : i < L.length), i < j + 1 → Bit M2 (L[i]).toNat from fun i hi hij => by
                    rw [HORB.out]
                    rcases Nat.lt_or_ge i j with h | h
                    · exact .inl (HMET.out i hi h)
                    · have : i = j := by omega
                      subst this
                      rw [HK1.out]
                      exact .inr (by simp))
                  have hCo := Cells.of_blk (R := #[]) (xs := [.int .i64 (k : Int)]) (by simpa using Blk.new wr 3 #[.int .i64 (k : Int)])
                  have hof := of_any (some ⟨wr.heap.size, 0, none⟩) 1 [(k : Int)] (wr.alloc (.cells #[.int .i64 (k : Int)] 3)) (hCo.more (by simp)) (by simp)
                  have HB8 := Lib.hid (HB7.out.alloc hz7 (.cells #[.int .i64 (k : Int)] 3))
                  have HQ8 := Lib.hid (HQ7.out.below ((Below.refl _ _).alloc (Nat.le_refl _) (.cells #[.int .i64 (k : Int)] 3)) (Nat.le_refl _))
                  have HCL8 := Lib.hid (fun j (hj : j < L.length) => (World.cell?_alloc_lt wr (.cells #[.int .i64 (k : Int)] 3) (⟨g2, j, none⟩ : Addr) hg2).trans (HCL.out j hj))
                  have hz8 := World.size_alloc wr (.cells #[.int .i64 (k : Int)] 3)
                  obtain ⟨v, hv⟩ : ∃ v, v = bck t k := ⟨_, rfl⟩
                  rw [← hv] at HALT5
                  have hvb : -1 ≤ v ∧ v < n := by
                    rw [hv]
                    exact HOK.out.back k hkn
                  have HV := Lib.hid hv
                  clear hk1 hM2 hCo hv
                  go_wp2_with fail
                  refine hof.mono ?_
                  rintro e w9 ⟨rfl, rfl⟩
                  clear hof cj
                  obtain ⟨wb, hwb⟩ : ∃ wb, wb = wr.alloc (.cells #[.int .i64 (k : Int)] 3) := ⟨_, rfl⟩
                  rw [← hwb] at HB8 HQ8 HCL8 hz8
                  rw [← hwb]
                  have p2 : wb.cell? ⟨gP, 2, none⟩ = some (.slice (some ⟨gp, 0, none⟩) n n) := (HKM.out.P.below HB8.out hPl).cell 2
                  have zv : wb.cell? ⟨gp, k, none⟩ = some (.int .i64 v) := by
                    have := (HKM.out.V.below HB8.out hpl).intR (k := k) (by rw [show t.pv.length = n from HOK.out.pv]; exact hkn)
                    rw [this, HV.out]
                    rfl
                  have hz8' : wr.heap.size < wb.heap.size := by omega
                  clear hwb hz8
                  by_cases hv1 : v = -1
                  · subst hv1
                    have HALT6 := Lib.hid (show Alt n (abF T n) t B' M2 todo' (some x) by simpa using HALT5.out)
                    go_wp2_with fail
                    go_roundg (L.length - (j + 1))
                    case measure => rw [Hk3.out]; omega
                    case rel => exact ⟨M2, todo', j + 1, rfl, by go_num, by omega, rfl, HALT6.out, HMET2.out, HQ8.out, HGQ7.out, by omega, HCL8.out, HB8.out, by omega⟩
                  · have hv2 : (v != -1) = true := by rw [bne_iff_ne]; exact hv1
                    have HALT6 := Lib.hid (show Alt n (abF T n) t B' M2 (todo' ++ [v]) (some x) by have := HALT5.out; rw [if_neg hv1] at this; exact this)
                    have hcs : Cells (wb.alloc (.cells #[.int .i64 v] 3)) (wb.heap.size + 1) (some ⟨wb.heap.size, 0, none⟩) [.int .i64 v] := Cells.of_blk (R := #[]) (by simpa using Blk.new wb 3 #[.int .i64 v])
                    have HCS := Lib.hid hcs
                    have HB9 := Lib.hid (HB8.out.alloc (by omega) (.cells #[.int .i64 v] 3))
                    have HQ9 := Lib.hid (HQ8.out.below ((Below.refl _ _).alloc (Nat.le_refl _) (.cells #[.int .i64 v] 3)) (Nat.le_refl _))
                    have HCL9 := Lib.hid (fun j (hj : j < L.length) => (World.cell?_alloc_lt wb (.cells #[.int .i64 v] 3) (⟨g2, j, none⟩ : Addr) (show g2 < wb.heap.size by omega)).trans (HCL8.out j hj))
                    have hz9 := World.size_alloc wb (.cells #[.int .i64 v] 3)
                    clear hv1 hcs
                    go_wp2_with (at_builtin; refine wp_que rfl _ _ rfl (v := .slice A8 todo'.length c9) rfl HQ9.out rfl HCS.out ?x2 ?x3 ?_)
                    case x2 => omega
                    case x3 => omega
                    intro v' w' hq' hg' hv'
                    have HQ10 := Lib.hid hq'
                    have HB10 := Lib.hid (HB9.out.trans (show Below w2.heap.size _ w' from (But.of_grown hg').below (by omega) (fun k hk => (HQ9.out.block (by rwa [Option.mem_toList] at hk)).1)))
                    have HGQ10 := Lib.hid (show v'.ownBlock ≠ some g2 from fun e => by
                      rcases hv' with h | ⟨k', h, h2⟩
                      · exact HGQ7.out (h ▸ e)
                      · rw [h] at e; injection e with e; omega)
                    have HCL10 := Lib.hid (show ∀ j (hj : j < L.length), w'.cell? ⟨g2, j, none⟩ = some (.int .i64 L[j]) from fun j hj => by
                      rw [← HCL9.out j hj]
                      unfold World.cell?
                      rw [hg'.block g2 (by omega) (fun e => HGQ7.out e.symm)])
                    have hzz := hg'.size
                    have hlt2 : (todo' ++ [v]).length ≤ todo.length + (j + 1) := by rw [List.length_append]; simp; omega
                    have HLT2 := Lib.hid hlt2
                    clear hq' hg' hv' p2 zv hlt2
                    go_wp2_with fail
                    go_roundg (L.length - (j + 1))
                    case measure => rw [Hk3.out]; omega
                    case rel => exact ⟨M2, todo' ++ [v], j + 1, rfl, by go_num, by omega, rfl, HALT6.out, HMET2.out, HQ10.out, HGQ10.out, by omega, HCL10.out, HB10.out, HLT2.out⟩
                · have hje : j = L.length := by omega
                  have hjl' : ¬ (j : Int) < L.length := by omega
                  have HALT4 := Lib.hid (HALT3.out.close (fun y hy => by
                    obtain ⟨i, hi, e⟩ := List.getElem_of_mem (HL.out.2 y hy)
                    have := HMET.out i hi (by omega)
                    rw [e] at this
                    simpa using this))
                  clear hje
                  go_wp2_with fail
                  go_roundg (unseen B' * 65 + todo'.length)
                  case measure => rw [Hk2.out, hlen8]; have := HUN.out; omega
                  case rel => exact ⟨B', M', todo', rfl, rfl, rfl, by have := Hk2.out; have := HUN.out; omega, HALT4.out, HQ7.out, HB7.out⟩
end Go.Proofs.YtnjikhhegebkiaaDoor
