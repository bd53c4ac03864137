/-
  (*poset.pairing).grow: what it does. Written by an AI agent.
-/
import Derived.Test.YtnjikhhegebkiaaDoorKuhnLaw
import Derived.Test.YtnjikhhegebkiaaDoorRws
import Derived.Test.YtnjikhhegebkiaaDoorRegion5
import Derived.Test.YtnjikhhegebkiaaDoorRun
namespace Go.Proofs.YtnjikhhegebkiaaDoor
open Go.RowKit

theorem tab_but {S : List Nat} {w w' : World} (h : But S w w') (hT : Tab w) (h0 : 0 ∉ S) : Tab w' := fun j hj => by
  rw [← hT j hj]
  have := World.block_lt_of_cell? w _ (hT j hj)
  unfold World.cell?
  rw [h.block 0 this h0]

/-- where the pairing lies -/
structure Lay where
  gP : Nat
  ga : Nat
  gn : Nat
  gp : Nat
  cA : Nat
  RA : Array Value
/-- the pairing in memory, and what is seen -/
structure KM (y : Lay) (n : Nat) (Ab : List Nat) (w : World) (nx pv : List Int) : Prop where
  P : Blk w y.gP 56 #[.slice (some ⟨y.ga, 0, none⟩) n y.cA, .slice (some ⟨y.gn, 0, none⟩) n n, .slice (some ⟨y.gp, 0, none⟩) n n]
  A : Blk w y.ga 48 ((setCells Ab).toArray ++ y.RA)
  N : Blk w y.gn 3 ((intCells nx).toArray ++ #[])
  V : Blk w y.gp 3 ((intCells pv).toArray ++ #[])
  ne : y.gn ≠ y.gp
theorem has_is {s : Nat} {x : Int} {p : Bool} (w : World) (h : setHas s x = p) (hs : s < 18446744073709551616) :
    Calls Tryd.prog 22 #[.int .u64 s, .int .i64 x] w fun e w' => e = .returned (.bool p) ∧ w = w' := by
  subst h; exact has_any s x w hs
theorem blk_ne {w : World} {g h : Nat} {t t' : TypeId} {cs cs' : Array Value} (h1 : Blk w g t cs) (h2 : Blk w h t' cs') (ht : t ≠ t') : g ≠ h := fun e => by
  subst e
  unfold Blk at h1 h2
  rw [h1] at h2
  injection h2 with h2
  injection h2 with _ h2
  exact ht h2
theorem Blk.setAt {w : World} {Ab : List Nat} {g x : Nat} {R : Array Value} (h : Blk w g 48 ((setCells Ab).toArray ++ R)) (hx : x < Ab.length) : w.cell? ⟨g, x, none⟩ = some (.int .u64 ((Ab.getD x 0 : Nat) : Int)) := by
  rw [h.cell]
  simp [Array.getElem?_append, setCells, List.getElem?_eq_getElem hx]
  omega
set_option maxRecDepth 20000 in
set_option maxHeartbeats 4000000 in
theorem kuhn_any (y : Lay) (n : Nat) (Ab : List Nat) (gs : Nat) (hA : AbOk n Ab) (hn : n ≤ 64) : ∀ (f : Nat) (x : Nat) (t : St) (w : World), unseen t.s < f → x < n → StOk n t → KM y n Ab w t.nx t.pv → Blk w gs 48 #[.int .u64 t.s] → gs ≠ y.ga → Tab w → 0 ∉ [y.gn, y.gp, gs] →
    Calls Tryd.prog 41 #[.pointer (some ⟨y.gP, 0, none⟩), .int .i64 x, .pointer (some ⟨gs, 0, none⟩)] w (fun e w' => e = .returned (.bool (growF Ab f x t).1) ∧ But [y.gn, y.gp, gs] w w' ∧ KM y n Ab w' (growF Ab f x t).2.nx (growF Ab f x t).2.pv ∧ Blk w' gs 48 #[.int .u64 (growF Ab f x t).2.s]) := by
  intro f
  induction f with
  | zero => intro x t w h; exact absurd h (Nat.not_lt_zero _)
  | succ f ih =>
    intro x t w hf hx hst hK hs hsa hT h0
    obtain ⟨gP, ga, gn, gp, cA, RA⟩ := y
    simp only at hsa h0
    have HST := Lib.hid hst
    have HK := Lib.hid hK
    have HS := Lib.hid hs
    have HT := Lib.hid hT
    have H0 := Lib.hid h0
    have IH := Lib.hid ih
    have HN := Lib.hid (show gP ∉ [gn, gp, gs] ∧ ga ∉ [gn, gp, gs] ∧ gs ≠ gn ∧ gs ≠ gp by
      have a1 := blk_ne hK.P hK.N (by decide)
      have a2 := blk_ne hK.P hK.V (by decide)
      have a3 := blk_ne hK.P hs (by decide)
      have a4 := blk_ne hK.A hK.N (by decide)
      have a5 := blk_ne hK.A hK.V (by decide)
      have a6 := blk_ne hs hK.N (by decide)
      have a7 := blk_ne hs hK.V (by decide)
      simp only [List.mem_cons, List.not_mem_nil, or_false, not_or]
      exact ⟨⟨a1, a2, a3⟩, ⟨a4, a5, hsa.symm⟩, a6, a7⟩)
    have p0 : w.cell? ⟨gP, 0, none⟩ = some (.slice (some ⟨ga, 0, none⟩) n cA) := hK.P.cell 0
    have hlA := hA.len
    have p1 := hK.A.setAt (x := x) (by omega)
    have hlt := hA.lt x
    have hpos : 0 < w.heap.size := Nat.lt_of_le_of_lt (Nat.zero_le _) hK.P.lt
    have hxn : (x : Int) < n := by omega
    obtain ⟨S, hS⟩ : ∃ S, S = Ab.getD x 0 := ⟨_, rfl⟩
    rw [← hS] at p1 hlt
    have HSS := Lib.hid hS
    have hall := all_any S hlt w hT hpos
    have HL := Lib.hid (show ∀ z ∈ bitsL S 64, ∃ k : Nat, z = k ∧ k < n from fun z hz => by
      obtain ⟨k, rfl, _, hb⟩ := mem_bitsL.1 hz
      exact ⟨k, rfl, hA.bit x k (by rw [← hS]; exact hb)⟩)
    have hll := bitsL_length S 64
    obtain ⟨L, hL⟩ : ∃ L, L = bitsL S 64 := ⟨_, rfl⟩
    rw [← hL] at hall HL hll
    have HG := Lib.hid (show growF Ab (f + 1) x t = growL (growF Ab f) x L t by rw [hL, hS]; rfl)
    have Hf := Lib.hid hf
    have HA := Lib.hid hA
    have HSA := Lib.hid hsa
    rw [HG.out]
    clear hst hK hs hT h0 ih hS hL hsa hf hA
    go_enter Tryd.func41, Tryd.ntmps41
    go_wp2_with fail
    refine hall.mono ?_
    rintro e w2 ⟨v, rfl, hb2, ho2⟩
    obtain ⟨A2, c2, rfl⟩ := own_slice ho2
    have HC2 := Lib.hid (Cells.of_own ho2)
    have HO2 := Lib.hid ho2
    have HB2 := Lib.hid (But.of_below [gn, gp, gs] hb2 (Nat.le_refl _))
    have HK2 := Lib.hid (show KM ⟨gP, ga, gn, gp, cA, RA⟩ n Ab w2 t.nx t.pv from ⟨HK.out.P.below hb2 HK.out.P.lt, HK.out.A.below hb2 HK.out.A.lt, HK.out.N.below hb2 HK.out.N.lt, HK.out.V.below hb2 HK.out.V.lt, HK.out.ne⟩)
    have HS2 := Lib.hid (HS.out.below hb2 HS.out.lt)
    have hz2 := hb2.size
    clear hb2 ho2 p0 p1 hall
    go_upto_region 2 with fail
    go_loopg [18] L.length (fun k s18 wr => ∃ (j : Nat) (t' : St), s18 = .int .i64 j ∧ j ≤ L.length ∧ k = L.length - j ∧ StOk n t' ∧ unseen t'.s ≤ unseen t.s ∧ growL (growF Ab f) x (L.drop j) t' = growL (growF Ab f) x L t ∧ KM ⟨gP, ga, gn, gp, cA, RA⟩ n Ab wr t'.nx t'.pv ∧ Blk wr gs 48 #[.int .u64 t'.s] ∧ But [gn, gp, gs] w2 wr)
    case atStart => exact ⟨0, t, rfl, Nat.zero_le _, rfl, HST.out, Nat.le_refl _, rfl, HK2.out, HS2.out, But.refl _ _⟩
    case round =>
      obtain ⟨j, t', rfl, hj, hk, hst', hun, hres, hkm, hsm, hbt⟩ := hrel
      have Hk := Lib.hid hk
      have HST' := Lib.hid hst'
      have HUN := Lib.hid hun
      have HR := Lib.hid hres
      have HKM := Lib.hid hkm
      have HSM := Lib.hid hsm
      have HBT := Lib.hid hbt
      clear hk hst' hun hres hkm hsm hbt
      by_cases hjl : j < L.length
      · have hjl' : (j : Int) < L.length := by omega
        obtain ⟨k, hk1, hkn⟩ := HL.out L[j] (List.getElem_mem hjl)
        obtain ⟨g2, R2, hA2, hg2, hb2, _⟩ := own_some HO2.out (by omega)
        subst hA2
        have cj : wr.cell? ⟨g2, j, none⟩ = some (.int .i64 k) := by
          have h1 := (HBT.out.blk hb2 (by
            have h1 := HK.out.N.lt
            have h2 := HK.out.V.lt
            have h3 := HS.out.lt
            simp only at h1 h2
            simp only [List.mem_cons, List.not_mem_nil, or_false, not_or]
            omega)).intR hjl
          rw [h1, List.getD_eq_getElem?_getD, List.getElem?_eq_getElem hjl]
          simp only [Option.getD_some]
          rw [hk1]
        have c0 := HSM.out.cell 0
        simp only [List.getElem?_toArray, List.getElem?_cons_zero] at c0
        have HD := Lib.hid (List.drop_eq_getElem_cons hjl)
        have HK1 := Lib.hid hk1
        have hkn' : (k : Int) < n := by omega
        have hk64 : k < 64 := by omega
        clear hk1 hb2 hg2
        by_cases hs : setHas t'.s (k : Int) = true
        · have HR2 := Lib.hid (show growL (growF Ab f) x (L.drop (j + 1)) t' = growL (growF Ab f) x L t by
            rw [← HR.out, HD.out, HK1.out]
            conv => rhs; unfold growL
            rw [if_pos hs])
          have hhas := has_is (s := t'.s) (x := (k : Int)) (p := true) wr hs HST'.out.s
          clear hs
          go_wp2_with fail
          refine hhas.mono ?_
          rintro e w3 ⟨rfl, rfl⟩
          clear hhas
          go_wp2_with fail
          go_roundg (L.length - (j + 1))
          case measure => rw [Hk.out]; omega
          case rel => exact ⟨j + 1, t', by go_num, by omega, rfl, HST'.out, HUN.out, HR2.out, HKM.out, HSM.out, HBT.out⟩
        · have hs' : setHas t'.s (k : Int) = false := by simpa using hs
          have hbit : t'.s.testBit k = false := by rw [← setHas_nat t'.s k hk64]; exact hs'
          have Hbit := Lib.hid hbit
          have HRD := Lib.hid (show growL (growF Ab f) x (L.drop j) t' = if (t'.see (k : Int)).back (k : Int) = -1 then (true, (t'.see (k : Int)).put x k) else if (growF Ab f ((t'.see (k : Int)).back (k : Int)).toNat (t'.see (k : Int))).1 = true then (true, (growF Ab f ((t'.see (k : Int)).back (k : Int)).toNat (t'.see (k : Int))).2.put x k) else growL (growF Ab f) x (L.drop (j + 1)) (growF Ab f ((t'.see (k : Int)).back (k : Int)).toNat (t'.see (k : Int))).2 by
            rw [HD.out, HK1.out]
            conv => lhs; unfold growL
            rw [if_neg hs])
          have hhas := has_is (s := t'.s) (x := (k : Int)) (p := false) wr hs' HST'.out.s
          have HST1 := Lib.hid (HST'.out.see (k : Int))
          have HUN1 := Lib.hid (show unseen (t'.see (k : Int)).s < f by
            have := see_lt hk64 hbit
            have := HUN.out
            have := Hf.out
            omega)
          have HUN2 := Lib.hid (show unseen (t'.see (k : Int)).s ≤ unseen t.s by
            have := see_lt hk64 hbit
            have := HUN.out
            omega)
          have HOR := Lib.hid (show bits .or .u64 (t'.s : Int) ((ofSet [(k : Int)] : Nat) : Int) = (((t'.see (k : Int)).s : Nat) : Int) from u64_or_nat _ _ HST'.out.s (ofSet_lt _))
          have HT1 := Lib.hid (show (t'.see (k : Int)).nx = t'.nx ∧ (t'.see (k : Int)).pv = t'.pv from ⟨rfl, rfl⟩)
          have hbk := HST1.out.back k hkn
          have hbke : (t'.see (k : Int)).back (k : Int) = (t'.see (k : Int)).pv.getD k 0 := by unfold St.back; simp
          obtain ⟨s, hss⟩ : ∃ s, s = t'.s := ⟨_, rfl⟩
          have HSM2 := Lib.hid (show Blk wr gs 48 #[.int .u64 s] by rw [hss]; exact HSM.out)
          rw [← hss] at HOR
          rw [← hss] at c0
          rw [← hss] at hhas
          clear hs hs' hbit hss
          go_wp2_with fail
          refine hhas.mono ?_
          rintro e w3 ⟨rfl, rfl⟩
          clear hhas cj c0
          obtain ⟨t1, ht1⟩ : ∃ t1, t1 = t'.see (k : Int) := ⟨_, rfl⟩
          rw [← ht1] at HRD HST1 HUN1 HUN2 HOR HT1 hbk hbke
          obtain ⟨s1, hs1⟩ : ∃ s1, s1 = t1.s := ⟨_, rfl⟩
          rw [← hs1] at HOR
          have HS1 := Lib.hid hs1
          obtain ⟨v, hv⟩ : ∃ v, v = t1.pv.getD k 0 := ⟨_, rfl⟩
          rw [← hv] at hbk hbke
          have HV := Lib.hid hv
          have HBK := Lib.hid hbke
          clear ht1 hs1 hv hbke
          go_upto_region 5 with fail
          go_cut [] (fun wc => KM ⟨gP, ga, gn, gp, cA, RA⟩ n Ab wc t1.nx t1.pv ∧ Blk wc gs 48 #[.int .u64 s1] ∧ But [gn, gp, gs] w2 wc)
          case first =>
            refine R5.wp_region_b [[], [gs]] [0, 0, 0, 0, 0, 0, 0, 0, 1]
              [([], .val (.pointer (some ⟨gs, 0, none⟩))), ([0], .val (.pointer (some ⟨gs, 0, none⟩))), ([1], .val (.int .u64 s)), ([], .val (.int .i64 k)), ([3], .row 3 #[.int .i64 k] 1 1), ([4], .val (.int .u64 (ofSet [(k : Int)] : Nat))), ([2, 5], .val (.int .u64 s1)), ([0], .val (.pointer (some ⟨gs, 0, none⟩))), ([7, 6], .blk 1 gs 48 #[.int .u64 s1] (by intro c hc; match c with | 0 => simp | 1 => exact absurd rfl hc | c + 2 => simp))] [8] (by kernel_rfl) (by kernel_rfl) (fun us => ?_) ?_
            · refine R5.pgo_pure _ rfl rfl (fun wv hw hu => ⟨.pointer (some ⟨gs, 0, none⟩), ?_, rfl⟩) ?_
              · have tok := True.intro
                clear hw hu
                go_simp
              refine R5.pgo_pure _ rfl rfl (fun wv hw hu => ⟨.pointer (some ⟨gs, 0, none⟩), ?_, rfl⟩) ?_
              · have tok := True.intro
                have h0 : us 0 = .pointer (some ⟨gs, 0, none⟩) := hu.1
                clear hw hu
                go_simp
              refine R5.pgo_pure _ rfl rfl (fun wv hw hu => ⟨.int .u64 s, ?_, rfl⟩) ?_
              · have tok := True.intro
                have h1 : us 1 = .pointer (some ⟨gs, 0, none⟩) := hu.1
                have zy : wv.cell? ⟨gs, 0, none⟩ = some (.int .u64 s) := ((R5.BW.in_ hw [] rfl (by kernel_rfl)).blk HSM2.out.drew (by simp)).cell 0
                clear hw hu
                go_simp
              refine R5.pgo_pure _ rfl rfl (fun wv hw hu => ⟨.int .i64 k, ?_, rfl⟩) ?_
              · have tok := True.intro
                clear hw hu
                go_simp
              refine R3.pgo_val _ rfl rfl (fun wv hw hu => ?_) ?_
              · have tok := True.intro
                have h3 : us 3 = .int .i64 k := hu.1
                refine ⟨.slice (some ⟨wv.heap.size, 0, none⟩) 1 1, wv.alloc (.cells #[.int .i64 k] 3), ?_, But.of_below _ ((Below.refl _ _).alloc (Nat.le_refl _) _) (Nat.le_refl _), wv.heap.size, rfl, ?_, Blk.new _ _ _⟩
                · clear hw hu
                  go_simp
                · have hb := (R5.BW.in_ hw [] rfl (by kernel_rfl)).blk HSM2.out.drew (by simp)
                  have := hb.lt
                  simp
                  omega
              refine R3.pgo_op _ rfl rfl (fun K wv hw hu hK => ?_) ?_
              · have tok := True.intro
                obtain ⟨gr, h4, hgr, hbr⟩ := hu.1
                refine wpo_call (f := 26) (args := #[.slice (some ⟨gr, 0, none⟩) 1 1]) ?_ ((of_any (some ⟨gr, 0, none⟩) 1 [(k : Int)] wv (Cells.of_blk (R := #[]) (by simpa [intCells] using hbr) |>.more hbr.lt) (by simp)).mono ?_)
                · clear hK hw hu hbr
                  go_simp
                rintro e w' ⟨rfl, rfl⟩
                exact ⟨_, rfl, hK _ _ (But.refl _ _) rfl⟩
              refine R5.pgo_pure _ rfl rfl (fun wv hw hu => ⟨.int .u64 s1, ?_, rfl⟩) ?_
              · have tok := True.intro
                have h2 : us 2 = .int .u64 s := hu.1
                have h5 : us 5 = .int .u64 (ofSet [(k : Int)] : Nat) := hu.2.1
                have eo := HOR.out
                clear hw hu
                go_simp
              refine R5.pgo_pure _ rfl rfl (fun wv hw hu => ⟨.pointer (some ⟨gs, 0, none⟩), ?_, rfl⟩) ?_
              · have tok := True.intro
                have h0 : us 0 = .pointer (some ⟨gs, 0, none⟩) := hu.1
                clear hw hu
                go_simp
              refine R3.pgo_skip _ rfl rfl (fun wv hw hu => ?_) ?_
              · have tok := True.intro
                have h7 : us 7 = .pointer (some ⟨gs, 0, none⟩) := hu.1
                have h6 : us 6 = .int .u64 s1 := hu.2.1
                have hbv := ((R5.BW.in_ hw [] rfl (by kernel_rfl)).blk HSM2.out.drew (by simp))
                have fy := hbv.frozen 0
                have zy := hbv.cell 0
                have hfin : Blk (wv.setCell ⟨gs, 0, none⟩ (.int .u64 s1)) gs 48 #[.int .u64 s1] := by simpa using hbv.set_ 0 (.int .u64 s1)
                refine ⟨wv.setCell ⟨gs, 0, none⟩ (.int .u64 s1), ?_, But.set_ wv (by simp) 0 _, hfin⟩
                clear hw hu
                clear hbv hfin
                simp only [List.getElem?_toArray, List.getElem?_cons_zero] at zy
                go_simp
              trivial
            · intro us w6 hw hu
              have hsb : Blk w6 gs 48 #[.int .u64 s1] := hu.1
              have hb6 : But [gs] wr.drew w6 := R5.BW.in_ hw [1] rfl (by kernel_rfl)
              have HX6 := Lib.hid (show KM ⟨gP, ga, gn, gp, cA, RA⟩ n Ab w6 t1.nx t1.pv ∧ Blk w6 gs 48 #[.int .u64 s1] ∧ But [gn, gp, gs] w2 w6 by
                have q := HN.out
                simp only [List.mem_cons, List.not_mem_nil, or_false, not_or] at q
                obtain ⟨⟨q1, q2, q3⟩, ⟨q4, q5, q6⟩, q7, q8⟩ := q
                rw [HT1.out.1, HT1.out.2]
                exact ⟨⟨hb6.blk HKM.out.P.drew (by simpa using q3), hb6.blk HKM.out.A.drew (by simpa using q6), hb6.blk HKM.out.N.drew (by simpa using q7.symm), hb6.blk HKM.out.V.drew (by simpa using q8.symm), HKM.out.ne⟩, hsb, HBT.out.trans ((hb6.undrew).mono (by simp))⟩)
              clear hw hu hsb hb6
              simp only [lexL]
              go_simp
              go_wp2_with fail
              go_meet
              exact HX6.out
          obtain ⟨w4, rfl⟩ : ∃ y, y = wc := ⟨_, rfl⟩
          obtain ⟨hkm, hsm, hbt⟩ := hcut
          have HKM4 := Lib.hid hkm
          have HSM4 := Lib.hid hsm
          have HBT4 := Lib.hid hbt
          have z2 : w4.cell? ⟨gP, 2, none⟩ = some (.slice (some ⟨gp, 0, none⟩) n n) := hkm.P.cell 2
          have z1 : w4.cell? ⟨gP, 1, none⟩ = some (.slice (some ⟨gn, 0, none⟩) n n) := hkm.P.cell 1
          have zv : w4.cell? ⟨gp, k, none⟩ = some (.int .i64 v) := by
            have := hkm.V.intR (k := k) (by rw [HST1.out.pv]; exact hkn)
            rw [this, ← HV.out]
          clear hkm hsm hbt
          by_cases hv1 : v = -1
          · obtain ⟨nx, hnx⟩ : ∃ nx, nx = t1.nx := ⟨_, rfl⟩
            obtain ⟨pv, hpv⟩ : ∃ pv, pv = t1.pv := ⟨_, rfl⟩
            have HNX := Lib.hid hnx
            have HPV := Lib.hid hpv
            have HLN := Lib.hid (show nx.length = n ∧ pv.length = n by rw [hnx, hpv]; exact ⟨HST1.out.nx, HST1.out.pv⟩)
            have HF := Lib.hid (show growL (growF Ab f) x L t = (true, t1.put x k) by rw [← HR.out, HRD.out, if_pos (HBK.out.trans hv1)])
            rw [← hnx, ← hpv] at HKM4
            have HSM5 := Lib.hid (show Blk w4 gs 48 #[.int .u64 t1.s] by rw [← HS1.out]; exact HSM4.out)
            have HBT5 := HBT4
            subst hv1
            clear hnx hpv
            go_upto_region 7 with fail
            have HNN := Lib.hid (show gP ∉ [gn, gp] by
              have q := HN.out.1
              simp only [List.mem_cons, List.not_mem_nil, or_false, not_or] at q ⊢
              exact ⟨q.1, q.2.1⟩)
            have HNE := Lib.hid (show gn ≠ gp from HKM4.out.ne)
            go_cut [] (fun wd => Blk wd gn 3 ((intCells (nx.set x (k : Int))).toArray ++ #[]) ∧ Blk wd gp 3 ((intCells (pv.set k (x : Int))).toArray ++ #[]) ∧ But [gn, gp] w4 wd)
            case first =>
              refine R5.wp_region_b [[], [gn], [gp]] [0, 0, 0, 0, 0, 0, 0, 0, 0, 0, 0, 0, 0, 1, 0, 2]
                [([], .val (.pointer (some ⟨gP, 0, none⟩))), ([0], .val (.pointer (some ⟨gP, 0, none⟩))), ([1], .val (.pointer (some ⟨gP, 1, none⟩))), ([2], .val (.slice (some ⟨gn, 0, none⟩) n n)), ([], .val (.int .i64 x)), ([], .val (.pointer (some ⟨gP, 0, none⟩))), ([5], .val (.pointer (some ⟨gP, 0, none⟩))), ([6], .val (.pointer (some ⟨gP, 2, none⟩))), ([7], .val (.slice (some ⟨gp, 0, none⟩) n n)), ([], .val (.int .i64 k)), ([], .val (.int .i64 k)), ([], .val (.int .i64 x)), ([3, 4], .val (.pointer (some ⟨gn, x, none⟩))), ([12, 10], .blk 1 gn 3 ((intCells (nx.set x (k : Int))).toArray ++ #[]) (by have := HNE.out; intro c hc; match c with | 0 => simp | 1 => exact absurd rfl hc | 2 => simpa using this | c + 3 => simp)), ([8, 9], .val (.pointer (some ⟨gp, k, none⟩))), ([14, 11], .blk 2 gp 3 ((intCells (pv.set k (x : Int))).toArray ++ #[]) (by have := HNE.out; intro c hc; match c with | 0 => simp | 1 => simpa using this.symm | 2 => exact absurd rfl hc | c + 3 => simp))] [13, 15] (by kernel_rfl) (by kernel_rfl) (fun us => ?_) ?_
              · refine R5.pgo_pure _ rfl rfl (fun wv hw hu => ⟨.pointer (some ⟨gP, 0, none⟩), ?_, rfl⟩) ?_
                · have tok := True.intro
                  clear hw hu
                  go_simp
                refine R5.pgo_pure _ rfl rfl (fun wv hw hu => ⟨.pointer (some ⟨gP, 0, none⟩), ?_, rfl⟩) ?_
                · have tok := True.intro
                  have h0 : us 0 = .pointer (some ⟨gP, 0, none⟩) := hu.1
                  clear hw hu
                  go_simp
                refine R5.pgo_pure _ rfl rfl (fun wv hw hu => ⟨.pointer (some ⟨gP, 1, none⟩), ?_, rfl⟩) ?_
                · have tok := True.intro
                  have h1 : us 1 = .pointer (some ⟨gP, 0, none⟩) := hu.1
                  clear hw hu
                  go_simp
                refine R5.pgo_pure _ rfl rfl (fun wv hw hu => ⟨.slice (some ⟨gn, 0, none⟩) n n, ?_, rfl⟩) ?_
                · have tok := True.intro
                  have h2 : us 2 = .pointer (some ⟨gP, 1, none⟩) := hu.1
                  have zy : wv.cell? ⟨gP, 1, none⟩ = some (.slice (some ⟨gn, 0, none⟩) n n) := ((R5.BW.in_ hw [1, 2] rfl (by kernel_rfl)).blk HKM4.out.P.drew (by simpa using HNN.out)).cell 1
                  clear hw hu
                  go_simp
                refine R5.pgo_pure _ rfl rfl (fun wv hw hu => ⟨.int .i64 x, ?_, rfl⟩) ?_
                · have tok := True.intro
                  clear hw hu
                  go_simp
                refine R5.pgo_pure _ rfl rfl (fun wv hw hu => ⟨.pointer (some ⟨gP, 0, none⟩), ?_, rfl⟩) ?_
                · have tok := True.intro
                  clear hw hu
                  go_simp
                refine R5.pgo_pure _ rfl rfl (fun wv hw hu => ⟨.pointer (some ⟨gP, 0, none⟩), ?_, rfl⟩) ?_
                · have tok := True.intro
                  have h5 : us 5 = .pointer (some ⟨gP, 0, none⟩) := hu.1
                  clear hw hu
                  go_simp
                refine R5.pgo_pure _ rfl rfl (fun wv hw hu => ⟨.pointer (some ⟨gP, 2, none⟩), ?_, rfl⟩) ?_
                · have tok := True.intro
                  have h6 : us 6 = .pointer (some ⟨gP, 0, none⟩) := hu.1
                  clear hw hu
                  go_simp
                refine R5.pgo_pure _ rfl rfl (fun wv hw hu => ⟨.slice (some ⟨gp, 0, none⟩) n n, ?_, rfl⟩) ?_
                · have tok := True.intro
                  have h7 : us 7 = .pointer (some ⟨gP, 2, none⟩) := hu.1
                  have zy : wv.cell? ⟨gP, 2, none⟩ = some (.slice (some ⟨gp, 0, none⟩) n n) := ((R5.BW.in_ hw [1, 2] rfl (by kernel_rfl)).blk HKM4.out.P.drew (by simpa using HNN.out)).cell 2
                  clear hw hu
                  go_simp
                refine R5.pgo_pure _ rfl rfl (fun wv hw hu => ⟨.int .i64 k, ?_, rfl⟩) ?_
                · have tok := True.intro
                  clear hw hu
                  go_simp
                refine R5.pgo_pure _ rfl rfl (fun wv hw hu => ⟨.int .i64 k, ?_, rfl⟩) ?_
                · have tok := True.intro
                  clear hw hu
                  go_simp
                refine R5.pgo_pure _ rfl rfl (fun wv hw hu => ⟨.int .i64 x, ?_, rfl⟩) ?_
                · have tok := True.intro
                  clear hw hu
                  go_simp
                refine R5.pgo_pure _ rfl rfl (fun wv hw hu => ⟨.pointer (some ⟨gn, x, none⟩), ?_, rfl⟩) ?_
                · have tok := True.intro
                  have h3 : us 3 = .slice (some ⟨gn, 0, none⟩) n n := hu.1
                  have h4 : us 4 = .int .i64 x := hu.2.1
                  clear hw hu
                  go_simp
                refine R3.pgo_skip _ rfl rfl (fun wv hw hu => ?_) ?_
                · have tok := True.intro
                  have h12 : us 12 = .pointer (some ⟨gn, x, none⟩) := hu.1
                  have h10 : us 10 = .int .i64 k := hu.2.1
                  have hbv := ((R5.BW.in_ hw [2] rfl (by kernel_rfl)).blk HKM4.out.N.drew (by simpa using HNE.out))
                  have fy := hbv.frozen x
                  have zy := hbv.intR (k := x) (by rw [HLN.out.1]; exact hx)
                  refine ⟨wv.setCell ⟨gn, x, none⟩ (.int .i64 k), ?_, But.set_ wv (by simp) x _, hbv.setIntR x (k : Int) (by rw [HLN.out.1]; exact hx)⟩
                  clear hw hu
                  clear hbv
                  go_simp
                refine R5.pgo_pure _ rfl rfl (fun wv hw hu => ⟨.pointer (some ⟨gp, k, none⟩), ?_, rfl⟩) ?_
                · have tok := True.intro
                  have h8 : us 8 = .slice (some ⟨gp, 0, none⟩) n n := hu.1
                  have h9 : us 9 = .int .i64 k := hu.2.1
                  clear hw hu
                  go_simp
                refine R3.pgo_skip _ rfl rfl (fun wv hw hu => ?_) ?_
                · have tok := True.intro
                  have h14 : us 14 = .pointer (some ⟨gp, k, none⟩) := hu.1
                  have h11 : us 11 = .int .i64 x := hu.2.1
                  have hbv := ((R5.BW.in_ hw [1] rfl (by kernel_rfl)).blk HKM4.out.V.drew (by simpa using HNE.out.symm))
                  have fy := hbv.frozen k
                  have zy := hbv.intR (k := k) (by rw [HLN.out.2]; exact hkn)
                  refine ⟨wv.setCell ⟨gp, k, none⟩ (.int .i64 x), ?_, But.set_ wv (by simp) k _, hbv.setIntR k (x : Int) (by rw [HLN.out.2]; exact hkn)⟩
                  clear hw hu
                  clear hbv
                  go_simp
                trivial
              · intro us w6 hw hu
                have hsn : Blk w6 gn 3 ((intCells (nx.set x (k : Int))).toArray ++ #[]) := hu.1
                have hsp : Blk w6 gp 3 ((intCells (pv.set k (x : Int))).toArray ++ #[]) := hu.2.1
                have hb6 : But [gn, gp] w4.drew w6 := R5.BW.in_ hw [1, 2] rfl (by kernel_rfl)
                have HX6 := Lib.hid (show Blk w6 gn 3 ((intCells (nx.set x (k : Int))).toArray ++ #[]) ∧ Blk w6 gp 3 ((intCells (pv.set k (x : Int))).toArray ++ #[]) ∧ But [gn, gp] w4 w6 from ⟨hsn, hsp, hb6.undrew⟩)
                clear hw hu hsn hsp hb6
                simp only [lexL]
                go_simp
                go_wp2_with fail
                go_meet
                exact HX6.out
            obtain ⟨hd1, hd2, hd3⟩ := hcut
            have HD1 := Lib.hid hd1
            have HD2 := Lib.hid hd2
            have HD3 := Lib.hid hd3
            clear hd1 hd2 hd3
            go_wp2_with fail
            go_ret
            have HQ := HN.out
            simp only [List.mem_cons, List.not_mem_nil, or_false, not_or] at HQ
            obtain ⟨⟨q1, q2, q3⟩, ⟨q4, q5, q6⟩, q7, q8⟩ := HQ
            refine ⟨by rw [HF.out]; rfl, (HB2.out.trans HBT5.out).trans (HD3.out.mono (S' := [gn, gp, gs]) (by simp)), ?_, ?_⟩
            · rw [HF.out]
              refine ⟨HD3.out.blk HKM4.out.P (by simpa using ⟨q1, q2⟩), HD3.out.blk HKM4.out.A (by simpa using ⟨q4, q5⟩), ?_, ?_, HKM4.out.ne⟩
              · unfold St.put
                rw [← HNX.out]
                exact HD1.out
              · unfold St.put
                rw [← HPV.out]
                simpa using HD2.out
            · rw [HF.out]
              exact HD3.out.blk HSM5.out (by simpa using ⟨q7, q8⟩)
          · obtain ⟨v', rfl⟩ : ∃ v' : Nat, v = (v' : Int) := ⟨v.toNat, by omega⟩
            have hrec := IH.out v' t1 w4 HUN1.out (by omega) HST1.out HKM4.out (by rw [← HS1.out]; exact HSM4.out) HSA.out (tab_but (HB2.out.trans HBT4.out) HT.out H0.out) H0.out
            obtain ⟨q, hq⟩ : ∃ q, q = growF Ab f v' t1 := ⟨_, rfl⟩
            rw [← hq] at hrec
            have HST2 := Lib.hid (show StOk n q.2 ∧ More t1 q.2 by rw [hq]; exact growF_ok HA.out hn f v' t1 (by omega) HST1.out)
            have HRE := Lib.hid (show growL (growF Ab f) x L t = if q.1 = true then (true, q.2.put x k) else growL (growF Ab f) x (L.drop (j + 1)) q.2 by
              rw [← HR.out, HRD.out, if_neg (by rw [HBK.out]; omega), HBK.out, Int.toNat_natCast, ← hq])
            have hv1' : ((v' : Int) == -1) = false := by rw [beq_eq_false_iff_ne]; omega
            clear hq hv1
            cases hb : q.1 with
            | true =>
              rw [hb] at hrec
              have HF := Lib.hid (show growL (growF Ab f) x L t = (true, q.2.put x k) by rw [HRE.out, if_pos hb])
              clear hb
              go_wp2_with fail
              refine hrec.mono ?_
              rintro e w5 ⟨rfl, hb5, hk5, hs5⟩
              obtain ⟨nx, hnx⟩ : ∃ nx, nx = q.2.nx := ⟨_, rfl⟩
              obtain ⟨pv, hpv⟩ : ∃ pv, pv = q.2.pv := ⟨_, rfl⟩
              have HNX := Lib.hid hnx
              have HPV := Lib.hid hpv
              have HLN := Lib.hid (show nx.length = n ∧ pv.length = n by rw [hnx, hpv]; exact ⟨HST2.out.1.nx, HST2.out.1.pv⟩)
              rw [← hnx, ← hpv] at hk5
              clear HKM4
              have HKM4 := Lib.hid hk5
              have HSM5 := Lib.hid hs5
              have HBT5 := Lib.hid (HBT4.out.trans hb5)
              have z1 : w5.cell? ⟨gP, 1, none⟩ = some (.slice (some ⟨gn, 0, none⟩) n n) := hk5.P.cell 1
              have z2 : w5.cell? ⟨gP, 2, none⟩ = some (.slice (some ⟨gp, 0, none⟩) n n) := hk5.P.cell 2
              clear hnx hpv hb5 hk5 hs5 hrec zv
              go_upto_region 7 with fail
              have HNN := Lib.hid (show gP ∉ [gn, gp] by
                have q := HN.out.1
                simp only [List.mem_cons, List.not_mem_nil, or_false, not_or] at q ⊢
                exact ⟨q.1, q.2.1⟩)
              have HNE := Lib.hid (show gn ≠ gp from HKM4.out.ne)
              go_cut [] (fun wd => Blk wd gn 3 ((intCells (nx.set x (k : Int))).toArray ++ #[]) ∧ Blk wd gp 3 ((intCells (pv.set k (x : Int))).toArray ++ #[]) ∧ But [gn, gp] w5 wd)
              case first =>
                refine R5.wp_region_b [[], [gn], [gp]] [0, 0, 0, 0, 0, 0, 0, 0, 0, 0, 0, 0, 0, 1, 0, 2]
                  [([], .val (.pointer (some ⟨gP, 0, none⟩))), ([0], .val (.pointer (some ⟨gP, 0, none⟩))), ([1], .val (.pointer (some ⟨gP, 1, none⟩))), ([2], .val (.slice (some ⟨gn, 0, none⟩) n n)), ([], .val (.int .i64 x)), ([], .val (.pointer (some ⟨gP, 0, none⟩))), ([5], .val (.pointer (some ⟨gP, 0, none⟩))), ([6], .val (.pointer (some ⟨gP, 2, none⟩))), ([7], .val (.slice (some ⟨gp, 0, none⟩) n n)), ([], .val (.int .i64 k)), ([], .val (.int .i64 k)), ([], .val (.int .i64 x)), ([3, 4], .val (.pointer (some ⟨gn, x, none⟩))), ([12, 10], .blk 1 gn 3 ((intCells (nx.set x (k : Int))).toArray ++ #[]) (by have := HNE.out; intro c hc; match c with | 0 => simp | 1 => exact absurd rfl hc | 2 => simpa using this | c + 3 => simp)), ([8, 9], .val (.pointer (some ⟨gp, k, none⟩))), ([14, 11], .blk 2 gp 3 ((intCells (pv.set k (x : Int))).toArray ++ #[]) (by have := HNE.out; intro c hc; match c with | 0 => simp | 1 => simpa using this.symm | 2 => exact absurd rfl hc | c + 3 => simp))] [13, 15] (by kernel_rfl) (by kernel_rfl) (fun us => ?_) ?_
                · refine R5.pgo_pure _ rfl rfl (fun wv hw hu => ⟨.pointer (some ⟨gP, 0, none⟩), ?_, rfl⟩) ?_
                  · have tok := True.intro
                    clear hw hu
                    go_simp
                  refine R5.pgo_pure _ rfl rfl (fun wv hw hu => ⟨.pointer (some ⟨gP, 0, none⟩), ?_, rfl⟩) ?_
                  · have tok := True.intro
                    have h0 : us 0 = .pointer (some ⟨gP, 0, none⟩) := hu.1
                    clear hw hu
                    go_simp
                  refine R5.pgo_pure _ rfl rfl (fun wv hw hu => ⟨.pointer (some ⟨gP, 1, none⟩), ?_, rfl⟩) ?_
                  · have tok := True.intro
                    have h1 : us 1 = .pointer (some ⟨gP, 0, none⟩) := hu.1
                    clear hw hu
                    go_simp
                  refine R5.pgo_pure _ rfl rfl (fun wv hw hu => ⟨.slice (some ⟨gn, 0, none⟩) n n, ?_, rfl⟩) ?_
                  · have tok := True.intro
                    have h2 : us 2 = .pointer (some ⟨gP, 1, none⟩) := hu.1
                    have zy : wv.cell? ⟨gP, 1, none⟩ = some (.slice (some ⟨gn, 0, none⟩) n n) := ((R5.BW.in_ hw [1, 2] rfl (by kernel_rfl)).blk HKM4.out.P.drew (by simpa using HNN.out)).cell 1
                    clear hw hu
                    go_simp
                  refine R5.pgo_pure _ rfl rfl (fun wv hw hu => ⟨.int .i64 x, ?_, rfl⟩) ?_
                  · have tok := True.intro
                    clear hw hu
                    go_simp
                  refine R5.pgo_pure _ rfl rfl (fun wv hw hu => ⟨.pointer (some ⟨gP, 0, none⟩), ?_, rfl⟩) ?_
                  · have tok := True.intro
                    clear hw hu
                    go_simp
                  refine R5.pgo_pure _ rfl rfl (fun wv hw hu => ⟨.pointer (some ⟨gP, 0, none⟩), ?_, rfl⟩) ?_
                  · have tok := True.intro
                    have h5 : us 5 = .pointer (some ⟨gP, 0, none⟩) := hu.1
                    clear hw hu
                    go_simp
                  refine R5.pgo_pure _ rfl rfl (fun wv hw hu => ⟨.pointer (some ⟨gP, 2, none⟩), ?_, rfl⟩) ?_
                  · have tok := True.intro
                    have h6 : us 6 = .pointer (some ⟨gP, 0, none⟩) := hu.1
                    clear hw hu
                    go_simp
                  refine R5.pgo_pure _ rfl rfl (fun wv hw hu => ⟨.slice (some ⟨gp, 0, none⟩) n n, ?_, rfl⟩) ?_
                  · have tok := True.intro
                    have h7 : us 7 = .pointer (some ⟨gP, 2, none⟩) := hu.1
                    have zy : wv.cell? ⟨gP, 2, none⟩ = some (.slice (some ⟨gp, 0, none⟩) n n) := ((R5.BW.in_ hw [1, 2] rfl (by kernel_rfl)).blk HKM4.out.P.drew (by simpa using HNN.out)).cell 2
                    clear hw hu
                    go_simp
                  refine R5.pgo_pure _ rfl rfl (fun wv hw hu => ⟨.int .i64 k, ?_, rfl⟩) ?_
                  · have tok := True.intro
                    clear hw hu
                    go_simp
                  refine R5.pgo_pure _ rfl rfl (fun wv hw hu => ⟨.int .i64 k, ?_, rfl⟩) ?_
                  · have tok := True.intro
                    clear hw hu
                    go_simp
                  refine R5.pgo_pure _ rfl rfl (fun wv hw hu => ⟨.int .i64 x, ?_, rfl⟩) ?_
                  · have tok := True.intro
                    clear hw hu
                    go_simp
                  refine R5.pgo_pure _ rfl rfl (fun wv hw hu => ⟨.pointer (some ⟨gn, x, none⟩), ?_, rfl⟩) ?_
                  · have tok := True.intro
                    have h3 : us 3 = .slice (some ⟨gn, 0, none⟩) n n := hu.1
                    have h4 : us 4 = .int .i64 x := hu.2.1
                    clear hw hu
                    go_simp
                  refine R3.pgo_skip _ rfl rfl (fun wv hw hu => ?_) ?_
                  · have tok := True.intro
                    have h12 : us 12 = .pointer (some ⟨gn, x, none⟩) := hu.1
                    have h10 : us 10 = .int .i64 k := hu.2.1
                    have hbv := ((R5.BW.in_ hw [2] rfl (by kernel_rfl)).blk HKM4.out.N.drew (by simpa using HNE.out))
                    have fy := hbv.frozen x
                    have zy := hbv.intR (k := x) (by rw [HLN.out.1]; exact hx)
                    refine ⟨wv.setCell ⟨gn, x, none⟩ (.int .i64 k), ?_, But.set_ wv (by simp) x _, hbv.setIntR x (k : Int) (by rw [HLN.out.1]; exact hx)⟩
                    clear hw hu
                    clear hbv
                    go_simp
                  refine R5.pgo_pure _ rfl rfl (fun wv hw hu => ⟨.pointer (some ⟨gp, k, none⟩), ?_, rfl⟩) ?_
                  · have tok := True.intro
                    have h8 : us 8 = .slice (some ⟨gp, 0, none⟩) n n := hu.1
                    have h9 : us 9 = .int .i64 k := hu.2.1
                    clear hw hu
                    go_simp
                  refine R3.pgo_skip _ rfl rfl (fun wv hw hu => ?_) ?_
                  · have tok := True.intro
                    have h14 : us 14 = .pointer (some ⟨gp, k, none⟩) := hu.1
                    have h11 : us 11 = .int .i64 x := hu.2.1
                    have hbv := ((R5.BW.in_ hw [1] rfl (by kernel_rfl)).blk HKM4.out.V.drew (by simpa using HNE.out.symm))
                    have fy := hbv.frozen k
                    have zy := hbv.intR (k := k) (by rw [HLN.out.2]; exact hkn)
                    refine ⟨wv.setCell ⟨gp, k, none⟩ (.int .i64 x), ?_, But.set_ wv (by simp) k _, hbv.setIntR k (x : Int) (by rw [HLN.out.2]; exact hkn)⟩
                    clear hw hu
                    clear hbv
                    go_simp
                  trivial
                · intro us w6 hw hu
                  have hsn : Blk w6 gn 3 ((intCells (nx.set x (k : Int))).toArray ++ #[]) := hu.1
                  have hsp : Blk w6 gp 3 ((intCells (pv.set k (x : Int))).toArray ++ #[]) := hu.2.1
                  have hb6 : But [gn, gp] w5.drew w6 := R5.BW.in_ hw [1, 2] rfl (by kernel_rfl)
                  have HX6 := Lib.hid (show Blk w6 gn 3 ((intCells (nx.set x (k : Int))).toArray ++ #[]) ∧ Blk w6 gp 3 ((intCells (pv.set k (x : Int))).toArray ++ #[]) ∧ But [gn, gp] w5 w6 from ⟨hsn, hsp, hb6.undrew⟩)
                  clear hw hu hsn hsp hb6
                  simp only [lexL]
                  go_simp
                  go_wp2_with fail
                  go_meet
                  exact HX6.out
              obtain ⟨hd1, hd2, hd3⟩ := hcut
              have HD1 := Lib.hid hd1
              have HD2 := Lib.hid hd2
              have HD3 := Lib.hid hd3
              clear hd1 hd2 hd3
              go_wp2_with fail
              go_ret
              have HQ := HN.out
              simp only [List.mem_cons, List.not_mem_nil, or_false, not_or] at HQ
              obtain ⟨⟨q1, q2, q3⟩, ⟨q4, q5, q6⟩, q7, q8⟩ := HQ
              refine ⟨by rw [HF.out]; rfl, (HB2.out.trans HBT5.out).trans (HD3.out.mono (S' := [gn, gp, gs]) (by simp)), ?_, ?_⟩
              · rw [HF.out]
                refine ⟨HD3.out.blk HKM4.out.P (by simpa using ⟨q1, q2⟩), HD3.out.blk HKM4.out.A (by simpa using ⟨q4, q5⟩), ?_, ?_, HKM4.out.ne⟩
                · unfold St.put
                  rw [← HNX.out]
                  exact HD1.out
                · unfold St.put
                  rw [← HPV.out]
                  simpa using HD2.out
              · rw [HF.out]
                exact HD3.out.blk HSM5.out (by simpa using ⟨q7, q8⟩)
            | false =>
              rw [hb] at hrec
              have HF := Lib.hid (show growL (growF Ab f) x (L.drop (j + 1)) q.2 = growL (growF Ab f) x L t by rw [HRE.out, hb]; rfl)
              clear hb
              go_wp2_with fail
              refine hrec.mono ?_
              rintro e w5 ⟨rfl, hb5, hk5, hs5⟩
              have HKM5 := Lib.hid hk5
              have HSM5 := Lib.hid hs5
              have HBT5 := Lib.hid (HBT4.out.trans hb5)
              have HUN5 := Lib.hid (show unseen q.2.s ≤ unseen t.s from Nat.le_trans (unseen_le fun i _ h => HST2.out.2 i h) HUN2.out)
              clear hb5 hk5 hs5 hrec zv z1 z2
              go_wp2_with fail
              go_roundg (L.length - (j + 1))
              case measure => rw [Hk.out]; omega
              case rel => exact ⟨j + 1, q.2, by go_num, by omega, rfl, HST2.out.1, HUN5.out, HF.out, HKM5.out, HSM5.out, HBT5.out⟩
      · have hje : j = L.length := by omega
        have hjl' : ¬ (j : Int) < L.length := by omega
        have HF := Lib.hid (show growL (growF Ab f) x L t = (false, t') by
          rw [← HR.out, hje, List.drop_length]; rfl)
        clear hje
        go_wp2_with fail
        go_ret
        rw [HF.out]
        exact ⟨rfl, HB2.out.trans HBT.out, HKM.out, HSM.out⟩
end Go.Proofs.YtnjikhhegebkiaaDoor
