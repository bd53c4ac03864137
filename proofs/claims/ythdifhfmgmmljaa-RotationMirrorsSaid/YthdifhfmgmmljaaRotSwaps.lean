/-
  Law RotationSwaps: walked. Written by an AI agent.
-/
import Derived.Test.YthdifhfmgmmljaaSwapWalk
namespace Go.Proofs.Ythdifhfmgmmljaa
open Go.RowKit

theorem elemRot : Elem Try.prog 55 27 (.slice none 0 0) 1 24 := Elem.mk' Try.underlying55 (by kernel_rfl) rfl (by omega)
set_option maxRecDepth 20000 in
set_option maxHeartbeats 8000000 in
theorem rotSwaps_any (n x0 at0 : Int) (A C : Option Addr) (cap ccap : Nat) (es : List (Int × Int)) (rs : List (List Int)) (w : World) (hes : Cells w w.heap.size A (edgeCells es)) (hrs : RowsAt w w.heap.size C rs) :
    Calls Try.prog 8 #[.agg #[.int .i64 n, .slice A es.length cap], .slice C rs.length ccap, .int .i64 x0, .int .i64 at0] w (fun e w' => e = .returned (.bool true) ∧ Below w.heap.size w w') := by
  go_enter Try.func8, Try.ntmps8
  go_wp2_with fail
  have b0 := World.cell?_alloc_new w #[.int .i64 n, .slice A es.length cap] 24 0
  have b1 := World.cell?_alloc_new w #[.int .i64 n, .slice A es.length cap] 24 1
  simp only [List.getElem?_toArray, List.getElem?_cons_zero, List.getElem?_cons_succ] at b0 b1
  have hbw := (Below.refl w.heap.size w).alloc (Nat.le_refl _) (.cells #[.int .i64 n, .slice A es.length cap] 24)
  have s1 := World.size_alloc w (.cells #[.int .i64 n, .slice A es.length cap] 24)
  generalize w.alloc (.cells #[.int .i64 n, .slice A es.length cap] 24) = w1 at *
  have l1 : w.heap.size < w1.heap.size := by omega
  have HK := Lib.hid (fun (wv : World) (h : Below w1.heap.size w1 wv) => And.intro ((h.cell (p := ⟨w.heap.size, 0, none⟩) l1).trans b0) ((h.cell (p := ⟨w.heap.size, 1, none⟩) l1).trans b1))
  have HW := Lib.hid (fun (wv : World) (h : Below w1.heap.size w1 wv) => hbw.trans (h.mono (Nat.le_of_lt l1)))
  have HE := Lib.hid (fun (wv : World) (h : Below w1.heap.size w1 wv) => And.intro ((hes.below (HW.out wv h)).more (HW.out wv h).size) ((hrs.below (HW.out wv h)).more (HW.out wv h).size))
  have HRW := Lib.hid (fun (wv : World) (h : Below w1.heap.size w1 wv) => hrs.below (HW.out wv h))
  clear b0 b1 hes hrs hbw s1
  refine (speaks5_any _).mono ?_
  rintro e w2 ⟨rfl, k2⟩
  obtain ⟨c0, c1⟩ := HK.out _ k2
  go_wp2_with fail
  refine (great_any n A C cap ccap es rs w2 (HE.out _ k2).2).mono ?_
  rintro e w3 ⟨b, rfl, hb3, hgr⟩
  have k3 := k2.trans (hb3.mono k2.size)
  obtain ⟨c0, c1⟩ := HK.out _ k3
  clear hb3 k2
  cases b with
  | true =>
    have HB := Lib.hid (HW.out _ k3)
    clear hgr
    go_wp2_with fail
    go_ret
    exact ⟨rfl, HB.out⟩
  | false =>
    obtain ⟨g1, g2, g3⟩ := hgr rfl
    have hr1 : rs.length ≤ 1000 := by omega
    have Hr2 := Lib.hid (show ∀ l ∈ rs, l.length ≤ 1000 from fun l hl => by have := g3 l hl; omega)
    clear hgr g3
    go_wp2_with fail
    refine (refRight_any n A C cap ccap es rs w3 (HE.out _ k3).1 (HE.out _ k3).2 hr1 Hr2.out).mono ?_
    rintro e w4 ⟨rfl, hb4⟩
    have k4 := k3.trans (hb4.mono k3.size)
    obtain ⟨c0, c1⟩ := HK.out _ k4
    clear hb4 k3
    cases hR : rightB n es rs with
    | false =>
      clear hR
      have HB := Lib.hid (HW.out _ k4)
      go_wp2_with fail
      go_ret
      exact ⟨rfl, HB.out⟩
    | true =>
      have HP := Lib.hid (right_iff.1 hR)
      clear hR
      have hN0 : 0 < rs.length := by have := HP.out.len; have := (may_parts HP.out.may).1; omega
      have hnz : (rs.length : Int) ≠ 0 := by omega
      obtain ⟨m0, m1⟩ := mask_bd x0
      obtain ⟨X, hX⟩ := Int.eq_ofNat_of_zero_le (Int.emod_nonneg (bits .and .i64 x0 65535) hnz)
      have hXl : X < rs.length := by have := Int.emod_lt_of_pos (bits .and .i64 x0 65535) (show (0 : Int) < rs.length by omega); omega
      have hX2 : Int.tmod (bits .and .i64 x0 65535) rs.length = (X : Int) := by rw [Int.tmod_eq_emod_of_nonneg m0]; exact hX
      have hXl' : (X : Int) < rs.length := by omega
      obtain ⟨bC, oC, rfl, hbC, hcC⟩ := HRW.out _ k4 hN0
      obtain ⟨AX, cX, eX, _⟩ := hcC X hXl
      have hLX := Hr2.out _ (List.getElem_mem hXl)
      clear hcC hX
      generalize hL : rs[X].length = L at *
      have HLX := Lib.hid hL
      clear hL
      by_cases hL2 : L < 2
      · have HB := Lib.hid (HW.out _ k4)
        go_wp2_with fail
        go_ret
        exact ⟨rfl, HB.out⟩
      · obtain ⟨q0, q1⟩ := mask_bd at0
        have hLz : (L : Int) ≠ 0 := by omega
        obtain ⟨I, hI⟩ := Int.eq_ofNat_of_zero_le (Int.emod_nonneg (bits .and .i64 at0 65535) hLz)
        have hIl : I < L := by have := Int.emod_lt_of_pos (bits .and .i64 at0 65535) (show (0 : Int) < L by omega); omega
        have hI2 : Int.tmod (bits .and .i64 at0 65535) L = (I : Int) := by rw [Int.tmod_eq_emod_of_nonneg q0]; exact hI
        have hK : Int.tmod ((I : Int) + 1) L = (((I + 1) % L : Nat) : Int) := by rw [Int.tmod_eq_emod_of_nonneg (by omega)]; simp
        have hKl : (I + 1) % L < L := Nat.mod_lt _ (by omega)
        clear hI
        obtain ⟨K, hKg⟩ : ∃ K, (I + 1) % L = K := ⟨_, rfl⟩
        rw [hKg] at hK hKl
        have HKK := Lib.hid hKg
        clear hKg
        have hk4 := (Below.refl w4.heap.size w4).alloc (Nat.le_refl _) (.cells #[] 27)
        have hF0 : RowsOwn (w4.alloc (.cells #[] 27)) w1.heap.size (.slice (some ⟨w4.heap.size, 0, none⟩) 0 0) (rs.take 0) :=
          ⟨[], blk_own (R := #[]) k4.size (by simpa using Blk.new w4 27 #[]) (by simp) (Nat.le_refl _) (by unfold maxLen; omega) (by simp), fun i hi => absurd hi (by simp), fun i j _ hj => absurd hj (by simp)⟩
        have k5 := k4.trans (hk4.mono k4.size)
        have HRR := Lib.hid (fun (wv : World) (h : Below w1.heap.size w1 wv) => HRW.out wv h hN0)
        go_wp2_with fail
        go_loopg [12, 54] rs.length (fun k s12 s54 wr => ∃ i : Nat, s54 = .int .i64 i ∧ i ≤ rs.length ∧ k = rs.length - i ∧ Below w1.heap.size w1 wr ∧ RowsOwn wr w1.heap.size s12 (rs.take i))
        case atStart => exact ⟨0, rfl, Nat.zero_le _, rfl, k5, hF0⟩
        case round =>
          clear k5 hF0 hk4
          obtain ⟨i, rfl, hi, hk, kr, hown⟩ := hrel
          have Hk := Lib.hid hk; clear hk
          have htl : (rs.take i).length = i := by simp; omega
          have HTL := Lib.hid htl
          clear htl
          by_cases hlt : i < rs.length
          · have hlt' : (i : Int) < rs.length := by omega
            obtain ⟨b2, o2, hbo, hb2, hc2⟩ := HRR.out _ kr
            injection hbo with hbo
            injection hbo with hbo1 hbo2
            subst hbo1 hbo2
            obtain ⟨Ai, ci, e0, hCi⟩ := hc2 i hlt
            have hll := Hr2.out _ (List.getElem_mem hlt)
            have HT := Lib.hid (List.take_succ_eq_append_getElem hlt)
            have hsw := kr.size
            clear hc2
            obtain ⟨sl, ho, h2, h3⟩ := hown
            rw [HTL.out] at ho
            have h4 : ∀ j, j < (rs.take i).length → ∀ k, (sl.getD j undef).ownBlock = some k → k < wr.heap.size := fun j hj k hk => by
              obtain ⟨Aj, cj, hs, hoj⟩ := h2 j hj
              rw [List.getD_eq_getElem?_getD, hs] at hk
              exact (hoj.lt k hk).2
            have HO := Lib.hid (And.intro h2 (And.intro h3 h4))
            clear h2 h3 h4
            have ho0 : (wr.alloc (.cells #[] 3)).ownsRow wr.heap.size 3 1 (.slice (some ⟨wr.heap.size, 0, none⟩) 0 0) 0 [] :=
              blk_own (R := #[]) (Nat.le_refl _) (by simpa using Blk.new wr 3 #[]) (by simp) (Nat.le_refl _) (by unfold maxLen; omega) (by simp)
            have hba := (Below.refl wr.heap.size wr).alloc (Nat.le_refl _) (.cells #[] 3)
            have hCa := hCi.below (hba.mono (Nat.le_trans (HW.out _ kr).size (Nat.le_refl _)))
            have hsa : wr.heap.size ≤ (wr.alloc (.cells #[] 3)).heap.size := by simp
            generalize hlg : rs[i] = l at *
            go_wp2_with (at_builtin; refine wp_app_any elemInt rfl _ _ rfl rfl ho0 rfl hCa (show (intCells l).length = l.length * 1 by simp [intCells]) (intCells_one l) ?h2 ?h3 ?h4 ?_)
            case h2 => omega
            case h3 => omega
            try (case h4 => omega)
            intro v5 w5 ho5 hg5 _
            have hb5 : Below wr.heap.size wr w5 := below_app hba ho0 hg5 hsa (Nat.le_refl _)
            obtain ⟨A5, c5, rfl⟩ := own_slice ho5
            have ho6 := own_below ho hb5 (Nat.le_refl _)
            obtain ⟨h2, h3, h4⟩ := HO.out
            have HO6 := Lib.hid (And.intro (show ∀ j (h : j < (rs.take i).length), ∃ Ai ci, sl[j]? = some (.slice Ai (rs.take i)[j].length ci) ∧ w5.ownsRow w1.heap.size 3 1 (.slice Ai (rs.take i)[j].length ci) (rs.take i)[j].length (intCells (rs.take i)[j]) from fun j hj => by
              obtain ⟨Aj, cj, hs, hoj⟩ := h2 j hj
              exact ⟨Aj, cj, hs, own_below hoj hb5 (Nat.le_refl _)⟩) (And.intro h3 h4))
            have ho5' : w5.ownsRow wr.heap.size 3 1 (.slice A5 l.length c5) l.length (intCells l) := by simpa using ho5
            have hs5 := hb5.size
            have k5 := kr.trans (hb5.mono hsw)
            clear h2 h3 h4 HO ho hg5 ho0 hba hCa hsa ho5 hb5 hCi
            go_wp2_with (at_builtin; refine wp_app elemRot rfl _ _ rfl w1.heap.size u12 _ _ rfl w5.heap.size [.slice A5 l.length c5] rfl rfl ho6 rfl rfl ?h7 ?h8 ?h9 ?_)
            case h7 => omega
            case h8 => omega
            try (case h9 => omega)
            intro v' w' hown' hg' _
            obtain ⟨h2, h3, h4⟩ := HO6.out
            have hb' := below_app k5 ho6 hg' (by omega) (Nat.le_refl _)
            rw [show [Value.slice A5 l.length c5] = [Value.slice A5 l.length c5] from rfl] at hown'
            have ho6' : w5.ownsRow w1.heap.size 27 1 u12 (rs.take i).length sl := by rw [HTL.out]; exact ho6
            have hown2 : w'.ownsRow w1.heap.size 27 1 v' ((rs.take i).length + 1) (sl ++ [.slice A5 l.length c5]) := by rw [HTL.out]; exact hown'
            have hR' := RowsOwn.push ho6' h2 h3 h4 (own_mono ho5' hsw) (fun k hk => (ho5'.lt k hk).1) hg' hown2
            rw [← HT.out] at hR'
            have HX := Lib.hid (And.intro hb' hR')
            clear h2 h3 h4 HO6 hb' hR' ho6 ho6' hown' hown2 hg' ho5' k5
            go_wp2_with fail
            go_roundg (rs.length - (i + 1))
            case measure => rw [Hk.out]; omega
            case rel => exact ⟨i + 1, by go_num, by omega, rfl, HX.out.1, HX.out.2⟩
          · have hie : i = rs.length := by omega
            rw [hie, List.take_length] at hown
            clear HTL
            obtain ⟨gs, cs, gl, cl, R, rfl, hcell, hgl, hbl, hfin⟩ := hown.open hXl (by rw [HLX.out]; omega)
            rw [HLX.out] at hcell
            have Hfin := Lib.hid hfin
            clear hfin hown
            have hva := hbl.intR (k := I) (by rw [HLX.out]; exact hIl)
            have hvb := hbl.intR (k := K) (by rw [HLX.out]; exact hKl)
            obtain ⟨va, hva0⟩ : ∃ v, rs[X].getD I 0 = v := ⟨_, rfl⟩
            obtain ⟨vb, hvb0⟩ : ∃ v, rs[X].getD K 0 = v := ⟨_, rfl⟩
            rw [hva0] at hva
            rw [hvb0] at hvb
            have HVA := Lib.hid hva
            have HVB := Lib.hid hvb
            obtain ⟨D1, hD1⟩ : ∃ D, D = (intCells (rs[X].set I vb)).toArray ++ R := ⟨_, rfl⟩
            obtain ⟨D2, hD2⟩ : ∃ D, D = (intCells ((rs[X].set I vb).set K va)).toArray ++ R := ⟨_, rfl⟩
            have HD1 := Lib.hid (show ∀ wv : World, Blk wv gl 3 ((intCells rs[X]).toArray ++ R) → Blk (wv.setCell ⟨gl, I, none⟩ (.int .i64 vb)) gl 3 D1 from fun wv h => by rw [hD1]; exact h.setIntR I vb (by rw [HLX.out]; exact hIl))
            have HD2 := Lib.hid (show ∀ wv : World, Blk wv gl 3 D1 → Blk (wv.setCell ⟨gl, K, none⟩ (.int .i64 va)) gl 3 D2 from fun wv h => by rw [hD1] at h; rw [hD2]; exact h.setIntR K va (by rw [List.length_set, HLX.out]; exact hKl))
            have HK1 := Lib.hid (show ∀ wv : World, Blk wv gl 3 D1 → ∃ vk : Int, wv.cell? ⟨gl, K, none⟩ = some (.int .i64 vk) from fun wv h => by rw [hD1] at h; exact ⟨_, h.intR (k := K) (by rw [List.length_set, HLX.out]; exact hKl)⟩)
            have HFin := Lib.hid (show ∀ w', wr.grownBy w' (some gl) → Blk w' gl 3 D2 → RowsAt w' w'.heap.size (some ⟨gs, 0, none⟩) (swpR rs X I K) from fun w' hg hB => by
              refine Hfin.out w' I K hg ?_
              unfold swpL
              rw [hva0, hvb0]
              rw [hD2] at hB
              exact hB)
            clear hD1 hD2 hva0 hvb0 Hfin hva hvb hlt
            go_upto_region 17 with fail
            refine wp_region_one gl #[0, 0, 3, 7, 0, 0, 0, 96, 224, 0, 0, 0, 3072, 7168, 0, 31744, 64512, 0, 0, 393216, 917504, 0, 4063232, 8257536, 16776703, 33553919, 67108863, 134217727] [0, 0, 0, 0, 0, 0, 0, 0, 0, 0, 0, 0, 0, 0, 0, 0, 0, 0, 0, 0, 0, 0, 0, 0, 0, 1, 0, 1]
              [.v [] (.slice (some ⟨gs, 0, none⟩) rs.length cs),
               .v [] (.int .i64 (X : Nat)),
               .v [0, 1] (.pointer (some ⟨gs, X, none⟩)),
               .v [2] (.slice (some ⟨gl, 0, none⟩) L cl),
               .v [] (.int .i64 (I : Nat)),
               .v [] (.slice (some ⟨gs, 0, none⟩) rs.length cs),
               .v [] (.int .i64 (X : Nat)),
               .v [5, 6] (.pointer (some ⟨gs, X, none⟩)),
               .v [7] (.slice (some ⟨gl, 0, none⟩) L cl),
               .v [] (.int .i64 (K : Nat)),
               .v [] (.slice (some ⟨gs, 0, none⟩) rs.length cs),
               .v [] (.int .i64 (X : Nat)),
               .v [10, 11] (.pointer (some ⟨gs, X, none⟩)),
               .v [12] (.slice (some ⟨gl, 0, none⟩) L cl),
               .v [] (.int .i64 (K : Nat)),
               .v [13, 14] (.pointer (some ⟨gl, K, none⟩)),
               .v [15] (.int .i64 vb),
               .v [] (.slice (some ⟨gs, 0, none⟩) rs.length cs),
               .v [] (.int .i64 (X : Nat)),
               .v [17, 18] (.pointer (some ⟨gs, X, none⟩)),
               .v [19] (.slice (some ⟨gl, 0, none⟩) L cl),
               .v [] (.int .i64 (I : Nat)),
               .v [20, 21] (.pointer (some ⟨gl, I, none⟩)),
               .v [22] (.int .i64 va),
               .v [3, 4] (.pointer (some ⟨gl, I, none⟩)),
               .b [24, 16] gl 3 D1,
               .v [8, 9] (.pointer (some ⟨gl, K, none⟩)),
               .b [26, 23, 25] gl 3 D2]
              [27] (by kernel_rfl) (by kernel_rfl) (fun us => ?_) ?_
            · refine pgo_one _ rfl rfl rfl (fun wv hw hu => ⟨(.slice (some ⟨gs, 0, none⟩) rs.length cs), ?_, rfl⟩) ?_
              · clear hw hu
                go_simp
              refine pgo_one _ rfl rfl rfl (fun wv hw hu => ⟨(.int .i64 (X : Nat)), ?_, rfl⟩) ?_
              · clear hw hu
                go_simp
              refine pgo_one _ rfl rfl rfl (fun wv hw hu => ⟨(.pointer (some ⟨gs, X, none⟩)), ?_, rfl⟩) ?_
              · have h0 : us 0 = (.slice (some ⟨gs, 0, none⟩) rs.length cs) := hu.1
                have h1 : us 1 = (.int .i64 (X : Nat)) := hu.2.1
                clear hw hu
                go_simp
              refine pgo_one _ rfl rfl rfl (fun wv hw hu => ⟨(.slice (some ⟨gl, 0, none⟩) L cl), ?_, rfl⟩) ?_
              · have h0 : us 2 = (.pointer (some ⟨gs, X, none⟩)) := hu.1
                have hE := OneW.same (by kernel_rfl) hw
                subst hE
                have z0 : wr.drew.cell? ⟨gs, X, none⟩ = some (.slice (some ⟨gl, 0, none⟩) L cl) := hcell
                clear hw hu
                go_simp
              refine pgo_one _ rfl rfl rfl (fun wv hw hu => ⟨(.int .i64 (I : Nat)), ?_, rfl⟩) ?_
              · clear hw hu
                go_simp
              refine pgo_one _ rfl rfl rfl (fun wv hw hu => ⟨(.slice (some ⟨gs, 0, none⟩) rs.length cs), ?_, rfl⟩) ?_
              · clear hw hu
                go_simp
              refine pgo_one _ rfl rfl rfl (fun wv hw hu => ⟨(.int .i64 (X : Nat)), ?_, rfl⟩) ?_
              · clear hw hu
                go_simp
              refine pgo_one _ rfl rfl rfl (fun wv hw hu => ⟨(.pointer (some ⟨gs, X, none⟩)), ?_, rfl⟩) ?_
              · have h0 : us 5 = (.slice (some ⟨gs, 0, none⟩) rs.length cs) := hu.1
                have h1 : us 6 = (.int .i64 (X : Nat)) := hu.2.1
                clear hw hu
                go_simp
              refine pgo_one _ rfl rfl rfl (fun wv hw hu => ⟨(.slice (some ⟨gl, 0, none⟩) L cl), ?_, rfl⟩) ?_
              · have h0 : us 7 = (.pointer (some ⟨gs, X, none⟩)) := hu.1
                have hE := OneW.same (by kernel_rfl) hw
                subst hE
                have z0 : wr.drew.cell? ⟨gs, X, none⟩ = some (.slice (some ⟨gl, 0, none⟩) L cl) := hcell
                clear hw hu
                go_simp
              refine pgo_one _ rfl rfl rfl (fun wv hw hu => ⟨(.int .i64 (K : Nat)), ?_, rfl⟩) ?_
              · clear hw hu
                go_simp
              refine pgo_one _ rfl rfl rfl (fun wv hw hu => ⟨(.slice (some ⟨gs, 0, none⟩) rs.length cs), ?_, rfl⟩) ?_
              · clear hw hu
                go_simp
              refine pgo_one _ rfl rfl rfl (fun wv hw hu => ⟨(.int .i64 (X : Nat)), ?_, rfl⟩) ?_
              · clear hw hu
                go_simp
              refine pgo_one _ rfl rfl rfl (fun wv hw hu => ⟨(.pointer (some ⟨gs, X, none⟩)), ?_, rfl⟩) ?_
              · have h0 : us 10 = (.slice (some ⟨gs, 0, none⟩) rs.length cs) := hu.1
                have h1 : us 11 = (.int .i64 (X : Nat)) := hu.2.1
                clear hw hu
                go_simp
              refine pgo_one _ rfl rfl rfl (fun wv hw hu => ⟨(.slice (some ⟨gl, 0, none⟩) L cl), ?_, rfl⟩) ?_
              · have h0 : us 12 = (.pointer (some ⟨gs, X, none⟩)) := hu.1
                have hE := OneW.same (by kernel_rfl) hw
                subst hE
                have z0 : wr.drew.cell? ⟨gs, X, none⟩ = some (.slice (some ⟨gl, 0, none⟩) L cl) := hcell
                clear hw hu
                go_simp
              refine pgo_one _ rfl rfl rfl (fun wv hw hu => ⟨(.int .i64 (K : Nat)), ?_, rfl⟩) ?_
              · clear hw hu
                go_simp
              refine pgo_one _ rfl rfl rfl (fun wv hw hu => ⟨(.pointer (some ⟨gl, K, none⟩)), ?_, rfl⟩) ?_
              · have h0 : us 13 = (.slice (some ⟨gl, 0, none⟩) L cl) := hu.1
                have h1 : us 14 = (.int .i64 (K : Nat)) := hu.2.1
                clear hw hu
                go_simp
              refine pgo_one _ rfl rfl rfl (fun wv hw hu => ⟨(.int .i64 vb), ?_, rfl⟩) ?_
              · have h0 : us 15 = (.pointer (some ⟨gl, K, none⟩)) := hu.1
                have hE := OneW.same (by kernel_rfl) hw
                subst hE
                have z0 : wr.drew.cell? ⟨gl, K, none⟩ = some (.int .i64 vb) := HVB.out
                clear hw hu
                go_simp
              refine pgo_one _ rfl rfl rfl (fun wv hw hu => ⟨(.slice (some ⟨gs, 0, none⟩) rs.length cs), ?_, rfl⟩) ?_
              · clear hw hu
                go_simp
              refine pgo_one _ rfl rfl rfl (fun wv hw hu => ⟨(.int .i64 (X : Nat)), ?_, rfl⟩) ?_
              · clear hw hu
                go_simp
              refine pgo_one _ rfl rfl rfl (fun wv hw hu => ⟨(.pointer (some ⟨gs, X, none⟩)), ?_, rfl⟩) ?_
              · have h0 : us 17 = (.slice (some ⟨gs, 0, none⟩) rs.length cs) := hu.1
                have h1 : us 18 = (.int .i64 (X : Nat)) := hu.2.1
                clear hw hu
                go_simp
              refine pgo_one _ rfl rfl rfl (fun wv hw hu => ⟨(.slice (some ⟨gl, 0, none⟩) L cl), ?_, rfl⟩) ?_
              · have h0 : us 19 = (.pointer (some ⟨gs, X, none⟩)) := hu.1
                have hE := OneW.same (by kernel_rfl) hw
                subst hE
                have z0 : wr.drew.cell? ⟨gs, X, none⟩ = some (.slice (some ⟨gl, 0, none⟩) L cl) := hcell
                clear hw hu
                go_simp
              refine pgo_one _ rfl rfl rfl (fun wv hw hu => ⟨(.int .i64 (I : Nat)), ?_, rfl⟩) ?_
              · clear hw hu
                go_simp
              refine pgo_one _ rfl rfl rfl (fun wv hw hu => ⟨(.pointer (some ⟨gl, I, none⟩)), ?_, rfl⟩) ?_
              · have h0 : us 20 = (.slice (some ⟨gl, 0, none⟩) L cl) := hu.1
                have h1 : us 21 = (.int .i64 (I : Nat)) := hu.2.1
                clear hw hu
                go_simp
              refine pgo_one _ rfl rfl rfl (fun wv hw hu => ⟨(.int .i64 va), ?_, rfl⟩) ?_
              · have h0 : us 22 = (.pointer (some ⟨gl, I, none⟩)) := hu.1
                have hE := OneW.same (by kernel_rfl) hw
                subst hE
                have z0 : wr.drew.cell? ⟨gl, I, none⟩ = some (.int .i64 va) := HVA.out
                clear hw hu
                go_simp
              refine pgo_one _ rfl rfl rfl (fun wv hw hu => ⟨(.pointer (some ⟨gl, I, none⟩)), ?_, rfl⟩) ?_
              · have h0 : us 3 = (.slice (some ⟨gl, 0, none⟩) L cl) := hu.1
                have h1 : us 4 = (.int .i64 (I : Nat)) := hu.2.1
                clear hw hu
                go_simp
              refine R3.pgo_skip _ rfl rfl (fun wv hw hu => ?_) ?_
              · have h0 : us 24 = (.pointer (some ⟨gl, I, none⟩)) := hu.1
                have h1 : us 16 = (.int .i64 vb) := hu.2.1
                have hE := OneW.same (by kernel_rfl) hw
                subst hE
                have z0 : wr.drew.cell? ⟨gl, I, none⟩ = some (.int .i64 va) := HVA.out
                have z1 : wr.drew.frozen? ⟨gl, I, none⟩ = false := hbl.frozen I
                refine ⟨wr.drew.setCell ⟨gl, I, none⟩ (.int .i64 vb), ?_, only_setCell (World.grownBy.refl _ _) (.inl rfl) _, HD1.out _ hbl.drew⟩
                clear hw hu
                go_simp
              refine pgo_one _ rfl rfl rfl (fun wv hw hu => ⟨(.pointer (some ⟨gl, K, none⟩)), ?_, rfl⟩) ?_
              · have h0 : us 8 = (.slice (some ⟨gl, 0, none⟩) L cl) := hu.1
                have h1 : us 9 = (.int .i64 (K : Nat)) := hu.2.1
                clear hw hu
                go_simp
              refine R3.pgo_skip _ rfl rfl (fun wv hw hu => ?_) ?_
              · have h0 : us 26 = (.pointer (some ⟨gl, K, none⟩)) := hu.1
                have h1 : us 23 = (.int .i64 va) := hu.2.1
                have hB : Blk wv gl 3 D1 := hu.2.2.1
                obtain ⟨vk, z0⟩ := HK1.out wv hB
                have z1 : wv.frozen? ⟨gl, K, none⟩ = false := hB.frozen K
                refine ⟨wv.setCell ⟨gl, K, none⟩ (.int .i64 va), ?_, only_setCell (World.grownBy.refl _ _) (.inl rfl) _, HD2.out _ hB⟩
                clear hw hu hB
                go_simp
              trivial
            · intro us w' hw hu
              have hB2 : Blk w' gl 3 D2 := hu.1
              have hgr0 := hw.grown
              have hgr : wr.grownBy w' (some gl) := ⟨hgr0.os, hgr0.tape, hgr0.output, hgr0.size, hgr0.block⟩
              have HRS := Lib.hid (HFin.out w' hgr hB2)
              have k6 : Below w1.heap.size w1 w' := kr.grown hgr kr.size (fun k e => by injection e with e; omega)
              obtain ⟨c0, c1⟩ := HK.out _ k6
              clear hw hu hB2 hgr hgr0
              simp only [lexL]
              go_simp
              have hP2 := swpR_right (i := I) (k := K) HP.out hXl (by rw [HLX.out]; exact hIl) (by rw [HLX.out]; exact hKl)
              have HP2 := Lib.hid hP2
              have hr1' : (swpR rs X I K).length ≤ 1000 := by rw [swpR_length]; exact hr1
              have Hr2' := Lib.hid (show ∀ l ∈ swpR rs X I K, l.length ≤ 1000 from fun l hl => by
                obtain ⟨y, hy, rfl⟩ := List.mem_iff_getElem.1 hl
                have hy' : y < rs.length := by rwa [swpR_length] at hy
                rw [swpR_len hXl hy']
                exact Hr2.out _ (List.getElem_mem hy'))
              have HG1 := Lib.hid (gen_spec HP.out (right_inN HP.out))
              have HG2 := Lib.hid (show 2 * cls (Q es es.length) rs.length + es.length = rs.length + iso rs + (facesOf n es (swpR rs X I K)).length + 2 * gen n es (swpR rs X I K) from by
                have := gen_spec hP2 (right_inN hP2)
                rwa [swpR_length, iso_swp hXl] at this)
              have HFS := Lib.hid (show (facesOf n es (swpR rs X I K)).length ≤ (facesOf n es rs).length + 2 ∧ (facesOf n es rs).length ≤ (facesOf n es (swpR rs X I K)).length + 2 from by
                have := faces_swp (i := I) HP.out hXl (by rw [HLX.out]; exact hIl) (by rw [HLX.out]; omega)
                rwa [HLX.out, HKK.out] at this)
              have hF1 := faces_le HP.out
              have hF2 := faces_le hP2
              have HRT := Lib.hid (show rightB n es rs = true from right_iff.2 HP.out)
              have HRT2 := Lib.hid (show rightB n es (swpR rs X I K) = true from right_iff.2 hP2)
              clear hP2
              have HCG := Lib.hid (fun (wv : World) (h : Below w1.heap.size w1 wv) (hR : RowsAt wv wv.heap.size (some ⟨gs, 0, none⟩) (swpR rs X I K)) => genus_any n A (some ⟨gs, 0, none⟩) cap cs es (swpR rs X I K) wv (HE.out _ h).1 hR hr1' Hr2'.out)
              have HCF := Lib.hid (fun (wv : World) (h : Below w1.heap.size w1 wv) (hR : RowsAt wv wv.heap.size (some ⟨gs, 0, none⟩) (swpR rs X I K)) => faces_any n A (some ⟨gs, 0, none⟩) cap cs es (swpR rs X I K) wv (HE.out _ h).1 hR hr1' Hr2'.out)
              rw [swpR_length] at HCG HCF
              go_wp2_with fail
              refine (genus_any n A (some ⟨bC, oC, none⟩) cap ccap es rs w' (HE.out _ k6).1 (HE.out _ k6).2 hr1 Hr2.out).mono ?_
              rintro e w7 ⟨hb7, he, _⟩
              have he := he HRT.out
              subst he
              have k7 := k6.trans (hb7.mono k6.size)
              have HRS7 := Lib.hid ((HRS.out.below hb7).more hb7.size)
              obtain ⟨c0, c1⟩ := HK.out _ k7
              clear hb7
              go_wp2_with fail
              refine (HCG.out w7 k7 HRS7.out).mono ?_
              rintro e w8 ⟨hb8, he, _⟩
              have he := he HRT2.out
              subst he
              have k8 := k7.trans (hb8.mono k7.size)
              have HRS8 := Lib.hid ((HRS7.out.below hb8).more hb8.size)
              obtain ⟨c0, c1⟩ := HK.out _ k8
              clear hb8
              generalize gen n es rs = ga at *
              generalize gen n es (swpR rs X I K) = gb at *
              go_wp2_with fail
              have tok1 : True := trivial
              have HK8 := Lib.hid (fun (wv : World) (h : Below w8.heap.size w8 wv) => HK.out wv (k8.trans (h.mono k8.size)))
              go_region_held3 (fun w' => w'.cell? ⟨w.heap.size, 0, none⟩ = some (.int .i64 n) ∧ w'.cell? ⟨w.heap.size, 1, none⟩ = some (.slice A es.length cap))
                (first | exact ⟨c0, c1⟩ | exact HK8.out _ hb11 | exact HK8.out _ hb9)
                (first
                  | (go_at_call 25; have _t := tok1; refine (faces_any n A (some ⟨bC, oC, none⟩) cap ccap es rs _ (by exact (HE.out _ k8).1) (by exact (HE.out _ k8).2) hr1 Hr2.out).mono ?_; rintro e w9 ⟨A9, c9, rfl, hb9', _⟩; have hb9 := below_undrew hb9'; clear tok1)
                  | (go_at_call 25; refine (HCF.out _ (by exact k8.trans (hb9.mono k8.size)) (by exact (HRS8.out.below hb9).more hb9.size)).mono ?_; rintro e w10 ⟨A10, c10, rfl, hb10, _⟩; have hb11 := hb9.trans (hb10.mono hb9.size)))
              have HB := Lib.hid (HW.out _ (k8.trans (hb11.mono k8.size)))
              clear hb11 hb10 hb9 hb9' _t
              have hg1 := HG1.out
              have hg2 := HG2.out
              have hfs := HFS.out
              generalize (facesOf n es rs).length = F1 at *
              generalize (facesOf n es (swpR rs X I K)).length = F2 at *
              have hgb : ga ≤ 1000 := by
                have : cls (Q es es.length) rs.length ≤ rs.length := Nat.le_trans List.countP_le_length (by simp)
                omega
              have hgb2 : gb ≤ 1000 := by
                have : cls (Q es es.length) rs.length ≤ rs.length := Nat.le_trans List.countP_le_length (by simp)
                omega
              have hrel : F1 + 2 * ga = F2 + 2 * gb := by omega
              clear hg1 hg2 HG1 HG2
              rcases Nat.lt_trichotomy F1 F2 with h5 | h5 | h5
              · have e1 : (F1 : Int) - (F2 : Int) = -2 := by omega
                have e2 : (ga : Int) - (gb : Int) = 1 := by omega
                have e3 : (gb : Int) - (ga : Int) = -1 := by omega
                clear hfs h5 hrel
                go_wp2_with fail
                go_ret
                exact ⟨rfl, HB.out⟩
              · have e1 : (F1 : Int) - (F2 : Int) = 0 := by omega
                have e2 : (ga : Int) - (gb : Int) = 0 := by omega
                have e3 : (gb : Int) - (ga : Int) = 0 := by omega
                clear hfs h5 hrel
                go_wp2_with fail
                go_ret
                exact ⟨rfl, HB.out⟩
              · have e1 : (F1 : Int) - (F2 : Int) = 2 := by omega
                have e2 : (ga : Int) - (gb : Int) = -1 := by omega
                have e3 : (gb : Int) - (ga : Int) = 1 := by omega
                clear hfs h5 hrel
                go_wp2_with fail
                go_ret
                exact ⟨rfl, HB.out⟩
end Go.Proofs.Ythdifhfmgmmljaa
