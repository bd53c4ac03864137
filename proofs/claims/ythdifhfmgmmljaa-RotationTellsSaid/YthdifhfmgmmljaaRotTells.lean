/-
  Law RotationTells: walked. Written by an AI agent.
-/
import Derived.Test.YthdifhfmgmmljaaRefGenus
import Derived.Test.YthdifhfmgmmljaaSpeaks5
import Derived.Test.YthdifhfmgmmljaaRotSame
namespace Go.Proofs.Ythdifhfmgmmljaa
open Go.RowKit

set_option maxHeartbeats 4000000 in
theorem rotTells_any (n : Int) (A C : Option Addr) (cap ccap : Nat) (es : List (Int × Int)) (rs : List (List Int)) (w : World) (hes : Cells w w.heap.size A (edgeCells es)) (hrs : RowsAt w w.heap.size C rs) :
    Calls Try.prog 7 #[.agg #[.int .i64 n, .slice A es.length cap], .slice C rs.length ccap] w (fun e w' => e = .returned (.bool true) ∧ Below w.heap.size w w') := by
  go_enter Try.func7, Try.ntmps7
  go_wp2_with fail
  have b0 := World.cell?_alloc_new w #[.int .i64 n, .slice A es.length cap] 24 0
  have b1 := World.cell?_alloc_new w #[.int .i64 n, .slice A es.length cap] 24 1
  simp only [List.getElem?_toArray, List.getElem?_cons_zero, List.getElem?_cons_succ] at b0 b1
  have hbw := (Below.refl w.heap.size w).alloc (Nat.le_refl _) (.cells #[.int .i64 n, .slice A es.length cap] 24)
  have s1 := World.size_alloc w (.cells #[.int .i64 n, .slice A es.length cap] 24)
  generalize w.alloc (.cells #[.int .i64 n, .slice A es.length cap] 24) = w1 at *
  have l1 : w.heap.size < w1.heap.size := by omega
  have HK := Lib.hid (fun (wv : World) (h : Below w1.heap.size w1 wv) => And.intro ((h.cell (p := ⟨w.heap.size, 0, none⟩) l1).trans b0) ((h.cell (p := ⟨w.heap.size, 1, none⟩) l1).trans b1))
  have HW := Lib.hid (fun (wv : World) (h : Below w1.heap.size w1 wv) => hbw.trans (h.mono (Nat.le_of_lt l1)))
  have HE := Lib.hid (fun (wv : World) (h : Below w1.heap.size w1 wv) => And.intro ((hes.below (HW.out wv h)).more (HW.out wv h).size) ((hrs.below (HW.out wv h)).more (HW.out wv h).size))
  clear b0 b1 hes hrs hbw s1
  refine (speaks5_any _).mono ?_
  rintro e w2 ⟨rfl, k2⟩
  obtain ⟨c0, c1⟩ := HK.out _ k2
  go_wp2_with fail
  refine (great_any n A C cap ccap es rs w2 (HE.out _ k2).2).mono ?_
  rintro e w3 ⟨b, rfl, hb3, hgr⟩
  have k3 := k2.trans (hb3.mono k2.size)
  obtain ⟨c0, c1⟩ := HK.out _ k3
  clear hb3 k2
  cases b with
  | true =>
    have HB := Lib.hid (HW.out _ k3)
    clear hgr
    go_wp2_with fail
    go_ret
    exact ⟨rfl, HB.out⟩
  | false =>
    obtain ⟨g1, g2, g3⟩ := hgr rfl
    have hr1 : rs.length ≤ 1000 := by omega
    have Hr2 := Lib.hid (show ∀ l ∈ rs, l.length ≤ 1000 from fun l hl => by have := g3 l hl; omega)
    clear hgr g3
    go_wp2_with fail
    refine (faces_any n A C cap ccap es rs w3 (HE.out _ k3).1 (HE.out _ k3).2 hr1 Hr2.out).mono ?_
    rintro e w4 ⟨A4, c4, rfl, hb4, hR4⟩
    have k4 := k3.trans (hb4.mono k3.size)
    obtain ⟨c0, c1⟩ := HK.out _ k4
    clear hb4 k3
    cases hR : rightB n es rs with
    | false =>
      have hF : facesOf n es rs = [] := by unfold facesOf; rw [hR]; rfl
      rw [hF]
      have Hn := Lib.hid hR
      clear hR hF hR4
      go_wp2_with fail
      refine (genus_any n A C cap ccap es rs w4 (HE.out _ k4).1 (HE.out _ k4).2 hr1 Hr2.out).mono ?_
      rintro e w5 ⟨hb5, _, he⟩
      have he := he Hn.out
      subst he
      have k5 := k4.trans (hb5.mono k4.size)
      obtain ⟨c0, c1⟩ := HK.out _ k5
      clear hb5 k4
      go_wp2_with fail
      refine (refRight_any n A C cap ccap es rs w5 (HE.out _ k5).1 (HE.out _ k5).2 hr1 Hr2.out).mono ?_
      rintro e w6 ⟨rfl, hb6⟩
      rw [Hn.out]
      have k6 := k5.trans (hb6.mono k5.size)
      obtain ⟨c0, c1⟩ := HK.out _ k6
      clear hb6 k5
      go_wp2_with fail
      refine (right_any n A C cap ccap es rs w6 (HE.out _ k6).1 (HE.out _ k6).2 hr1 Hr2.out).mono ?_
      rintro e w7 ⟨rfl, hb7⟩
      rw [Hn.out]
      have k7 := k6.trans (hb7.mono k6.size)
      have HB := Lib.hid (HW.out _ k7)
      clear hb7 k6
      go_wp2_with fail
      go_ret
      exact ⟨rfl, HB.out⟩
    | true =>
      have Hn := Lib.hid hR
      have HP := Lib.hid (right_iff.1 hR)
      clear hR
      have hFl := faces_le HP.out
      have hnd : ∀ l ∈ facesOf n es rs, l.length ≤ 100000 := fun l hl => by
        rw [faces_rows HP.out] at hl
        unfold rowsUpto at hl
        obtain ⟨h, hh, rfl⟩ := List.mem_map.1 hl
        have hh := List.mem_range.1 (List.mem_filter.1 hh).1
        have := (per_spec (nxf_perm HP.out) hh).2.1
        have e : (rowOf (nxf es rs) h).length = per (nxf es rs) h := by simp [rowOf]
        omega
      have Hnd := Lib.hid hnd
      have HF4 := Lib.hid hR4
      clear hnd hR4
      go_wp2_with fail
      refine (genus_any n A C cap ccap es rs w4 (HE.out _ k4).1 (HE.out _ k4).2 hr1 Hr2.out).mono ?_
      rintro e w5 ⟨hb5, he, _⟩
      have he := he Hn.out
      subst he
      have k5 := k4.trans (hb5.mono k4.size)
      have HF5 := Lib.hid (HF4.out.below hb5)
      obtain ⟨c0, c1⟩ := HK.out _ k5
      have ls5 := hb5.size
      clear hb5 k4 HF4
      go_wp2_with fail
      refine (refRight_any n A C cap ccap es rs w5 (HE.out _ k5).1 (HE.out _ k5).2 hr1 Hr2.out).mono ?_
      rintro e w6 ⟨rfl, hb6⟩
      rw [Hn.out]
      have k6 := k5.trans (hb6.mono k5.size)
      have HF6 := Lib.hid ((HF5.out.more ls5).below hb6)
      obtain ⟨c0, c1⟩ := HK.out _ k6
      have ls6 := hb6.size
      clear hb6 k5 HF5 ls5
      go_wp2_with fail
      refine (refFaces_any n A C cap ccap es rs w6 (HE.out _ k6).1 (HE.out _ k6).2 hr1 Hr2.out HP.out).mono ?_
      rintro e w7 ⟨A7, c7, rfl, hb7, hR7⟩
      have k7 := k6.trans (hb7.mono k6.size)
      have HF7 := Lib.hid (((HF6.out.more ls6).below hb7).more hb7.size)
      have HR7 := Lib.hid hR7
      obtain ⟨c0, c1⟩ := HK.out _ k7
      clear hb7 k6 HF6 ls6 hR7
      have hne : (((facesOf n es rs).length : Int) != ((facesOf n es rs).length : Int)) = false := by simp
      have hgg : (((gen n es rs : Nat) : Int) != ((gen n es rs : Nat) : Int)) = false := by simp
      generalize facesOf n es rs = F at *
      have HRG := Lib.hid (fun (wv : World) (h : Below w1.heap.size w1 wv) => refGenus_any n A C cap ccap es rs wv (HE.out _ h).1 (HE.out _ h).2 hr1 Hr2.out HP.out)
      generalize gen n es rs = g at *
      go_wp2_with fail
      refine (right_any n A C cap ccap es rs w7 (HE.out _ k7).1 (HE.out _ k7).2 hr1 Hr2.out).mono ?_
      rintro e w8 ⟨rfl, hb8⟩
      rw [Hn.out]
      have k8 := k7.trans (hb8.mono k7.size)
      have HF8 := Lib.hid (HF7.out.below hb8)
      have HR8 := Lib.hid (HR7.out.below hb8)
      have ls8 := hb8.size
      obtain ⟨c0, c1⟩ := HK.out _ k8
      clear hb8 k7 HF7 HR7
      go_wp2_with fail
      refine (HRG.out w8 k8).mono ?_
      rintro e w9 ⟨rfl, hb9⟩
      have k9 := k8.trans (hb9.mono k8.size)
      have HF9 := Lib.hid ((HF8.out.more ls8).below hb9)
      have HR9 := Lib.hid ((HR8.out.more ls8).below hb9)
      have ls9 := hb9.size
      clear hb9 k8 HF8 HR8 ls8
      go_wp2_with fail
      go_loopg [76] F.length (fun k s76 wr => ∃ i m : Nat, s76 = .int .i64 i ∧ i ≤ F.length ∧ k = F.length - i ∧ wr = w9.drewN m)
      case atStart => exact ⟨0, 0, rfl, Nat.zero_le _, rfl, rfl⟩
      case round =>
        obtain ⟨i, m, rfl, hi, hk, hwr⟩ := hrel
        have Hk := Lib.hid hk; clear hk
        by_cases hlt : i < F.length
        · have hlt' : (i : Int) < F.length := by omega
          obtain ⟨b1, o1, rfl, hb1, hc1⟩ := HF9.out (by omega)
          obtain ⟨b2, o2, rfl, hb2, hc2⟩ := HR9.out (by omega)
          obtain ⟨A1, q1, e1, hC1⟩ := hc1 i hlt
          obtain ⟨A2, q2, e2, hC2⟩ := hc2 i hlt
          have e1 : wr.cell? ⟨b1, o1 + i, none⟩ = some (.slice A1 F[i].length q1) := by rw [hwr]; exact e1
          have e2 : wr.cell? ⟨b2, o2 + i, none⟩ = some (.slice A2 F[i].length q2) := by rw [hwr]; exact e2
          have hC1 : Cells wr w8.heap.size A1 (intCells F[i]) := by rw [hwr]; exact hC1
          have hC2 : Cells wr w8.heap.size A2 (intCells F[i]) := by rw [hwr]; exact hC2
          have hll := Hnd.out _ (List.getElem_mem hlt)
          have Hwr := Lib.hid hwr
          clear hc1 hc2 hwr
          generalize F[i] = l at *
          have HQ := Lib.hid (fun (j : Nat) => same_any A1 A2 q1 q2 l l (wr.drewN j) w8.heap.size hC1 hC2 hll hll)
          rw [decide_eq_true rfl] at HQ
          go_wp2_with fail
          go_quiet ((go_at_call 16; exact quiet_b (HQ.out _)))
          go_wp2_with fail
          go_roundg (F.length - (i + 1))
          case measure => rw [Hk.out]; omega
          case rel => exact ⟨i + 1, m + nq, by go_num, by omega, rfl, by rw [Hwr.out]; simp⟩
        · have HB := Lib.hid (show Below w.heap.size w wr by rw [hwr]; exact below_drewN (HW.out _ k9) m)
          have Hwr := Lib.hid hwr
          clear hwr
          go_wp2_with fail
          go_ret
          exact ⟨rfl, HB.out⟩
end Go.Proofs.Ythdifhfmgmmljaa
