/-
  Law RotationMirrors: walked. Printed by wip/mirgen.py. Written by an AI agent.
-/
import Derived.Test.YthdifhfmgmmljaaMirB
namespace Go.Proofs.Ythdifhfmgmmljaa
open Go.RowKit

set_option maxRecDepth 100000 in
set_option maxHeartbeats 4000000 in
theorem rotMirrors_any (n turn : Int) (A C : Option Addr) (cap ccap : Nat) (es : List (Int × Int)) (rs : List (List Int)) (w : World) (hes : Cells w w.heap.size A (edgeCells es)) (hrs : RowsC w w.heap.size C rs) :
    Calls Try.prog 9 #[.agg #[.int .i64 n, .slice A es.length cap], .slice C rs.length ccap, .int .i64 turn] w (fun e w' => e = .returned (.bool true) ∧ Below w.heap.size w w') := by
  go_enter Try.func9, Try.ntmps9
  go_wp2_with fail
  have b0 := World.cell?_alloc_new w #[.int .i64 n, .slice A es.length cap] 24 0
  have b1 := World.cell?_alloc_new w #[.int .i64 n, .slice A es.length cap] 24 1
  simp only [List.getElem?_toArray, List.getElem?_cons_zero, List.getElem?_cons_succ] at b0 b1
  have hbw := (Below.refl w.heap.size w).alloc (Nat.le_refl _) (.cells #[.int .i64 n, .slice A es.length cap] 24)
  have s1 := World.size_alloc w (.cells #[.int .i64 n, .slice A es.length cap] 24)
  generalize w.alloc (.cells #[.int .i64 n, .slice A es.length cap] 24) = w1 at *
  have l1 : w.heap.size < w1.heap.size := by omega
  have HK := Lib.hid (fun (wv : World) (h : Below w1.heap.size w1 wv) => And.intro ((h.cell (p := ⟨w.heap.size, 0, none⟩) l1).trans b0) ((h.cell (p := ⟨w.heap.size, 1, none⟩) l1).trans b1))
  have HW := Lib.hid (fun (wv : World) (h : Below w1.heap.size w1 wv) => hbw.trans (h.mono (Nat.le_of_lt l1)))
  have HE := Lib.hid (fun (wv : World) (h : Below w1.heap.size w1 wv) => And.intro ((hes.below (HW.out wv h)).more (HW.out wv h).size) ((hrs.below (HW.out wv h)).more (HW.out wv h).size))
  clear b0 b1 hes hrs hbw s1
  refine (speaks5_any _).mono ?_
  rintro e w2 ⟨rfl, k2⟩
  obtain ⟨c0, c1⟩ := HK.out _ k2
  go_wp2_with fail
  refine (great_any n A C cap ccap es rs w2 (HE.out _ k2).2.at_).mono ?_
  rintro e w3 ⟨b, rfl, hb3, hgr⟩
  have k3 := k2.trans (hb3.mono k2.size)
  clear hb3 k2
  cases b with
  | true =>
    have HB := Lib.hid (HW.out _ k3)
    clear hgr
    go_wp2_with fail
    go_ret
    exact ⟨rfl, HB.out⟩
  | false =>
    obtain ⟨g1, g2, g3⟩ := hgr rfl
    have HG := Lib.hid (And.intro g1 (And.intro g2 g3))
    have hr1 : rs.length ≤ 1000 := by omega
    have Hr2 := Lib.hid (show ∀ l ∈ rs, l.length ≤ 1000 from fun l hl => by have := g3 l hl; omega)
    clear hgr g3
    go_wp2_with fail
    refine (mirror_any C ccap rs w3 (HE.out _ k3).2.at_ hr1 Hr2.out).mono ?_
    rintro e w4 ⟨M, cm, rfl, hb4, hm4⟩
    have K4 := Lib.hid (k3.trans (hb4.mono k3.size))
    have HM4 := Lib.hid hm4
    have hml : (mir rs).length = rs.length := mir_length
    have H5 := Lib.hid (mirror_any M cm (mir rs) w4 hm4.at_ (by omega) (fun l hl => by
      obtain ⟨r, hr, rfl⟩ := List.mem_map.1 hl
      rw [List.length_reverse]
      exact Hr2.out r hr))
    rw [hml, mir_mir] at H5
    have hne : ((rs.length : Int) != (rs.length : Int)) = false := by simp
    clear k3 hb4 hm4 hml
    go_wp2_with fail
    refine H5.out.mono ?_
    rintro e w5 ⟨M5, c5, rfl, hb5, hm5⟩
    have K5 := Lib.hid (K4.out.trans (hb5.mono K4.out.size))
    have HM5 := Lib.hid ((HM4.out.below hb5).more hb5.size)
    have H6 := Lib.hid (sameR_any M5 C c5 ccap rs rs w5 hm5 (HE.out _ K5.out).2 hr1 hr1 Hr2.out (fun _ => Hr2.out))
    rw [sameB_self] at H6
    clear hb5 hm5
    go_wp2_with fail
    refine H6.out.mono ?_
    rintro e w6 ⟨rfl, hb6⟩
    have K6 := Lib.hid (K5.out.trans (hb6.mono K5.out.size))
    have HM6 := Lib.hid ((HM5.out.below hb6).more hb6.size)
    obtain ⟨c0, c1⟩ := HK.out _ K6.out
    clear hb6
    go_upto_region 8 with fail
    exact mirB n turn A C M cap ccap cm w.heap.size es rs w w6 c0 c1 (Nat.lt_of_lt_of_le l1 K6.out.size) (HE.out _ K6.out).1 (HE.out _ K6.out).2 HM6.out.at_ (HW.out _ K6.out) HG.out.1 HG.out.2.1 HG.out.2.2 _ _ _ _ _ _ _ _ _ _ _ _ _ _ _ _ _ _ _ _ _ _ (by assumption)
end Go.Proofs.Ythdifhfmgmmljaa
