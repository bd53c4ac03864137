/-
  Law RotationMirrors: faces and handles. Printed by wip/mirgen.py. Written by an AI agent.
-/
import Derived.Test.YthdifhfmgmmljaaMirD
namespace Go.Proofs.Ythdifhfmgmmljaa
open Go.RowKit

theorem faces_row_le {n : Int} {es : List (Int × Int)} {rs : List (List Int)} (h : RightP n es rs) : ∀ l ∈ facesOf n es rs, l.length ≤ 2 * es.length := by
  rw [faces_rows h]
  intro l hl
  unfold rowsUpto at hl
  obtain ⟨k, hk, rfl⟩ := List.mem_map.1 hl
  have hk := List.mem_range.1 (List.mem_filter.1 hk).1
  unfold rowOf
  rw [List.length_map, List.length_range]
  exact (per_spec (nxf_perm h) hk).2.1
theorem cD_mir {n : Int} {es : List (Int × Int)} {rs : List (List Int)} (h : RightP n es rs) (x : Int) : cD (facesOf n es rs) (facesOf n es (mir rs)) (facesOf n es rs).length (facesOf n es (mir rs)).length x = 0 := by
  unfold cD
  rw [List.take_length, List.take_length, faces_mir h (fun k => decide ((k : Int) = x))]
  omega

set_option maxRecDepth 100000 in
set_option maxHeartbeats 4000000 in
theorem mirC (n : Int) (A C M : Option Addr) (cap ccap cm gb : Nat) (es : List (Int × Int)) (rs : List (List Int)) (w wc : World) (g0 : wc.cell? ⟨gb, 0, none⟩ = some (.int .i64 n)) (g1 : wc.cell? ⟨gb, 1, none⟩ = some (.slice A es.length cap)) (gl : gb < wc.heap.size) (hes : Cells wc wc.heap.size A (edgeCells es)) (hrs : RowsAt wc wc.heap.size C rs) (hm : RowsAt wc wc.heap.size M (mir rs)) (hB : Below w.heap.size w wc) (hP : RightP n es rs) (he : es.length ≤ 60) (hr1 : rs.length ≤ 70) (hr2 : ∀ l ∈ rs, l.length ≤ 200) (u0 u2 u6 u8 u9 u10 u11 u12 u13 u24 u25 u26 u27 u28 u29 u30 u31 u32 u33 u34 u35 u36 u37 u38 u39 u40 u41 u42 u43 u44 u45 u46 u47 u48 u49 u50 u51 u52 u53 u54 u55 u56 u57 u58 u59 u60 u61 u62 u63 u64 u65 u66 u67 u68 u69 u70 u71 u72 u73 u74 u75 u76 u77 u78 u79 u80 u81 u82 u83 u84 u85 u86 u87 u88 u89 u90 u91 u92 u93 u94 u95 u96 u97 u98 u99 u100 u101 u102 u103 u104 u105 u106 u107 u108 u109 u110 u111 u112 u113 u114 u115 u116 u117 u118 u119 u120 u121 : Value) (K : Act → World → Prop) (hK : ∀ a0 w0, Code.wp Try.prog (sndC (restC 9 ((Try.f9.body).getD .skip))) (bodyPost Try.prog Try.f9 (fun e w' => e = .returned (.bool true) ∧ Below w.heap.size w w')) a0 w0 → K a0 w0) : Code.wp Try.prog (fstC (restC 9 ((Try.f9.body).getD .skip))) (Exit.then K (bodyPost Try.prog Try.f9 (fun e w' => e = .returned (.bool true) ∧ Below w.heap.size w w'))) ⟨#[u0, .slice C rs.length ccap, u2, .pointer (some ⟨gb, 0, none⟩), undef, undef, u6, .slice M rs.length cm, u8, u9, u10, u11, u12, u13, undef, undef, undef, undef, undef, undef, undef, undef, undef, undef, u24, u25, u26, u27, u28, u29, u30, u31, u32, u33, u34, u35, u36, u37, u38, u39, u40, u41, u42, u43, u44, u45, u46, u47, u48, u49, u50, u51, u52, u53, u54, u55, u56, u57, u58, u59, u60, u61, u62, u63, u64, u65, u66, u67, u68, u69, u70, u71, u72, u73, u74, u75, u76, u77, u78, u79, u80, u81, u82, u83, u84, u85, u86, u87, u88, u89, u90, u91, u92, u93, u94, u95, u96, u97, u98, u99, u100, u101, u102, u103, u104, u105, u106, u107, u108, u109, u110, u111, u112, u113, u114, u115, u116, u117, u118, u119, u120, u121, undef, undef, undef, undef, undef, undef, undef, undef, undef, undef, undef, undef, undef, undef, undef, undef, undef, undef, undef, undef, undef, undef, undef, undef, undef, undef, undef, undef, undef, undef, undef, undef, undef, undef, undef, undef, undef, undef, undef, undef, undef, undef, undef, undef, undef, undef, undef, undef, undef, undef, undef, undef, undef, undef, undef, undef, undef, undef, undef, undef, undef, undef, undef, undef, undef, undef, undef], []⟩ wc := by
  refine wp_mono (Q := Exit.then (fun a0 w0 => Code.wp Try.prog (sndC (restC 9 ((Try.f9.body).getD .skip))) (bodyPost Try.prog Try.f9 (fun e w' => e = .returned (.bool true) ∧ Below w.heap.size w w')) a0 w0) (bodyPost Try.prog Try.f9 (fun e w' => e = .returned (.bool true) ∧ Below w.heap.size w w'))) ?_ (then_k hK)
  clear hK
  conv => arg 2; whnf
  conv => arg 3; arg 1; ext a w; arg 2; whnf
  refine then_open fun K2 hK2 => ?_
  have HES := Lib.hid hes
  have HRS := Lib.hid hrs
  have HM := Lib.hid hm
  have HP := Lib.hid hP
  have HB := Lib.hid hB
  have hr1' : rs.length ≤ 1000 := by omega
  have Hr2 := Lib.hid (show ∀ l ∈ rs, l.length ≤ 1000 from fun l hl => by have := hr2 l hl; omega)
  have hml : (mir rs).length = rs.length := mir_length
  have Hr3 := Lib.hid (show ∀ l ∈ mir rs, l.length ≤ 1000 from fun l hl => by
    obtain ⟨r, hr, rfl⟩ := List.mem_map.1 hl
    rw [List.length_reverse]
    exact Hr2.out r hr)
  have HK := Lib.hid (fun (wv : World) (h : Below wc.heap.size wc wv) => And.intro ((h.cell (p := ⟨gb, 0, none⟩) gl).trans g0) ((h.cell (p := ⟨gb, 1, none⟩) gl).trans g1))
  have HF2 := Lib.hid (fun (wv : World) (h1 : Cells wv wv.heap.size A (edgeCells es)) (h2 : RowsAt wv wv.heap.size M (mir rs)) => (by have := faces_any n A M cap cm es (mir rs) wv h1 h2 (by omega) Hr3.out; rw [hml] at this; exact this : Calls Try.prog 25 #[.agg #[.int .i64 n, .slice A es.length cap], .slice M rs.length cm] wv (FacesPost (facesOf n es (mir rs)) wv)))
  have HG2 := Lib.hid (fun (wv : World) (h1 : Cells wv wv.heap.size A (edgeCells es)) (h2 : RowsAt wv wv.heap.size M (mir rs)) => (by have := genus_any n A M cap cm es (mir rs) wv h1 h2 (by omega) Hr3.out; rw [hml] at this; exact this : Calls Try.prog 26 #[.agg #[.int .i64 n, .slice A es.length cap], .slice M rs.length cm] wv (GenusPost n es (mir rs) wv)))
  have HE1 := Lib.hid (fun (wv : World) (h : Below wc.heap.size wc wv) => And.intro ((HES.out.below h).more h.size) (And.intro ((HRS.out.below h).more h.size) ((HM.out.below h).more h.size)))
  clear hes hrs hm hP hB hr2 hml
  have tok1 : True := trivial
  go_upto_region 32 with fail
  go_region_held3 (fun w' => w'.cell? ⟨gb, 0, none⟩ = some (.int .i64 n) ∧ w'.cell? ⟨gb, 1, none⟩ = some (.slice A es.length cap))
    (first | exact ⟨g0, g1⟩ | exact HK.out _ hb11 | exact HK.out _ hb9)
    (first
      | (go_at_call 25; have _t := tok1; refine (faces_any n A C cap ccap es rs _ (by exact HES.out) (by exact HRS.out) hr1' Hr2.out).mono ?_; rintro e w9 ⟨A9, c9, rfl, hb9', hf9⟩; have hb9 := below_undrew hb9'; clear tok1)
      | (go_at_call 25; refine (HF2.out _ (by exact (HE1.out _ hb9).1) (by exact (HE1.out _ hb9).2.2)).mono ?_; rintro e w10 ⟨A10, c10, rfl, hb10, hf10⟩; have hb11 := hb9.trans (hb10.mono hb9.size)))
  have HFA := Lib.hid ((hf9.below hb10).more hb10.size)
  have HFB := Lib.hid hf10
  have HK10 := Lib.hid hb11
  obtain ⟨g0, g1⟩ := HK.out _ hb11
  have Hcnt := Lib.hid (cD_mir HP.out)
  have Hla := Lib.hid (fun l hl => Nat.le_trans (faces_row_le HP.out l hl) (by omega) : ∀ l ∈ facesOf n es rs, l.length ≤ 1000)
  have Hlb := Lib.hid (fun l hl => Nat.le_trans (faces_row_le (mir_right HP.out) l hl) (by omega) : ∀ l ∈ facesOf n es (mir rs), l.length ≤ 1000)
  have hfle : (facesOf n es rs).length ≤ 1000 := Nat.le_trans (faces_le HP.out) (by omega)
  have Hfl := Lib.hid (faces_mir_length HP.out)
  have hne : (((facesOf n es rs).length : Int) != ((facesOf n es (mir rs)).length : Int)) = false := by rw [Hfl.out]; simp
  have HR1 := Lib.hid (right_iff.2 HP.out)
  have HR2 := Lib.hid (right_iff.2 (mir_right HP.out))
  have HGM := Lib.hid (gen_mir HP.out)
  generalize facesOf n es rs = fa at *
  generalize facesOf n es (mir rs) = fb at *
  clear hb9' hb9 hb10 hb11 hf9 hf10 _t HF2
  go_wp2_with fail
  refine (genus_any n A C cap ccap es rs w10 (HE1.out _ HK10.out).1 (HE1.out _ HK10.out).2.1 hr1' Hr2.out).mono ?_
  rintro e w11 ⟨hb11, h1, _⟩
  obtain rfl := h1 HR1.out
  have HK11 := Lib.hid (HK10.out.trans (hb11.mono HK10.out.size))
  have HFA11 := Lib.hid ((HFA.out.below hb11).more hb11.size)
  have HFB11 := Lib.hid ((HFB.out.below hb11).more hb11.size)
  obtain ⟨g0, g1⟩ := HK.out _ HK11.out
  clear hb11 h1 HFA HFB HK10
  go_wp2_with fail
  refine (HG2.out w11 (HE1.out _ HK11.out).1 (HE1.out _ HK11.out).2.2).mono ?_
  rintro e w12 ⟨hb12, h1, _⟩
  obtain rfl := h1 HR2.out
  have HK12 := Lib.hid (HK11.out.trans (hb12.mono HK11.out.size))
  have HFA12 := Lib.hid ((HFA11.out.below hb12).more hb12.size)
  have HFB12 := Lib.hid ((HFB11.out.below hb12).more hb12.size)
  clear hb12 h1 HFA11 HFB11 HK11 HG2 HE1
  rw [HGM.out]
  generalize gen n es rs = ga at *
  have hgg : ((ga : Int) != (ga : Int)) = false := by simp
  go_upto_region 37 with fail
  exact mirD A9 A10 c9 c10 fa fb w w12 HFA12.out HFB12.out Hfl.out.symm hfle Hla.out Hlb.out Hcnt.out (HB.out.trans (HK12.out.mono HB.out.size)) _ _ _ _ _ _ _ _ _ _ _ _ _ _ _ _ _ _ _ _ _ _ _ _ _ _ _ _ _ _ _ _ _ _ _ _ _ _ _ _ _ _ _ _ _ _ _ _ _ _ _ _ _ _ _ _ _ _ _ _ _ _ _ _ _ _ _ _ _ _ _ _ _ _ _ _ _ _ _ _ _ _ _ _ _ _ _ _ _ _ _ _ _ _ _ _ _ _ _ _ _ _ _ _ _ _ _ _ _ _ _ _ _ _ _ _ _ _ _ _ _ _ _ _ _ _ _ _ _ _ _ _ _ _ _ _ _ _ _ _ _ _ _ _ _ _ _ _ _ _ _ (by assumption)
end Go.Proofs.Ythdifhfmgmmljaa
