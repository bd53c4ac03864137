/-
  Law RotationMirrors: its end: the sizes in a map. Printed by wip/mirgen.py. Written by an AI agent.
-/
import Derived.Test.YthdifhfmgmmljaaMirror
import Derived.Maps.OwnOps
import Derived.Maps.RangeWalk
import Derived.Maps.Views
namespace Go.Proofs.Ythdifhfmgmmljaa
open Go.RowKit Go.Maps

/-- the rest behind n statements -/
def restC : Nat → Code → Code
  | 0, c => c
  | n + 1, .seq _ b => restC n b
  | _ + 1, c => c
def fstC : Code → Code
  | .seq a _ => a
  | c => c
def sndC : Code → Code
  | .seq _ b => b
  | c => c
theorem then_k {K K' : Act → World → Prop} {Q : Exit → Act → World → Prop} (h : ∀ a w, K a w → K' a w) : ∀ e a w, Exit.then K Q e a w → Exit.then K' Q e a w := by
  intro e a w hq
  cases e with
  | normal => exact h _ _ hq
  | exit id => exact hq
  | goto l => exact hq
  | ret => exact hq
  | panic ch => exact hq
  | outgrown => exact hq
theorem then_open {P : Program} {s : Code} {R : Act → World → Prop} {Q : Exit → Act → World → Prop} {a : Act} {w : World} (h : ∀ K : Act → World → Prop, (∀ a w, R a w → K a w) → s.wp P (Exit.then K Q) a w) : s.wp P (Exit.then R Q) a w := h R fun _ _ h => h

theorem law3 : Keyed Try.prog 3 := int_keyed Try.underlying3
theorem zero3 (w : World) : (zeroValue 3).run Try.prog w = .ok (.int .i64 0) w := by kernel_rfl
/-- how many of the first i of these have so many, less how many of the first j of those -/
def cD (fa fb : List (List Int)) (i j : Nat) (x : Int) : Int := (((fa.take i).countP fun l => decide ((l.length : Int) = x) : Nat) : Int) - (((fb.take j).countP fun l => decide ((l.length : Int) = x) : Nat) : Int)
section
variable {fa fb : List (List Int)} {i j : Nat}
theorem cD_a (h : i < fa.length) (x : Int) : cD fa fb (i + 1) j x = cD fa fb i j x + if (fa[i].length : Int) = x then 1 else 0 := by
  unfold cD
  rw [List.take_succ_eq_append_getElem h, List.countP_append]
  by_cases hx : (fa[i].length : Int) = x
  · simp [hx]; omega
  · simp [hx]
theorem cD_b (h : j < fb.length) (x : Int) : cD fa fb i (j + 1) x = cD fa fb i j x - if (fb[j].length : Int) = x then 1 else 0 := by
  unfold cD
  rw [List.take_succ_eq_append_getElem h, List.countP_append]
  by_cases hx : (fb[j].length : Int) = x
  · simp [hx]; omega
  · simp [hx]
theorem cD_bd (x : Int) : -(j : Int) ≤ cD fa fb i j x ∧ cD fa fb i j x ≤ i := by
  have h1 : (fa.take i).countP (fun l => decide ((l.length : Int) = x)) ≤ i := Nat.le_trans List.countP_le_length (by simp; omega)
  have h2 : (fb.take j).countP (fun l => decide ((l.length : Int) = x)) ≤ j := Nat.le_trans List.countP_le_length (by simp; omega)
  unfold cD
  omega
def DD (fa fb : List (List Int)) (i j : Nat) (D : DataW Unit) : Prop := IsMap D ∧ ∀ x : Int, D.atKey (.int .i64 x) (.lit (.int .i64 0)) = .lit (.int .i64 (cD fa fb i j x))
theorem DD.val {D : DataW Unit} (h : DD fa fb i j D) {x c : Int} (hc : D.atKey (.int .i64 x) (.lit (.int .i64 0)) = .lit (.int .i64 c)) : c = cD fa fb i j x := by
  rw [h.2 x] at hc
  injection hc with hc
  injection hc with _ hc
  exact hc.symm
theorem DD.a {D : DataW Unit} (h : DD fa fb i j D) (hi : i < fa.length) {k v : Int} (hk : k = fa[i].length) (hv : v = cD fa fb i j k + 1) : DD fa fb (i + 1) j (D.put (.int .i64 k) (.lit (.int .i64 v))) := by
  refine ⟨h.1.put _ _, fun x => ?_⟩
  rw [cD_a hi]
  by_cases hx : x = k
  · subst hx
    rw [atKey_put_same (k := .int .i64 x) h.1 (show WideAt.IsKeyLit (Lit.int .i64 x) from trivial), hv, if_pos hk.symm]
  · rw [atKey_put_other (by intro e; injection e with _ e; exact hx e), h.2 x, if_neg (by omega), Int.add_zero]
theorem DD.b {D : DataW Unit} (h : DD fa fb i j D) (hj : j < fb.length) {k v : Int} (hk : k = fb[j].length) (hv : v = cD fa fb i j k - 1) : DD fa fb i (j + 1) (D.put (.int .i64 k) (.lit (.int .i64 v))) := by
  refine ⟨h.1.put _ _, fun x => ?_⟩
  rw [cD_b hj]
  by_cases hx : x = k
  · subst hx
    rw [atKey_put_same (k := .int .i64 x) h.1 (show WideAt.IsKeyLit (Lit.int .i64 x) from trivial), hv, if_pos hk.symm]
  · rw [atKey_put_other (by intro e; injection e with _ e; exact hx e), h.2 x, if_neg (by omega), Int.sub_zero]
theorem DD.zero (fa fb : List (List Int)) : DD fa fb 0 0 (.map []) := ⟨isMap_empty, fun x => by simp [cD, DataW.atKey]⟩
theorem wf_small {a : Int} (h1 : -100000 ≤ a) (h2 : a ≤ 100000) : (Lit.int .i64 a).wf = true := WalkArith.wf_i64 (by omega)
end

set_option maxRecDepth 100000 in
set_option maxHeartbeats 4000000 in
theorem mirD (A1 A2 : Option Addr) (c1 c2 : Nat) (fa fb : List (List Int)) (w wc : World) (ha : RowsAt wc wc.heap.size A1 fa) (hb : RowsAt wc wc.heap.size A2 fb) (hl : fa.length = fb.length) (hm : fa.length ≤ 1000) (hla : ∀ l ∈ fa, l.length ≤ 1000) (hlb : ∀ l ∈ fb, l.length ≤ 1000) (hcnt : ∀ x : Int, cD fa fb fa.length fb.length x = 0) (hB : Below w.heap.size w wc) (u0 u1 u2 u3 u6 u7 u8 u9 u10 u11 u12 u13 u16 u17 u18 u19 u24 u25 u26 u27 u28 u29 u30 u31 u32 u33 u34 u35 u36 u37 u38 u39 u40 u41 u42 u43 u44 u45 u46 u47 u48 u49 u50 u51 u52 u53 u54 u55 u56 u57 u58 u59 u60 u61 u62 u63 u64 u65 u66 u67 u68 u69 u70 u71 u72 u73 u74 u75 u76 u77 u78 u79 u80 u81 u82 u83 u84 u85 u86 u87 u88 u89 u90 u91 u92 u93 u94 u95 u96 u97 u98 u99 u100 u101 u102 u103 u104 u105 u106 u107 u108 u109 u110 u111 u112 u113 u114 u115 u116 u117 u118 u119 u120 u121 u122 u123 u124 u125 u126 u127 u128 u129 u130 u131 u132 u133 u134 u135 u136 u137 u138 u139 u140 u141 u142 u143 u144 u145 u146 u147 u148 u149 u150 u151 u152 u153 u154 u155 u156 u157 : Value) (K : Act → World → Prop) (hK : ∀ a0 w0, Code.wp Try.prog (sndC (restC 13 ((Try.f9.body).getD .skip))) (bodyPost Try.prog Try.f9 (fun e w' => e = .returned (.bool true) ∧ Below w.heap.size w w')) a0 w0 → K a0 w0) : Code.wp Try.prog (fstC (restC 13 ((Try.f9.body).getD .skip))) (Exit.then K (bodyPost Try.prog Try.f9 (fun e w' => e = .returned (.bool true) ∧ Below w.heap.size w w'))) ⟨#[u0, u1, u2, u3, undef, undef, u6, u7, u8, u9, u10, u11, u12, u13, .slice A1 fa.length c1, .slice A2 fb.length c2, u16, u17, u18, u19, undef, undef, undef, undef, u24, u25, u26, u27, u28, u29, u30, u31, u32, u33, u34, u35, u36, u37, u38, u39, u40, u41, u42, u43, u44, u45, u46, u47, u48, u49, u50, u51, u52, u53, u54, u55, u56, u57, u58, u59, u60, u61, u62, u63, u64, u65, u66, u67, u68, u69, u70, u71, u72, u73, u74, u75, u76, u77, u78, u79, u80, u81, u82, u83, u84, u85, u86, u87, u88, u89, u90, u91, u92, u93, u94, u95, u96, u97, u98, u99, u100, u101, u102, u103, u104, u105, u106, u107, u108, u109, u110, u111, u112, u113, u114, u115, u116, u117, u118, u119, u120, u121, u122, u123, u124, u125, u126, u127, u128, u129, u130, u131, u132, u133, u134, u135, u136, u137, u138, u139, u140, u141, u142, u143, u144, u145, u146, u147, u148, u149, u150, u151, u152, u153, u154, u155, u156, u157, undef, undef, undef, undef, undef, undef, undef, undef, undef, undef, undef, undef, undef, undef, undef, undef, undef, undef, undef, undef, undef, undef, undef, undef, undef, undef, undef, undef, undef, undef, undef], []⟩ wc := by
  refine wp_mono (Q := Exit.then (fun a0 w0 => Code.wp Try.prog (sndC (restC 13 ((Try.f9.body).getD .skip))) (bodyPost Try.prog Try.f9 (fun e w' => e = .returned (.bool true) ∧ Below w.heap.size w w')) a0 w0) (bodyPost Try.prog Try.f9 (fun e w' => e = .returned (.bool true) ∧ Below w.heap.size w w'))) ?_ (then_k hK)
  clear hK
  conv => arg 2; whnf
  conv => arg 3; arg 1; ext a w; arg 2; whnf
  refine then_open fun K2 hK2 => ?_
  have HA := Lib.hid ha
  have HBB := Lib.hid hb
  have HLA := Lib.hid hla
  have HLB := Lib.hid hlb
  have HC := Lib.hid hcnt
  have HW := Lib.hid hB
  have hwz := hB.size
  have Hl := Lib.hid hl
  have hl' : fb.length = fa.length := hl.symm
  clear ha hb hla hlb hcnt hB hl
  have hmm := @run_makeMap Try.prog
  rw [hl']
  clear hl'
  go_wp2_with fail
  go_loopg [161] fa.length (fun k s161 wr => ∃ (i : Nat) (D : DataW Unit), s161 = .int .i64 i ∧ i ≤ fa.length ∧ k = fa.length - i ∧ Below wc.heap.size wc wr ∧ wr.ownsMap Try.prog 3 (plainElem Try.prog 3) wc.heap.size (2 * i) D ∧ DD fa fb i i D)
  case atStart => exact ⟨0, .map [], rfl, Nat.zero_le _, rfl, (Below.refl _ _).alloc (Nat.le_refl _) _, World.ownsMap_made _ _ _ _, DD.zero fa fb⟩
  case round =>
    obtain ⟨i, D, rfl, hi, hk, kr, hown, hdd⟩ := hrel
    have Hk := Lib.hid hk
    have HKr := Lib.hid kr
    have HDD := Lib.hid hdd
    have hsw := kr.size
    clear hk kr hdd
    by_cases hlt : i < fa.length
    · have hlt' : (i : Int) < fa.length := by omega
      have hltb : i < fb.length := by have := Hl.out; omega
      obtain ⟨ba, oa, rfl, hba, hca⟩ := HA.out (by omega)
      obtain ⟨bb, ob, rfl, hbb, hcb⟩ := HBB.out (by have := Hl.out; omega)
      obtain ⟨Ai, ci, ea, _⟩ := hca i hlt
      obtain ⟨Bi, di, eb, _⟩ := hcb i hltb
      have ea := (HKr.out.cell (p := ⟨ba, oa + i, none⟩) hba).trans ea
      have eb := (HKr.out.cell (p := ⟨bb, ob + i, none⟩) hbb).trans eb
      have hlai := HLA.out _ (List.getElem_mem hlt)
      have hlbi := HLB.out _ (List.getElem_mem hltb)
      obtain ⟨la, hla⟩ : ∃ z, z = fa[i].length := ⟨_, rfl⟩
      obtain ⟨lb, hlb⟩ : ∃ z, z = fb[i].length := ⟨_, rfl⟩
      rw [← hla] at ea hlai
      rw [← hlb] at eb hlbi
      have Hla := Lib.hid hla
      have Hlb := Lib.hid hlb
      clear hla hlb hca hcb
      have hkeya : keyOf Try.prog 3 (.int .i64 (la : Int)) = some (.int .i64 (la : Int)) := keyOf_int_mk Try.underlying3 (wf_small (by omega) (by omega))
      have hkeyb : keyOf Try.prog 3 (.int .i64 (lb : Int)) = some (.int .i64 (lb : Int)) := keyOf_int_mk Try.underlying3 (wf_small (by omega) (by omega))
      go_upto_region 42 with (first
        | (at_lookup; refine wpList_lookup_own_int _ rfl _ _ 58 rfl 3 3 .i64 law3 Try.underlying58 Try.underlying3 (zero3 _) wc.heap.size (2 * i) _ rfl hown _ _ rfl hkeya ?_; intro c hat hwc)
        | (at_mapUpdate; refine wpList_mapUpdate_own _ rfl _ _ _ 58 rfl 3 3 law3 Try.underlying58 _ wc.heap.size (2 * i) _ rfl hown (by unfold maxLen; omega) _ _ _ rfl rfl hkeya _ [] (plainElem_int Try.underlying3 (wrap64_wf _)) ?_; intro w1 hown1 hgrow1))
      have hcv := HDD.out.val hat
      obtain ⟨hb1, hb2⟩ := cD_bd (fa := fa) (fb := fb) (i := i) (j := i) (la : Int)
      have hw1 : wrap64 (c + 1) = cD fa fb i i (la : Int) + 1 := by rw [hcv]; unfold wrap64; omega
      have HD1 := Lib.hid (HDD.out.a hlt (k := (la : Int)) (by rw [Hla.out]) hw1)
      have hk1 := HKr.out.grown hgrow1 HKr.out.size (fun j hj => by cases hj; exact Nat.le_refl _)
      have HK1 := Lib.hid hk1
      have eb1 : w1.cell? ⟨bb, ob + i, none⟩ = some (.slice Bi lb di) := (World.cell?_of_block (a := ⟨bb, ob + i, none⟩) (hgrow1.block bb (by omega) (by intro e; cases e; omega))).trans eb
      clear hat hwc hcv hb1 hb2 hw1 hk1 hgrow1 hown ea eb hkeya
      obtain ⟨D1, hD1⟩ : ∃ z, z = D.put (.int .i64 (la : Int)) (.lit (.int .i64 (wrap64 (c + 1)))) := ⟨_, rfl⟩
      rw [← hD1] at hown1 HD1
      clear hD1
      go_upto_region 43 with (first
        | (at_lookup; refine wpList_lookup_own_int _ rfl _ _ 58 rfl 3 3 .i64 law3 Try.underlying58 Try.underlying3 (zero3 _) wc.heap.size (2 * i + 1) _ rfl hown1 _ _ rfl hkeyb ?_; intro c' hat hwc)
        | (at_mapUpdate; refine wpList_mapUpdate_own _ rfl _ _ _ 58 rfl 3 3 law3 Try.underlying58 _ wc.heap.size (2 * i + 1) _ rfl hown1 (by unfold maxLen; omega) _ _ _ rfl rfl hkeyb _ [] (plainElem_int Try.underlying3 (wrap64_wf _)) ?_; intro w2 hown2 hgrow2))
      have hcv := HD1.out.val hat
      obtain ⟨hb1, hb2⟩ := cD_bd (fa := fa) (fb := fb) (i := i + 1) (j := i) (lb : Int)
      have hw1 : wrap64 (c' - 1) = cD fa fb (i + 1) i (lb : Int) - 1 := by rw [hcv]; unfold wrap64; omega
      have HD2 := Lib.hid (HD1.out.b hltb (k := (lb : Int)) (by rw [Hlb.out]) hw1)
      have HK2 := Lib.hid (HK1.out.grown hgrow2 HK1.out.size (fun j hj => by cases hj; exact Nat.le_refl _))
      have HO2 := Lib.hid hown2
      clear hat hwc hcv hb1 hb2 hw1 hgrow2 hown1 hown2 eb1 hkeyb
      go_wp2_with fail
      go_roundg (fa.length - (i + 1))
      case measure => rw [Hk.out]; omega
      case rel => exact ⟨i + 1, _, by go_num, by omega, rfl, HK2.out, HO2.out, HD2.out⟩
    · have hie : i = fa.length := by omega
      have HZ := Lib.hid (fun (x c : Int) (h : ∀ zd, D.atKey (.int .i64 x) zd = .lit (.int .i64 c)) => (by
        have h1 := HDD.out.2 x
        rw [h, hie] at h1
        have h2 := HC.out x
        rw [← Hl.out] at h2
        rw [h2] at h1
        injection h1 with h1
        injection h1 : c = 0))
      have hlt' : ¬ (i : Int) < fa.length := by omega
      clear HDD hie hlt hi
      obtain ⟨wo, rfl⟩ : ∃ q, q = wr := ⟨_, rfl⟩
      go_wp2_with (at_range; refine wpList_range_own _ rfl _ 58 rfl 3 3 law3 Try.underlying58 _ wc.heap.size (2 * i) D rfl hown ?_; intro w0 hrg0 hg0 hs0)
      try go_frame
      have hk0 := HKr.out.grown (hg0.but (some wo.heap.size)) HKr.out.size (fun j hj => by cases hj; exact HKr.out.size)
      have HK0 := Lib.hid hk0
      clear hown hg0 hk0
      go_loopg [183] (Maps.size D) (fun k _ wl => ∃ (left : Lit → Bool), wl.ranges Try.prog 3 (plainElem Try.prog 3) wc.heap.size wo.heap.size (2 * i) D left k ∧ Below wc.heap.size wc wl)
      case atStart => exact ⟨_, hrg0, HK0.out⟩
      case round =>
        clear hrg0 HK0
        obtain ⟨left, hrg, kl⟩ := hrel
        have HKL := Lib.hid kl
        have hwl := kl.size
        clear kl
        go_wp2_with (at_next; refine wpList_next_ranges_ii _ rfl _ rfl 3 3 .i64 .i64 law3 Try.underlying3 Try.underlying3 wc.heap.size wo.heap.size (2 * i) _ _ _ rfl hrg ?_ ?_)
        · intro hc0 hl0
          have HF := Lib.hid (HW.out.trans (HKL.out.mono hwz))
          clear hrg hl0 hc0
          go_wp2_with fail
          go_ret
          exact ⟨rfl, HF.out⟩
        · intro x c w1 cnt1 hwx hwc hlx hat hrg1 hlt1 hg1 hs1 hen
          have hc0 : c = 0 := HZ.out x c hat
          subst hc0
          have HK1 := Lib.hid (HKL.out.grown hg1 HKL.out.size (fun j hj => by cases hj; exact HKr.out.size))
          have HR1 := Lib.hid hrg1
          have HL1 := Lib.hid hlt1
          clear hat hrg hrg1 hg1 hlt1 hwx hwc hlx
          go_wp2_with fail
          go_roundg cnt1
          case measure => exact HL1.out
          case rel => exact ⟨_, HR1.out, HK1.out⟩
end Go.Proofs.Ythdifhfmgmmljaa
