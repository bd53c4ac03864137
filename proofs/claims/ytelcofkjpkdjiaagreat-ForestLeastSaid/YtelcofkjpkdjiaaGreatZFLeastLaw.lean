import Derived.Test.YtelcofkjpkdjiaaGreatZFOutersLaw
import Derived.Test.YtelcofkjpkdjiaaGreatZAsg
/-
  The law ForestLeast, walked. (Printed by lawgen.py.) Written by an AI agent.
-/
namespace Go.Proofs.YtelcofkjpkdjiaaGreat
open Go.RowKit

theorem tries_head (n : Int) (es : List (Int × Int)) (rs : List (List Int)) (F : Nat) : (triesL n es rs F).head? = ((List.range F).find? fun f => tryE n es rs f).map Int.ofNat := by
  unfold triesL
  rw [List.head?_map, List.head?_filter]
/-- the least of the faces told is the one that is assigned -/
theorem least_one {n : Int} {es : List (Int × Int)} {rs : List (List Int)} (hf : faskB n es rs = true) (he : 0 < es.length) :
    (assignR n es rs = none ∧ outR n es rs = []) ∨ ∃ f G r, assignR n es rs = some (f, G) ∧ outR n es rs = (f : Int) :: r := by
  have ha := fask_ask hf
  rw [outers_one hf he]
  have hh := tries_head n es rs (facesOf n es rs).length
  rcases assign_outer ha he with ⟨h1, h2⟩ | ⟨f, G, h1, h2, h3, h4⟩
  · left
    refine ⟨h1, ?_⟩
    unfold outersR
    unfold outerR at h2
    by_cases hb : bimB rs = true
    · rw [if_pos hb] at h2 ⊢
      unfold firstI at h2
      cases hq : (List.range (facesOf n es rs).length).find? (tryE n es rs) with
      | none =>
        have hq' : ((List.range (facesOf n es rs).length).find? fun f => tryE n es rs f) = none := hq
        rw [hq'] at hh
        cases hT : triesL n es rs (facesOf n es rs).length with
        | nil => rfl
        | cons x r => rw [hT] at hh; cases hh
      | some i =>
        rw [hq] at h2
        have h2 : (i : Int) = -1 := h2
        omega
    · rw [if_neg hb]
  · right
    unfold outersR
    unfold outerR at h2
    by_cases hb : bimB rs = true
    · rw [if_pos hb] at h2 ⊢
      unfold firstI at h2
      cases hq : (List.range (facesOf n es rs).length).find? (tryE n es rs) with
      | none =>
        rw [hq] at h2
        have h2 : (-1 : Int) = (f : Int) := h2
        omega
      | some i =>
        rw [hq] at h2
        have h2 : (i : Int) = (f : Int) := h2
        have hq' : ((List.range (facesOf n es rs).length).find? fun f => tryE n es rs f) = some i := hq
        rw [hq'] at hh
        cases hT : triesL n es rs (facesOf n es rs).length with
        | nil => rw [hT] at hh; cases hh
        | cons x r =>
          rw [hT] at hh
          injection hh with hh
          exact ⟨f, G, r, h1, by rw [hh]; show ((i : Nat) : Int) :: r = _; rw [h2]⟩
    · rw [if_neg hb] at h2
      omega
set_option maxRecDepth 20000 in
set_option maxHeartbeats 8000000 in
theorem fleastLaw_any (n : Int) (A C : Option Addr) (cap ccap : Nat) (es : List (Int × Int)) (rs : List (List Int)) (w : World) (hcap : es.length ≤ cap) (hes : Cells w w.heap.size A (edgeCells es)) (hrs : RowsAt w w.heap.size C rs) :
    Calls Tryz.prog 4 #[.agg #[.int .i64 n, .slice A es.length cap], .slice C rs.length ccap] w (fun e w' => e = .returned (.bool true) ∧ Below w.heap.size w w') := by
  have S1 := Lib.hid (SG.start n cap hes hrs)
  have HCAP := Lib.hid hcap
  clear hes hrs hcap
  go_enter Tryz.func4, Tryz.ntmps4
  go_upto_region 1 with fail
  generalize w.alloc (.cells #[.int .i64 n, .slice A es.length cap] 24) = w1 at *
  go_wp2_with fail
  refine (speaks12_any w1).mono ?_
  rintro e w2 ⟨rfl, hb2⟩
  have S2 := Lib.hid (S1.out.next hb2)
  have g0 := S2.out.g0
  have g1 := S2.out.g1
  clear hb2 S1
  go_wp2_with fail
  refine (great2_any n A C cap ccap es rs 60 w2 S2.out.rs).mono ?_
  rintro e w3 ⟨b, rfl, hb3, hgr⟩
  have S3 := Lib.hid (S2.out.next hb3)
  clear hb3 S2 g0 g1
  have g0 := S3.out.g0
  have g1 := S3.out.g1
  cases b with
  | true =>
    clear hgr
    go_wp2_with fail
    go_ret
    exact ⟨rfl, S3.out.below⟩
  | false =>
    obtain ⟨h1, h2, h3⟩ := hgr rfl
    have hr1 : rs.length ≤ 1000 := by omega
    have HR2 := Lib.hid (show ∀ l ∈ rs, l.length ≤ 1000 from fun l hl => by have := h3 l hl; omega)
    clear hgr h3
    go_wp2_with fail
    refine (rfask_any n A C cap ccap es rs w3 S3.out.es S3.out.rs hr1 HR2.out).mono ?_
    rintro e w4 ⟨rfl, hb4⟩
    have S4 := Lib.hid (S3.out.next hb4)
    clear hb4 S3 g0 g1
    have g0 := S4.out.g0
    have g1 := S4.out.g1
    cases ha : faskB n es rs with
    | false =>
      clear ha
      go_wp2_with fail
      go_ret
      exact ⟨rfl, S4.out.below⟩
    | true =>
      have HA := Lib.hid ha
      have HFL := Lib.hid (faces_le (ask_right (fask_ask ha)))
      clear ha
      by_cases h0 : es.length = 0
      · have h0' : ((es.length : Int) == 0) = true := by rw [h0]; rfl
        clear h0 h1
        go_wp2_with fail
        go_ret
        exact ⟨rfl, S4.out.below⟩
      · have h0' : ((es.length : Int) == 0) = false := by rw [beq_eq_false_iff_ne]; omega
        have HLO := Lib.hid (least_one HA.out (by omega))
        clear h0
        go_wp2_with fail
        refine (fOuters_any n A C cap ccap es rs w4 S4.out.es S4.out.rs hr1 HR2.out HCAP.out).mono ?_
        rintro e w5 ⟨A5, c5, rfl, hb5, hc5⟩
        have S5 := Lib.hid (S4.out.next hb5)
        have HC5 := Lib.hid hc5
        clear hb5 hc5 S4 g0 g1
        have g0 := S5.out.g0
        have g1 := S5.out.g1
        rcases HLO.out with ⟨k1, k2⟩ | ⟨f, G, r, k1, k2⟩
        · have HAS := Lib.hid (assign_any n A C cap ccap es rs w5 S5.out.es S5.out.rs hr1 HR2.out)
          rw [k1] at HAS
          rw [k2]
          clear HLO k1 k2 HC5 h0'
          go_wp2_with fail
          refine HAS.out.mono ?_
          rintro e w6 ⟨hb6, rfl⟩
          have S6 := Lib.hid (S5.out.next hb6)
          clear hb6 g0 g1
          go_wp2_with fail
          go_ret
          exact ⟨rfl, S6.out.below⟩
        · have HAS := Lib.hid (assign_any n A C cap ccap es rs w5 S5.out.es S5.out.rs hr1 HR2.out)
          rw [k1] at HAS
          rw [k2] at HC5
          rw [k2]
          obtain ⟨b, off, e1, hb, hcc⟩ := HC5.out.ints (by simp)
          have z0 := hcc 0 (by simp)
          have HE1 := Lib.hid (And.intro e1 hb)
          clear HLO k1 k2 h0' hcc e1
          subst_vars
          obtain ⟨nl, hnl⟩ : ∃ nl, nl = ((f : Int) :: r).length := ⟨_, rfl⟩
          have hnp : 0 < nl := by rw [hnl]; simp
          rw [← hnl]
          have hnp' : (0 : Int) < nl := by omega
          have z1 : w5.cell? ⟨b, off, none⟩ = some (.int .i64 (f : Nat)) := by simpa using z0
          have hA5 := HE1.out.1
          subst hA5
          have hbb := HE1.out.2
          clear z0 hnl HC5 HE1 hb
          go_wp2_with fail
          refine HAS.out.mono ?_
          rintro e w6 ⟨hb6, g, rfl, hg6, _⟩
          have S6 := Lib.hid (S5.out.next hb6)
          have z2 := (hb6.cell (p := ⟨b, off, none⟩) hbb).trans z1
          have hff : ((f : Int) == (f : Int)) = true := by simp
          clear hb6 g0 g1 z1
          go_wp2_with fail
          go_ret
          exact ⟨rfl, S6.out.below⟩
end Go.Proofs.YtelcofkjpkdjiaaGreat
