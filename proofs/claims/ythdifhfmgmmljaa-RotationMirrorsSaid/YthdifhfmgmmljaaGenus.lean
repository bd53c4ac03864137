/-
  Package rotation: Genus: what it computes. Written by an AI agent.
-/
import Derived.Test.YthdifhfmgmmljaaFaceLaw
import Derived.Test.YthdifhfmgmmljaaSpeaks
namespace Go.Proofs.Ythdifhfmgmmljaa
open Go.RowKit

/-- the number of handles -/
noncomputable def gen (n : Int) (es : List (Int × Int)) (rs : List (List Int)) : Nat := (2 * cls (Q es es.length) rs.length + es.length - (rs.length + iso rs + (facesOf n es rs).length)) / 2
theorem gen_spec {n : Int} {es : List (Int × Int)} {rs : List (List Int)} (h : RightP n es rs) (hin : InN rs.length es) : 2 * cls (Q es es.length) rs.length + es.length = rs.length + iso rs + (facesOf n es rs).length + 2 * gen n es rs := by
  obtain ⟨g, hg⟩ := euler_all h hin
  unfold gen
  omega
theorem right_inN {n : Int} {es : List (Int × Int)} {rs : List (List Int)} (h : RightP n es rs) : InN rs.length es := by
  have := badE_in h.may
  rw [← h.len] at this
  exact this
theorem faces_le {n : Int} {es : List (Int × Int)} {rs : List (List Int)} (h : RightP n es rs) : (facesOf n es rs).length ≤ 2 * es.length := by
  rw [faces_rows h, rowsUpto_length]
  unfold cls
  exact Nat.le_trans List.countP_le_length (by simp)
theorem parts_cls {n : Nat} {es : List (Int × Int)} {T : List Nat} (hin : InN n es) (hn : n ≤ 64) (hT : Grown1 true (withoutB 0 es) n es T) : (partsUpto T 0 n).1.length = cls (Q es es.length) n := by
  have hK : ∀ x y, Kin 0 es x y ↔ Q es es.length x y := fun x y => by
    unfold Kin Q
    refine Star.congr fun i hi => ?_
    unfold withoutB
    have h0 : ∀ a, setHas 0 a = false := fun a => by simp [setHas]
    rw [h0, h0, decide_eq_true hi]
    rfl
  suffices ∀ k, k ≤ n → (partsUpto T 0 k).1.length = (List.range k).countP fun x => tst (∀ z, z < x → ¬ Q es es.length z x) from this n (Nat.le_refl _)
  intro k
  induction k with
  | zero => intro _; rfl
  | succ k ih =>
    intro hk
    rw [partsUpto_succ', List.range_succ, List.countP_append, ← ih (by omega)]
    have hd := done_iff hin hn hT k (by omega) k (by omega)
    simp only [List.countP_cons, List.countP_nil, Nat.zero_add]
    by_cases h : setHas (partsUpto T 0 k).2 k = true
    · rw [if_pos h, if_neg]
      · rfl
      · rw [tst_iff]
        intro g
        rcases hd.1 h with h1 | ⟨z, hz, _, hk2⟩
        · simp at h1
        · exact g z hz ((hK _ _).1 hk2)
    · rw [if_neg h, if_pos]
      · simp
      · rw [tst_iff]
        intro z hz hq
        exact h (hd.2 (.inr ⟨z, hz, by simp, (hK _ _).2 hq⟩))
theorem parts0_is (N : Nat) (A : Option Addr) (cap : Nat) (es : List (Int × Int)) (w : World) (hes : Cells w w.heap.size A (edgeCells es)) (hm : mayB N es = true) :
    Calls Try.prog 15 #[.agg #[.int .i64 N, .slice A es.length cap], .int .u64 0] w (fun e w' => ∃ A c, e = .returned (.slice A (cls (Q es es.length) N) c) ∧ Below w.heap.size w w') := by
  refine (parts_any N A cap es 0 (by omega) w hes).mono ?_
  rintro e w5 ⟨v5, rfl, hb6, hv5, _⟩
  obtain ⟨T, hT, ho⟩ := hv5 hm
  have hin : InN N es := badE_in hm
  have hn := (may_parts hm).2.1
  have hpc := parts_cls hin (by omega) hT
  have ho : w5.ownsRow w.heap.size 32 1 v5 (partsUpto T 0 N).1.length (setCells (partsUpto T 0 N).1) := ho
  have hpc : (partsUpto T 0 N).1.length = cls (Q es es.length) N := hpc
  rw [hpc] at ho
  obtain ⟨A5, c5, rfl⟩ := own_slice ho
  exact ⟨A5, c5, rfl, hb6⟩
def isoU (rs : List (List Int)) (k : Nat) : Nat := (List.range k).countP fun x => decide ((rs.getD x []).length = 0)
theorem isoU_succ (rs : List (List Int)) (k : Nat) : isoU rs (k + 1) = isoU rs k + if (rs.getD k []).length = 0 then 1 else 0 := by
  unfold isoU
  rw [List.range_succ, List.countP_append]
  simp
theorem isoU_le (rs : List (List Int)) (k : Nat) : isoU rs k ≤ k := Nat.le_trans List.countP_le_length (by simp)

theorem gen_val {P N m F u g : Nat} (h : 2 * P + m = N + u + F + 2 * g) (hP : P ≤ 1000) (hN : N ≤ 1000) (hm : m ≤ 1000) (hF : F ≤ 1000) (hu : u ≤ 1000) :
    IntKind.i64.wrap ((IntKind.i64.wrap (IntKind.i64.wrap (IntKind.i64.wrap (IntKind.i64.wrap (2 * (P : Int)) - (N : Int)) + (m : Int)) - ((F : Int) + (u : Int)))).tdiv 2) = (g : Int) := by
  have e1 : IntKind.i64.wrap (2 * (P : Int)) = 2 * (P : Int) := by rw [IntKind.wrap_i64]; omega
  have e2 : IntKind.i64.wrap (2 * (P : Int) - (N : Int)) = 2 * (P : Int) - (N : Int) := by rw [IntKind.wrap_i64]; omega
  have e3 : IntKind.i64.wrap (2 * (P : Int) - (N : Int) + (m : Int)) = 2 * (P : Int) - (N : Int) + (m : Int) := by rw [IntKind.wrap_i64]; omega
  have e4 : IntKind.i64.wrap (2 * (P : Int) - (N : Int) + (m : Int) - ((F : Int) + (u : Int))) = 2 * (g : Int) := by rw [IntKind.wrap_i64]; omega
  have e5 : Int.tdiv (2 * (g : Int)) 2 = (g : Int) := by rw [Int.tdiv_eq_ediv_of_nonneg (by omega)]; omega
  rw [e1, e2, e3, e4, e5, IntKind.wrap_i64]
  omega

def GenusPost (n : Int) (es : List (Int × Int)) (rs : List (List Int)) (w : World) (e : Ending) (w' : World) : Prop :=
  Below w.heap.size w w' ∧ (rightB n es rs = true → e = .returned (.tuple #[.int .i64 (gen n es rs : Nat), .int .i64 0])) ∧ (rightB n es rs = false → e = .returned (.tuple #[.int .i64 0, .int .i64 1]))

set_option maxRecDepth 20000 in
set_option maxHeartbeats 2000000 in
theorem genus_any (n : Int) (A C : Option Addr) (cap ccap : Nat) (es : List (Int × Int)) (rs : List (List Int)) (w : World) (hes : Cells w w.heap.size A (edgeCells es)) (hrs : RowsAt w w.heap.size C rs) (hr1 : rs.length ≤ 1000) (hr2 : ∀ l ∈ rs, l.length ≤ 1000) :
    Calls Try.prog 26 #[.agg #[.int .i64 n, .slice A es.length cap], .slice C rs.length ccap] w (GenusPost n es rs w) := by
  go_enter Try.func26, Try.ntmps26
  go_wp2_with fail
  have b0 := World.cell?_alloc_new w #[.int .i64 n, .slice A es.length cap] 24 0
  have b1 := World.cell?_alloc_new w #[.int .i64 n, .slice A es.length cap] 24 1
  simp only [List.getElem?_toArray, List.getElem?_cons_zero, List.getElem?_cons_succ] at b0 b1
  have hbw := (Below.refl w.heap.size w).alloc (Nat.le_refl _) (.cells #[.int .i64 n, .slice A es.length cap] 24)
  have s1 := World.size_alloc w (.cells #[.int .i64 n, .slice A es.length cap] 24)
  generalize w.alloc (.cells #[.int .i64 n, .slice A es.length cap] 24) = w1 at *
  refine (right_any n A C cap ccap es rs w1 ((hes.below hbw).more (by omega)) ((hrs.below hbw).more (by omega)) hr1 hr2).mono ?_
  rintro e w2 ⟨rfl, hb2⟩
  have c0 := (hb2.cell (p := ⟨w.heap.size, 0, none⟩) (by simp; omega)).trans b0
  have c1 := (hb2.cell (p := ⟨w.heap.size, 1, none⟩) (by simp; omega)).trans b1
  have hb3 := hbw.trans (hb2.mono (by omega))
  have l2 : w.heap.size < w2.heap.size := by have := hb2.size; omega
  clear b0 b1 hb2 hbw s1
  cases hm : rightB n es rs with
  | false =>
    have Hm := Lib.hid hm
    clear hm
    go_wp2_with fail
    go_ret2
    exact ⟨hb3, fun h => (by rw [Hm.out] at h; cases h), fun _ => rfl⟩
  | true =>
    have HP := Lib.hid (right_iff.1 hm)
    have Hm := Lib.hid hm
    obtain ⟨hn0, hn1, hn2⟩ := may_parts (right_may hm)
    clear hm
    have hF := faces_le HP.out
    go_wp2_with fail
    refine (faces_any n A C cap ccap es rs w2 ((hes.below hb3).more (by omega)) ((hrs.below hb3).more (by omega)) hr1 hr2).mono ?_
    rintro e w3 ⟨Af, cf, rfl, hb4, _⟩
    have c0 := (hb4.cell (p := ⟨w.heap.size, 0, none⟩) l2).trans c0
    have c1 := (hb4.cell (p := ⟨w.heap.size, 1, none⟩) l2).trans c1
    have hb5 := hb3.trans (hb4.mono (Nat.le_of_lt l2))
    have l3 : w.heap.size < w3.heap.size := by have := hb4.size; omega
    clear hb3 hb4 l2
    have hG := gen_spec HP.out (right_inN HP.out)
    have HG := Lib.hid hG
    clear hG
    generalize hFl : (facesOf n es rs).length = F at *
    clear hFl
    have hrs3 := hrs.below hb5
    go_wp2_with fail
    go_loopg [6, 19] rs.length (fun k s6 s19 wr => ∃ i : Nat, s19 = .int .i64 i ∧ i ≤ rs.length ∧ k = rs.length - i ∧ wr = w3 ∧ s6 = .int .i64 ((F : Int) + (isoU rs i : Nat)))
    case atStart => exact ⟨0, rfl, Nat.zero_le _, rfl, rfl, by simp [isoU]⟩
    case round =>
      obtain ⟨i, rfl, hi, hk, hwr, rfl⟩ := hrel
      have Hk := Lib.hid hk; clear hk
      have hiU := isoU_le rs i
      by_cases hlt : i < rs.length
      · have hlt' : (i : Int) < rs.length := by omega
        obtain ⟨b, off, rfl, hbb, hc⟩ := hrs3 (by omega)
        obtain ⟨Ai, ci, e0, _⟩ := hc i hlt
        have e0 : wr.cell? ⟨b, off + i, none⟩ = some (.slice Ai rs[i].length ci) := by rw [hwr]; exact e0
        have HS := Lib.hid (show isoU rs (i + 1) = isoU rs i + if rs[i].length = 0 then 1 else 0 by rw [isoU_succ, List.getD_eq_getElem?_getD, List.getElem?_eq_getElem hlt]; rfl)
        have Hwr := Lib.hid hwr
        clear hc hwr
        generalize rs[i] = l at *
        generalize isoU rs i = u at *
        by_cases hl0 : l.length = 0
        · have hl0' : ((l.length : Int) == 0) = true := by simp [hl0]
          rw [if_pos hl0] at HS
          clear hl0
          go_wp2_with fail
          go_roundg (rs.length - (i + 1))
          case measure => rw [Hk.out]; omega
          case rel => exact ⟨i + 1, by go_num, by omega, rfl, Hwr.out, by rw [HS.out]; go_num⟩
        · have hl0' : ((l.length : Int) == 0) = false := by simp; intro hh; apply hl0; rw [hh]; rfl
          rw [if_neg hl0] at HS
          clear hl0
          go_wp2_with fail
          go_roundg (rs.length - (i + 1))
          case measure => rw [Hk.out]; omega
          case rel => exact ⟨i + 1, by go_num, by omega, rfl, Hwr.out, by rw [HS.out]; go_num⟩
      · have hie : i = rs.length := by omega
        subst hie
        subst hwr
        have HG2 := HG.out
        have hln := HP.out.len
        change 2 * cls (Q es es.length) rs.length + es.length = rs.length + isoU rs rs.length + F + 2 * gen n es rs at HG2
        obtain ⟨N, rfl⟩ := Int.eq_ofNat_of_zero_le (Int.le_of_lt hn0)
        have hNr : rs.length = N := by omega
        have hes3 := hes.below hb5
        have ks : ∀ w', Below wr.heap.size wr w' → w'.cell? ⟨w.heap.size, 0, none⟩ = some (.int .i64 N) ∧ w'.cell? ⟨w.heap.size, 1, none⟩ = some (.slice A es.length cap) :=
          fun w' h => ⟨(h.cell (p := ⟨w.heap.size, 0, none⟩) l3).trans c0, (h.cell (p := ⟨w.heap.size, 1, none⟩) l3).trans c1⟩
        have Ks := Lib.hid ks
        have Hes := Lib.hid hes3
        clear ks hes3
        generalize isoU rs rs.length = u at *
        go_wp2_with fail
        go_region_held3 (fun w' => w'.cell? ⟨w.heap.size, 0, none⟩ = some (.int .i64 N) ∧ w'.cell? ⟨w.heap.size, 1, none⟩ = some (.slice A es.length cap))
          (first | exact ⟨c0, c1⟩ | exact Ks.out _ hb7)
          (first
            | (go_at_call 15; refine (parts0_is N A cap es _ (by exact Hes.out.more (Nat.le_of_lt l3)) HP.out.may).mono ?_; rintro e w5 ⟨A5, c5, rfl, hb6⟩; have hb7 := below_undrew hb6))
        have hcl : cls (Q es es.length) N ≤ N := Nat.le_trans List.countP_le_length (by simp)
        rw [hNr] at HG2
        have hv := gen_val HG2 (by omega) (by omega) (by omega) (by omega) (by omega)
        rw [hv]
        have HB := Lib.hid (hb5.trans (hb7.mono (Nat.le_of_lt l3)))
        generalize cls (Q es es.length) N = P at *
        clear hv hb7 hb6
        go_wp2_with fail
        go_ret2
        exact ⟨HB.out, fun _ => rfl, fun h => (by rw [Hm.out] at h; cases h)⟩
end Go.Proofs.Ythdifhfmgmmljaa
