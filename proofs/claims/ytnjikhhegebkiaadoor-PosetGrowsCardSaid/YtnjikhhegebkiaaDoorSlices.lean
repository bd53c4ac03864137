/-
  slices.Clone, Reverse, Index: what they compute (Clone and Reverse by wip/mkp.py out of the first seat's). Written by an AI agent.
-/
import Derived.Test.YtnjikhhegebkiaaDoorApp
import Derived.Test.YtnjikhhegebkiaaDoorRegion3
import Derived.Test.YtnjikhhegebkiaaDoorReach
namespace Go.Proofs.YtnjikhhegebkiaaDoor
open Go.RowKit

/-- a and b change places ahead of f -/
def swp (a b x : Nat) : Nat := if x = a then b else if x = b then a else x
/-- two places of a list, the one's thing in the other -/
def swpL (l : List Int) (i k : Nat) : List Int := (l.set i (l.getD k 0)).set k (l.getD i 0)
theorem swpL_length (l : List Int) (i k : Nat) : (swpL l i k).length = l.length := by simp [swpL]
theorem swp_l (a b : Nat) : swp a b a = b := by unfold swp; rw [if_pos rfl]
theorem swp_r (a b : Nat) : swp a b b = a := by
  unfold swp
  by_cases h : b = a
  · rw [if_pos h, h]
  · rw [if_neg h, if_pos rfl]
theorem swp_o {a b x : Nat} (h1 : x ≠ a) (h2 : x ≠ b) : swp a b x = x := by unfold swp; rw [if_neg h1, if_neg h2]
theorem swpL_getD {l : List Int} {i k : Nat} (hi : i < l.length) (hk : k < l.length) {t : Nat} (ht : t < l.length) : (swpL l i k).getD t 0 = l.getD (swp i k t) 0 := by
  unfold swpL swp
  rw [List.getD_eq_getElem?_getD, List.getElem?_set, List.getElem?_set]
  by_cases h1 : k = t
  · subst h1
    by_cases h2 : k = i
    · subst h2; simp [hk]
    · simp [hk, h2, hi]
  · by_cases h2 : i = t
    · subst h2; simp [h1, hi]
    · simp [h1, h2, Ne.symm h1, Ne.symm h2]
theorem Blk.setIntR {w : World} {g : Nat} {t : TypeId} {l : List Int} {R : Array Value} (h : Blk w g t ((intCells l).toArray ++ R)) (k : Nat) (b : Int) (hk : k < l.length) : Blk (w.setCell ⟨g, k, none⟩ (.int .i64 b)) g t ((intCells (l.set k b)).toArray ++ R) := by
  have := h.set_ k (.int .i64 b)
  rw [Array.setIfInBounds_append_left (by simpa [intCells] using hk)] at this
  simpa [intCells, List.map_set] using this
theorem Blk.intR {w : World} {g : Nat} {t : TypeId} {l : List Int} {R : Array Value} (h : Blk w g t ((intCells l).toArray ++ R)) {k : Nat} (hk : k < l.length) : w.cell? ⟨g, k, none⟩ = some (.int .i64 (l.getD k 0)) := by
  rw [h.cell k, Array.getElem?_append_left (by simpa [intCells] using hk)]; simp [intCells, hk]
theorem own_slice {w : World} {base size n : Nat} {t : TypeId} {v : Value} {xs : List Value} (h : w.ownsRow base t size v n xs) : ∃ A c, v = .slice A n c := by
  rcases h.2 with ⟨rfl, h0⟩ | ⟨g, cap, cur, rfl, _⟩
  · exact ⟨none, 0, by rw [h0]⟩
  · exact ⟨_, _, rfl⟩
theorem eql_nil (w : World) (a : Option Addr) (n c : Nat) : (binOp .eql 31 (.slice a n c) (.slice none 0 0)).run Tryd.prog w = .ok (.bool a.isNone) w := by
  simp only [binOp]
  simp [Op.equal, Op.maxDepth, Lib.run_equalIn_slice_nil w 9999 31 3 a n c 0 0 Tryd.underlying31]
theorem intCells_one (l : List Int) : (intCells l).all (fun u => u.oneCell') = true := by
  rw [List.all_eq_true]
  intro u hu
  obtain ⟨z, _, rfl⟩ := List.mem_map.1 hu
  rfl
set_option maxRecDepth 20000 in
theorem clone_any (A : Option Addr) (c : Nat) (l : List Int) (w : World) (h : Cells w w.heap.size A (intCells l)) (hl : l.length ≤ 1000) :
    Calls Tryd.prog 52 #[.slice A l.length c] w (fun e w' => ∃ v, e = .returned v ∧ Below w.heap.size w w' ∧ w'.ownsRow w.heap.size 3 1 v l.length (intCells l)) := by
  cases A with
  | none =>
    have hl0 : l = [] := by
      cases l with
      | nil => rfl
      | cons a r =>
        obtain ⟨b, off, e, _⟩ := h (by simp [intCells])
        cases e
    subst hl0
    have heq := fun (wx : World) => eql_nil wx none 0 c
    go_enter Tryd.func52, Tryd.ntmps52
    go_wp2_with fail
    go_ret
    exact ⟨_, rfl, Below.refl _ _, World.ownsRow_nil _ _ _ _⟩
  | some ad =>
    have H := Lib.hid h
    have ho0 : (w.alloc (.cells #[] 3)).ownsRow w.heap.size 3 1 (.slice (some ⟨w.heap.size, 0, none⟩) 0 0) 0 [] :=
      blk_own (R := #[]) (Nat.le_refl _) (by simpa using Blk.new w 3 #[]) (by simp) (Nat.le_refl _) (by unfold maxLen; omega) (by simp)
    have hba := (Below.refl w.heap.size w).alloc (Nat.le_refl _) (.cells #[] 3)
    have hCa := h.below hba
    have hsa : w.heap.size ≤ (w.alloc (.cells #[] 3)).heap.size := by simp
    clear h
    have heq := fun (wx : World) => eql_nil wx (some ad) l.length c
    go_enter Tryd.func52, Tryd.ntmps52
    go_wp2_with (at_builtin; refine wp_app_any elemInt rfl _ _ rfl rfl ho0 rfl hCa (show (intCells l).length = l.length * 1 by simp [intCells]) (intCells_one l) ?h2 ?h3 ?h4 ?_)
    case h2 => omega
    case h3 => omega
    try (case h4 => omega)
    intro v5 w5 ho5 hg5 _
    have hb5 : Below w.heap.size w w5 := below_app hba ho0 hg5 hsa (Nat.le_refl _)
    have HX := Lib.hid (And.intro hb5 (show w5.ownsRow w.heap.size 3 1 v5 l.length (intCells l) by simpa using ho5))
    clear ho5 hg5 hb5 ho0 hba hCa
    go_wp2_with fail
    go_ret
    exact ⟨_, rfl, HX.out.1, HX.out.2⟩
/-- turned round, as far as i -/
def revN (l : List Int) : Nat → List Int
  | 0 => l
  | i + 1 => swpL (revN l i) i (l.length - 1 - i)
theorem revN_length (l : List Int) : ∀ i, (revN l i).length = l.length
  | 0 => rfl
  | i + 1 => by rw [revN, swpL_length, revN_length l i]
theorem revN_getD (l : List Int) : ∀ i, 2 * i ≤ l.length → ∀ k, k < l.length → (revN l i).getD k 0 = if k < i ∨ l.length - 1 - k < i then l.getD (l.length - 1 - k) 0 else l.getD k 0
  | 0, _, k, hk => by rw [if_neg (by omega)]; rfl
  | i + 1, hi, k, hk => by
    have hj : l.length - 1 - i < l.length := by omega
    rw [revN, swpL_getD (by rw [revN_length]; omega) (by rw [revN_length]; exact hj) (by rw [revN_length]; exact hk)]
    have ih := revN_getD l i (by omega)
    by_cases h1 : k = i
    · subst h1
      rw [swp_l, ih _ hj, if_neg (by omega), if_pos (by omega)]
    by_cases h2 : k = l.length - 1 - i
    · rw [h2, swp_r, ih _ (by omega), if_neg (by omega), if_pos (by omega)]
      congr 1
      omega
    · rw [swp_o h1 h2, ih _ hk]
      by_cases h3 : k < i ∨ l.length - 1 - k < i
      · rw [if_pos h3, if_pos (by omega)]
      · rw [if_neg h3, if_neg (by omega)]
theorem revN_all {l : List Int} {i : Nat} (h1 : 2 * i ≤ l.length) (h2 : l.length ≤ 2 * i + 1) : revN l i = l.reverse := by
  apply List.ext_getElem
  · rw [revN_length, List.length_reverse]
  · intro k k1 k2
    rw [revN_length] at k1
    have e := revN_getD l i h1 k k1
    rw [List.getD_eq_getElem?_getD, List.getElem?_eq_getElem (by rw [revN_length]; exact k1), Option.getD_some] at e
    rw [e, List.getElem_reverse]
    by_cases h3 : k < i ∨ l.length - 1 - k < i
    · rw [if_pos h3, List.getD_eq_getElem?_getD, List.getElem?_eq_getElem (by omega), Option.getD_some]
    · rw [if_neg h3, List.getD_eq_getElem?_getD, List.getElem?_eq_getElem (by omega), Option.getD_some]
      congr 1
      omega
theorem below_undrew' {B : Nat} {w w' : World} (h : Below B w.drew w') : Below B w w' := ⟨h.os, h.tape, h.output, h.size, h.block⟩
/-- block g holds these -/
def pfB {B : Nat} (g : Nat) (t : TypeId) (D : Array Value) : PFact B := ⟨[t], [], fun _ _ w => Blk w g t D, fun _ hT _ _ _ _ he hb => hb.evo he (.inr (hT t (by simp))), fun _ _ _ _ _ h => h⟩
set_option maxRecDepth 20000 in
set_option maxHeartbeats 4000000 in
theorem reverse_any (v : Value) (l : List Int) (base : Nat) (w : World) (h : w.ownsRow base 3 1 v l.length (intCells l)) (hl : l.length ≤ 1000) :
    Calls Tryd.prog 35 #[v] w (fun e w' => e = .returned (.tuple #[]) ∧ Below base w w' ∧ w'.ownsRow base 3 1 v l.length (intCells l.reverse)) := by
  by_cases hs : l.length ≤ 1
  · obtain ⟨A, c, rfl⟩ := own_slice h
    have hr : l.reverse = l := by
      cases l with
      | nil => rfl
      | cons a r =>
        cases r with
        | nil => rfl
        | cons b r => simp at hs
    rw [hr]
    have H := Lib.hid h
    have hlt : ¬ (0 : Int) < (l.length : Int) - 1 := by omega
    clear h hr
    go_enter Tryd.func35, Tryd.ntmps35
    go_wp2_with fail
    refine wp_loop_rounds 1 ?_
    rw [rounds_succ]
    go_wp2_with fail
    refine bodyPost_end (results_none rfl _ _ _) rfl ?_
    exact ⟨rfl, Below.refl _ _, H.out⟩
  · obtain ⟨g, cap, R, rfl, hg, hb, hR, hcap, hcm, hxl⟩ := own_blk h (by omega)
    have HB := Lib.hid hb
    have hgw := hb.lt
    clear h hb
    go_enter Tryd.func35, Tryd.ntmps35
    go_wp2_with fail
    go_loopg [2, 3] l.length (fun k s2 s3 wr => ∃ i : Nat, s2 = .int .i64 i ∧ s3 = .int .i64 ((l.length : Int) - 1 - i) ∧ 2 * i ≤ l.length ∧ k = l.length - i ∧ Below g w wr ∧ Blk wr g 3 ((intCells (revN l i)).toArray ++ R))
    case atStart => exact ⟨0, rfl, by simp, by omega, rfl, Below.refl _ _, HB.out⟩
    case round =>
      obtain ⟨i, rfl, rfl, hi, hk, hbl, hb⟩ := hrel
      by_cases hlt : i + 1 < l.length - i
      · obtain ⟨j, hj⟩ : ∃ j, j = l.length - 1 - i := ⟨_, rfl⟩
        have hji : (l.length : Int) - 1 - i = (j : Int) := by omega
        have hlt' : (i : Int) < (j : Int) := by omega
        have hjl : j < l.length := by omega
        have hil : i < l.length := by omega
        have hjl' : (j : Int) < l.length := by omega
        have hil' : (i : Int) < l.length := by omega
        rw [hji]
        have HJ := Lib.hid hj
        have Hk := Lib.hid hk
        have HB := Lib.hid hb
        have HBL := Lib.hid hbl
        obtain ⟨li, hli⟩ : ∃ z, z = (revN l i).getD i 0 := ⟨_, rfl⟩
        obtain ⟨lj, hlj⟩ : ∃ z, z = (revN l i).getD j 0 := ⟨_, rfl⟩
        have ci := hb.intR (k := i) (by rw [revN_length]; exact hil)
        have cj := hb.intR (k := j) (by rw [revN_length]; exact hjl)
        rw [← hli] at ci
        rw [← hlj] at cj
        have Hci := Lib.hid ((hb.cell i).symm.trans ci)
        have Hcj := Lib.hid ((hb.cell j).symm.trans cj)
        have hsD : l.length ≤ ((intCells (revN l i)).toArray ++ R).size := by simp [intCells, revN_length]
        have HsD := Lib.hid hsD
        obtain ⟨D0, hD0⟩ : ∃ D, D = (intCells (revN l i)).toArray ++ R := ⟨_, rfl⟩
        obtain ⟨D1, hD1⟩ : ∃ D, D = (intCells ((revN l i).set i lj)).toArray ++ R := ⟨_, rfl⟩
        obtain ⟨D2, hD2⟩ : ∃ D, D = (intCells (((revN l i).set i lj).set j li)).toArray ++ R := ⟨_, rfl⟩
        have HsD1 := Lib.hid (show l.length ≤ D1.size by rw [hD1]; simp [intCells, revN_length])
        have HD1 := Lib.hid (fun (wv : World) (h : Blk wv g 3 ((intCells (revN l i)).toArray ++ R)) => (by rw [hD1]; exact h.setIntR i lj (by rw [revN_length]; exact hil) : Blk (wv.setCell ⟨g, i, none⟩ (.int .i64 lj)) g 3 D1))
        have HD2 := Lib.hid (fun (wv : World) (h : Blk wv g 3 D1) => (by rw [hD2]; rw [hD1] at h; exact h.setIntR j li (by rw [List.length_set, revN_length]; exact hjl) : Blk (wv.setCell ⟨g, j, none⟩ (.int .i64 li)) g 3 D2))
        have HR2 := Lib.hid (show D2 = (intCells (revN l (i + 1))).toArray ++ R by rw [hD2, revN, swpL, ← HJ.out, ← hli, ← hlj])
        have hsz := hbl.size
        clear hb hbl hk hj hsD hD0 hD1 hD2 ci cj hli hlj
        go_upto_region 3 with fail
        refine R3.wp_region_i g [[], [3]] [0, 0, 0, 0, 0, 0, 0, 0, 0, 0, 0, 0, 0, 1, 0, 1]
          [([], .val (.slice (some ⟨g, 0, none⟩) l.length cap)), ([], .val (.int .i64 i)), ([], .val (.slice (some ⟨g, 0, none⟩) l.length cap)), ([], .val (.int .i64 j)), ([], .val (.slice (some ⟨g, 0, none⟩) l.length cap)), ([], .val (.int .i64 j)), ([4, 5], .val (.pointer (some ⟨g, j, none⟩))), ([6], .val (.int .i64 lj)), ([], .val (.slice (some ⟨g, 0, none⟩) l.length cap)), ([], .val (.int .i64 i)), ([8, 9], .val (.pointer (some ⟨g, i, none⟩))), ([10], .val (.int .i64 li)), ([0, 1], .val (.pointer (some ⟨g, i, none⟩))), ([12, 7], pfB g 3 D1), ([2, 3], .val (.pointer (some ⟨g, j, none⟩))), ([14, 11, 13], pfB g 3 D2)] [15] (by kernel_rfl) (by kernel_rfl) (fun us => ?_) ?_
        · refine R3.pgo_pure _ rfl rfl (fun wv hw hu => ⟨.slice (some ⟨g, 0, none⟩) l.length cap, ?_, rfl⟩) ?_
          · have tok := True.intro
            clear hw hu
            go_simp
          refine R3.pgo_pure _ rfl rfl (fun wv hw hu => ⟨.int .i64 i, ?_, rfl⟩) ?_
          · have tok := True.intro
            clear hw hu
            go_simp
          refine R3.pgo_pure _ rfl rfl (fun wv hw hu => ⟨.slice (some ⟨g, 0, none⟩) l.length cap, ?_, rfl⟩) ?_
          · have tok := True.intro
            clear hw hu
            go_simp
          refine R3.pgo_pure _ rfl rfl (fun wv hw hu => ⟨.int .i64 j, ?_, rfl⟩) ?_
          · have tok := True.intro
            clear hw hu
            go_simp
          refine R3.pgo_pure _ rfl rfl (fun wv hw hu => ⟨.slice (some ⟨g, 0, none⟩) l.length cap, ?_, rfl⟩) ?_
          · have tok := True.intro
            clear hw hu
            go_simp
          refine R3.pgo_pure _ rfl rfl (fun wv hw hu => ⟨.int .i64 j, ?_, rfl⟩) ?_
          · have tok := True.intro
            clear hw hu
            go_simp
          refine R3.pgo_pure _ rfl rfl (fun wv hw hu => ⟨.pointer (some ⟨g, j, none⟩), ?_, rfl⟩) ?_
          · have tok := True.intro
            have h4 : us 4 = .slice (some ⟨g, 0, none⟩) l.length cap := hu.1
            have h5 : us 5 = .int .i64 j := hu.2.1
            clear hw hu
            go_simp
          refine R3.pgo_pure _ rfl rfl (fun wv hw hu => ⟨.int .i64 lj, ?_, rfl⟩) ?_
          · have tok := True.intro
            have h6 : us 6 = .pointer (some ⟨g, j, none⟩) := hu.1
            have zy : wv.cell? ⟨g, j, none⟩ = some (.int .i64 lj) := ((HB.out.drew.evo hw (.inr (of_decide_eq_true (by kernel_rfl)))).cell j).trans Hcj.out
            clear hw hu
            go_simp
          refine R3.pgo_pure _ rfl rfl (fun wv hw hu => ⟨.slice (some ⟨g, 0, none⟩) l.length cap, ?_, rfl⟩) ?_
          · have tok := True.intro
            clear hw hu
            go_simp
          refine R3.pgo_pure _ rfl rfl (fun wv hw hu => ⟨.int .i64 i, ?_, rfl⟩) ?_
          · have tok := True.intro
            clear hw hu
            go_simp
          refine R3.pgo_pure _ rfl rfl (fun wv hw hu => ⟨.pointer (some ⟨g, i, none⟩), ?_, rfl⟩) ?_
          · have tok := True.intro
            have h8 : us 8 = .slice (some ⟨g, 0, none⟩) l.length cap := hu.1
            have h9 : us 9 = .int .i64 i := hu.2.1
            clear hw hu
            go_simp
          refine R3.pgo_pure _ rfl rfl (fun wv hw hu => ⟨.int .i64 li, ?_, rfl⟩) ?_
          · have tok := True.intro
            have h10 : us 10 = .pointer (some ⟨g, i, none⟩) := hu.1
            have zy : wv.cell? ⟨g, i, none⟩ = some (.int .i64 li) := ((HB.out.drew.evo hw (.inr (of_decide_eq_true (by kernel_rfl)))).cell i).trans Hci.out
            clear hw hu
            go_simp
          refine R3.pgo_pure _ rfl rfl (fun wv hw hu => ⟨.pointer (some ⟨g, i, none⟩), ?_, rfl⟩) ?_
          · have tok := True.intro
            have h0 : us 0 = .slice (some ⟨g, 0, none⟩) l.length cap := hu.1
            have h1 : us 1 = .int .i64 i := hu.2.1
            clear hw hu
            go_simp
          refine R3.pgo_skip _ rfl rfl (fun wv hw hu => ?_) ?_
          · have h12 : us 12 = .pointer (some ⟨g, i, none⟩) := hu.1
            have h7 : us 7 = .int .i64 lj := hu.2.1
            have hbv := HB.out.drew.evo hw (.inr (of_decide_eq_true (by kernel_rfl)))
            have fy := hbv.frozen i
            obtain ⟨zq, zy⟩ : ∃ z, wv.cell? ⟨g, i, none⟩ = some z := ⟨_, (hbv.cell i).trans (Array.getElem?_eq_getElem (by have := HsD.out; omega))⟩
            refine ⟨wv.setCell ⟨g, i, none⟩ (.int .i64 lj), ?_, Evo.set_ hbv (by simp) (Nat.le_refl _) i _, HD1.out wv hbv⟩
            clear hw hu hbv
            go_simp
          refine R3.pgo_pure _ rfl rfl (fun wv hw hu => ⟨.pointer (some ⟨g, j, none⟩), ?_, rfl⟩) ?_
          · have tok := True.intro
            have h2 : us 2 = .slice (some ⟨g, 0, none⟩) l.length cap := hu.1
            have h3 : us 3 = .int .i64 j := hu.2.1
            clear hw hu
            go_simp
          refine R3.pgo_skip _ rfl rfl (fun wv hw hu => ?_) ?_
          · have h14 : us 14 = .pointer (some ⟨g, j, none⟩) := hu.1
            have h11 : us 11 = .int .i64 li := hu.2.1
            have hbv := hu.2.2.1
            have fy := hbv.frozen j
            obtain ⟨zq, zy⟩ : ∃ z, wv.cell? ⟨g, j, none⟩ = some z := ⟨_, (hbv.cell j).trans (Array.getElem?_eq_getElem (by have := HsD1.out; omega))⟩
            refine ⟨wv.setCell ⟨g, j, none⟩ (.int .i64 li), ?_, Evo.set_ hbv (by simp) (Nat.le_refl _) j _, HD2.out wv hbv⟩
            clear hw hu hbv
            go_simp
          trivial
        · intro us w' hw hu
          have hb15 : Blk w' g 3 D2 := hu.1
          rw [HR2.out] at hb15
          have HB15 := Lib.hid hb15
          have HW15 := Lib.hid (HBL.out.trans (below_undrew' (hw.below (Nat.le_of_lt HB.out.lt))))
          clear hw hu hb15
          simp only [lexL]
          go_simp
          go_wp2_with fail
          go_roundg (l.length - (i + 1))
          case measure => rw [Hk.out]; omega
          case rel => exact ⟨i + 1, by go_num, by first | rfl | (congr 1; omega) | (congr 2; have := HJ.out; omega), by omega, rfl, HW15.out, HB15.out⟩
      · have hlt' : ¬ (i : Int) < (l.length : Int) - 1 - i := by omega
        have HO := Lib.hid (show wr.ownsRow base 3 1 (.slice (some ⟨g, 0, none⟩) l.length cap) l.length (intCells l.reverse) from by
          rw [← revN_all hi (by omega)]
          exact blk_own hg hb (by simp [intCells, revN_length] at hR ⊢; omega) hcap hcm (by simp [intCells, revN_length]))
        have HBL := Lib.hid (hbl.mono hg)
        clear hb hbl
        go_wp2_with fail
        refine bodyPost_end (results_none rfl _ _ _) rfl ?_
        exact ⟨rfl, HBL.out, HO.out⟩
/-- the first place of v, or -1 -/
def idxF (l : List Int) (v : Int) : Int := match l.findIdx? (fun a => decide (v = a)) with
  | some i => (i : Int)
  | none => -1
theorem idx_at {l : List Int} {v : Int} {i : Nat} (hi : i < l.length) (h : v = l[i]) (hn : ∀ j (hj : j < i), v ≠ l[j]) : idxF l v = i := by
  unfold idxF
  have : l.findIdx? (fun a => decide (v = a)) = some i := by
    rw [List.findIdx?_eq_some_iff_getElem]
    exact ⟨hi, by simpa using h, fun j hj => by simpa using hn j hj⟩
  rw [this]
theorem idx_none {l : List Int} {v : Int} (hn : ∀ j (hj : j < l.length), v ≠ l[j]) : idxF l v = -1 := by
  unfold idxF
  have : l.findIdx? (fun a => decide (v = a)) = none := by
    rw [List.findIdx?_eq_none_iff]
    intro x hx
    obtain ⟨j, hj, rfl⟩ := List.getElem_of_mem hx
    simpa using hn j hj
  rw [this]
set_option maxRecDepth 20000 in
set_option maxHeartbeats 1000000 in
theorem index_any (A : Option Addr) (c : Nat) (l : List Int) (v : Int) (w : World) (h : Cells w w.heap.size A (intCells l)) (hl : l.length ≤ 100000) :
    Calls Tryd.prog 33 #[.slice A l.length c, .int .i64 v] w (fun e w' => e = .returned (.int .i64 (idxF l v)) ∧ w = w') := by
  have H := Lib.hid h
  clear h
  go_enter Tryd.func33, Tryd.ntmps33
  go_wp2_with fail
  go_loopg [8] l.length (fun k s8 wr => ∃ i : Nat, s8 = .int .i64 i ∧ i ≤ l.length ∧ k = l.length - i ∧ w = wr ∧ ∀ j (hj : j < l.length), j < i → v ≠ l[j])
  case atStart => exact ⟨0, rfl, Nat.zero_le _, rfl, rfl, fun j _ hj => absurd hj (Nat.not_lt_zero j)⟩
  case round =>
    obtain ⟨i, rfl, hi, hk, rfl, hn⟩ := hrel
    have Hk := Lib.hid hk
    have Hn := Lib.hid hn
    clear hk hn
    by_cases hlt : i < l.length
    · have hlt' : (i : Int) < l.length := by omega
      obtain ⟨b, off, rfl, hb, hc⟩ := H.out.ints (by omega)
      have e0 := hc i hlt
      have HS := Lib.hid (fun (hv : v ≠ l[i]) (j : Nat) (hj : j < l.length) (hji : j < i + 1) => (by
        by_cases e : j = i
        · subst e; exact hv
        · exact Hn.out j hj (by omega) : v ≠ l[j]))
      have HF := Lib.hid (fun (hv : v = l[i]) => idx_at hlt hv fun j hj => Hn.out j (by omega) hj)
      clear hc
      generalize l[i] = u at *
      by_cases hv : v = u
      · have hv' : (v == u) = true := by rw [beq_iff_eq]; exact hv
        have HR := Lib.hid (HF.out hv)
        clear hv
        go_wp2_with fail
        go_ret
        exact ⟨ret_int HR.out.symm, rfl⟩
      · have hv' : (v == u) = false := by rw [beq_eq_false_iff_ne]; exact hv
        have HR := Lib.hid (HS.out hv)
        clear hv
        go_wp2_with fail
        go_roundg (l.length - (i + 1))
        case measure => rw [Hk.out]; omega
        case rel => exact ⟨i + 1, by go_num, by omega, rfl, rfl, HR.out⟩
    · have hlt' : ¬ (i : Int) < l.length := by omega
      have HR := Lib.hid (idx_none (l := l) (v := v) fun j hj => Hn.out j hj (by omega))
      go_wp2_with fail
      go_ret
      exact ⟨ret_int HR.out.symm, rfl⟩
end Go.Proofs.YtnjikhhegebkiaaDoor
