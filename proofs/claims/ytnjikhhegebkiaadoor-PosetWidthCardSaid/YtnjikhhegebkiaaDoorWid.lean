/-
  arborref17.Width: what it computes. Written by an AI agent.
-/
import Derived.Test.YtnjikhhegebkiaaDoorWidLaw
import Derived.Test.YtnjikhhegebkiaaDoorLooks
namespace Go.Proofs.YtnjikhhegebkiaaDoor
open Go.RowKit

theorem meets_take {R : Nat → Nat → Bool} {x : Nat} {ch : List Int} {i : Nat} (hi : i < ch.length) : meets R x (ch.take (i + 1)) = (meets R x (ch.take i) || (R ch[i].toNat x || R x ch[i].toNat)) := by
  unfold meets
  rw [List.take_succ_eq_append_getElem hi, List.any_append]
  simp
theorem meets_of {R : Nat → Nat → Bool} {x : Nat} {ch : List Int} {i : Nat} (hi : i < ch.length) (h : (R ch[i].toNat x || R x ch[i].toNat) = true) : meets R x ch = true := by
  unfold meets
  exact List.any_eq_true.2 ⟨_, List.getElem_mem hi, h⟩
set_option maxRecDepth 20000 in
set_option maxHeartbeats 4000000 in
theorem wid_any (n gm c : Nat) (R : Nat → Nat → Bool) (hn : n ≤ 64) : ∀ (f x : Nat), x + f = n → ∀ (B : Nat) (ch : List Int) (C : Option Addr) (cc : Nat) (w : World), MatR w B (some ⟨gm, 0, none⟩) n R → B ≤ w.heap.size → Cells w w.heap.size C (intCells ch) → (∀ z ∈ ch, ∃ k : Nat, z = k ∧ k < n) → ch.length ≤ x →
    Calls Tryd.prog 14 #[.slice (some ⟨gm, 0, none⟩) n c, .int .i64 x, .slice C ch.length cc] w (fun e w' => e = .returned (.int .i64 (widF R n f ch : Nat)) ∧ Below w.heap.size w w') := by
  intro f
  induction f with
  | zero =>
    intro x hx B ch C cc w hM hB hC hr hl
    have hxn : x = n := by omega
    subst hxn
    have hee : ((x : Int) == (x : Int)) = true := by simp
    go_enter Tryd.func14, Tryd.ntmps14
    go_wp2_with fail
    go_ret
    exact ⟨rfl, Below.refl _ _⟩
  | succ f ih =>
    intro x hx B ch C cc w hM hB hC hr hl
    have IH := Lib.hid (ih (x + 1) (by omega))
    have HM := Lib.hid hM
    have HC := Lib.hid hC
    have HR := Lib.hid hr
    have hxe : n - (f + 1) = x := by omega
    have HF := Lib.hid (show widF R n (f + 1) ch = if meets R x ch then widF R n f ch else max (widF R n f ch) (widF R n f (ch ++ [(x : Int)])) by rw [widF.eq_2, hxe])
    have hne : ((x : Int) == (n : Int)) = false := by rw [beq_eq_false_iff_ne]; omega
    have hxn : (x : Int) < n := by omega
    clear ih hM hC hr hxe
    go_enter Tryd.func14, Tryd.ntmps14
    go_wp2_with fail
    refine (IH.out B ch C cc w HM.out hB HC.out HR.out (by omega)).mono ?_
    rintro e w1 ⟨rfl, hb1⟩
    have HM1 := Lib.hid (HM.out.keep (hb1.mono hB))
    have HC1 := Lib.hid ((HC.out.below hb1).more hb1.size)
    have HB1 := Lib.hid hb1
    have hz1 := hb1.size
    have hbd := @widF_le R n f ch
    obtain ⟨v, hv⟩ : ∃ v, v = widF R n f ch := ⟨_, rfl⟩
    rw [← hv] at HF hbd
    rw [← hv]
    clear hb1 hv
    go_wp2_with fail
    go_loopg [8] ch.length (fun gk s8 wr => ∃ i m : Nat, s8 = .int .i64 i ∧ i ≤ ch.length ∧ gk = ch.length - i ∧ wr = w1.drewN m ∧ meets R x (ch.take i) = false)
    case atStart => exact ⟨0, 0, rfl, Nat.zero_le _, rfl, rfl, by simp [meets]⟩
    case round =>
      obtain ⟨i, m, rfl, hi, hk, hwr, hme⟩ := hrel
      have Hk := Lib.hid hk
      have Hwr := Lib.hid hwr
      have HME := Lib.hid hme
      clear hk hme
      by_cases hil : i < ch.length
      · have hil' : (i : Int) < ch.length := by omega
        obtain ⟨b, off, rfl, hbb, hcc⟩ := HC1.out.ints (by omega)
        have cx : wr.cell? ⟨b, off + i, none⟩ = some (.int .i64 ch[i]) := by rw [hwr]; exact hcc i hil
        obtain ⟨p, hp1, hpn⟩ := HR.out _ (List.getElem_mem hil)
        have HT := Lib.hid (meets_take (R := R) (x := x) hil)
        have HO := Lib.hid (meets_of (R := R) (x := x) hil)
        rw [hp1] at cx HT HO
        simp only [Int.toNat_natCast] at HT HO
        obtain ⟨b1, c1, m1, m2⟩ := HM1.out.one hpn (show x < n by omega)
        obtain ⟨b2, c2, m3, m4⟩ := HM1.out.one (show x < n by omega) hpn
        have m1 : wr.cell? ⟨gm, p, none⟩ = some (.slice (some ⟨b1, 0, none⟩) n c1) := by rw [hwr]; exact m1
        have m2 : wr.cell? ⟨b1, x, none⟩ = some (.bool (R p x)) := by rw [hwr]; exact m2
        have m3 : wr.cell? ⟨gm, x, none⟩ = some (.slice (some ⟨b2, 0, none⟩) n c2) := by rw [hwr]; exact m3
        have m4 : wr.cell? ⟨b2, p, none⟩ = some (.bool (R x p)) := by rw [hwr]; exact m4
        have hpn' : (p : Int) < n := by omega
        clear hcc hp1 hwr
        cases hR1 : R p x with
        | true =>
          have HY := Lib.hid (HO.out (by rw [hR1]; rfl))
          rw [hR1] at m2
          clear hR1
          go_wp2_with fail
          go_quiet (fail)
          go_wp2_with fail
          go_ret
          refine ⟨ret_int ?_, ?_⟩
          · rw [HF.out, HY.out, if_pos rfl]
          · rw [Hwr.out]
            exact below_drewN (below_drewN HB1.out m) _
        | false =>
          cases hR2 : R x p with
          | true =>
            have HY := Lib.hid (HO.out (by rw [hR2]; simp))
            rw [hR1] at m2
            rw [hR2] at m4
            clear hR1 hR2
            go_wp2_with fail
            go_quiet (fail)
            go_wp2_with fail
            go_ret
            refine ⟨ret_int ?_, ?_⟩
            · rw [HF.out, HY.out, if_pos rfl]
            · rw [Hwr.out]
              exact below_drewN (below_drewN HB1.out m) _
          | false =>
            have HN := Lib.hid (show meets R x (ch.take (i + 1)) = false by rw [HT.out, HME.out, hR1, hR2]; rfl)
            rw [hR1] at m2
            rw [hR2] at m4
            clear hR1 hR2
            go_wp2_with fail
            go_quiet (fail)
            go_wp2_with fail
            clear m1 m2 m3 m4 cx
            go_roundg (ch.length - (i + 1))
            case measure => rw [Hk.out]; omega
            case rel => exact ⟨i + 1, m + nq, by go_num, by omega, rfl, by rw [Hwr.out]; simp, HN.out⟩
      · have hie : i = ch.length := by omega
        have hil' : ¬ (i : Int) < ch.length := by omega
        have HF2 := Lib.hid (show widF R n (f + 1) ch = max v (widF R n f (ch ++ [(x : Int)])) by
          have h1 := HME.out
          rw [hie, List.take_length] at h1
          rw [HF.out, h1, if_neg (by simp)])
        have HMr := Lib.hid (show MatR wr B (some ⟨gm, 0, none⟩) n R by rw [hwr]; exact HM1.out)
        have HCr := Lib.hid (show Cells wr wr.heap.size C (intCells ch) by rw [hwr]; exact HC1.out.drewN m)
        have HBr := Lib.hid (show Below w.heap.size w wr by rw [hwr]; exact below_drewN HB1.out m)
        clear hie hwr
        obtain ⟨w2, rfl⟩ : ∃ y, y = wr := ⟨_, rfl⟩
        have hz2 := HBr.out.size
        have ho3 : (w2.alloc (.cells #[] 3)).ownsRow w2.heap.size 3 1 (.slice (some ⟨w2.heap.size, 0, none⟩) 0 0) 0 [] :=
          blk_own (R := #[]) (Nat.le_refl _) (by simpa using Blk.new w2 3 #[]) (by simp) (Nat.le_refl _) (by unfold maxLen; omega) (by simp)
        have hba := (Below.refl w2.heap.size w2).alloc (Nat.le_refl _) (.cells #[] 3)
        have hCa := HCr.out.below hba
        have hsa : w2.heap.size ≤ (w2.alloc (.cells #[] 3)).heap.size := by simp
        have hel : ch.length ≤ 64 := by omega
        go_wp2_with (at_builtin; refine wp_app_any elemInt rfl _ _ rfl rfl ho3 rfl hCa (by simp [intCells]) (intCells_one ch) ?h2 ?h3 ?h4 ?_)
        case h2 => omega
        case h3 => omega
        try (case h4 => omega)
        intro v4 w4 ho4 hg4 hv4
        have hb4 : Below w2.heap.size w2 w4 := below_app hba ho3 hg4 hsa (Nat.le_refl _)
        have ho4 : w4.ownsRow w2.heap.size 3 1 v4 ch.length (intCells ch) := by simpa using ho4
        obtain ⟨A4, c4, rfl⟩ := own_slice ho4
        have HO4 := Lib.hid ho4
        have HB4 := Lib.hid hb4
        have hz4 := hb4.size
        have hzA := World.size_alloc w4 (.cells #[.int .i64 (x : Int)] 3)
        clear ho3 hba hCa hsa ho4 hg4 hv4 hb4
        go_wp2_with (at_builtin; refine wp_app elemInt rfl _ _ rfl w2.heap.size (.slice A4 ch.length c4) _ _ rfl w4.heap.size [.int .i64 (x : Int)] rfl rfl HO4.out rfl rfl ?x2 ?x3 ?x4 ?_)
        case x2 => omega
        case x3 => omega
        case x4 => omega
        intro v6 w6 ho6 hg6 _
        have HB6 := Lib.hid (below_app HB4.out HO4.out hg6 hz4 (Nat.le_refl _))
        have ho6 : w6.ownsRow w2.heap.size 3 1 v6 (ch ++ [(x : Int)]).length (intCells (ch ++ [(x : Int)])) := by simpa [intCells] using ho6
        obtain ⟨A6, c6, rfl⟩ := own_slice ho6
        have HC6 := Lib.hid (Cells.of_own ho6)
        have hz6 := HB6.out.size
        have HM6 := Lib.hid (HMr.out.keep (HB6.out.mono (by omega)))
        have hl6 : (ch ++ [(x : Int)]).length = ch.length + 1 := by simp
        have HR6 := Lib.hid (show ∀ z ∈ ch ++ [(x : Int)], ∃ k : Nat, z = k ∧ k < n from fun z hz => by
          rcases List.mem_append.1 hz with hz | hz
          · exact HR.out z hz
          · exact ⟨x, by simpa using hz, by omega⟩)
        clear ho6 hg6
        go_wp2_with fail
        have hcall := IH.out B (ch ++ [(x : Int)]) A6 c6 w6 HM6.out (by omega) HC6.out HR6.out (by omega)
        rw [hl6] at hcall
        refine hcall.mono ?_
        rintro e w7 ⟨rfl, hb7⟩
        have hbd2 := @widF_le R n f (ch ++ [(x : Int)])
        obtain ⟨u, hu⟩ : ∃ u, u = widF R n f (ch ++ [(x : Int)]) := ⟨_, rfl⟩
        rw [← hu] at HF2 hbd2
        rw [← hu]
        have HB7 := Lib.hid (HBr.out.trans ((HB6.out.mono hz2).trans (hb7.mono (by omega))))
        clear hcall hb7 hu
        go_wp2_with fail
        all_goals
          go_ret
          refine ⟨ret_int ?_, HB7.out⟩
          rw [HF2.out]
          omega
end Go.Proofs.YtnjikhhegebkiaaDoor
