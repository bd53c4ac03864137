import Derived.Test.YtelcofkjpkdjiaaGreatZOutEq
import Derived.Test.YtelcofkjpkdjiaaGreatZFit2
import Derived.Test.YtelcofkjpkdjiaaGreatZRoomS
/-
  The reference's Outers: the faces with which great angles fit. Written by an AI agent.
-/
namespace Go.Proofs.YtelcofkjpkdjiaaGreat
open Go.RowKit

/-- of the first i faces those with which great angles fit -/
noncomputable def triesL (n : Int) (es : List (Int × Int)) (rs : List (List Int)) (i : Nat) : List Int := ((List.range i).filter fun f => tryE n es rs f).map Int.ofNat
theorem triesL_succ (n : Int) (es : List (Int × Int)) (rs : List (List Int)) (i : Nat) : triesL n es rs (i + 1) = triesL n es rs i ++ if tryE n es rs i = true then [(i : Int)] else [] := by
  unfold triesL
  rw [List.range_succ, List.filter_append, List.map_append]
  by_cases h : tryE n es rs i = true <;> simp [h]
theorem triesL_length (n : Int) (es : List (Int × Int)) (rs : List (List Int)) (i : Nat) : (triesL n es rs i).length ≤ i := by
  unfold triesL
  rw [List.length_map]
  exact Nat.le_trans (List.length_filter_le _ _) (by simp)
noncomputable def outersR (n : Int) (es : List (Int × Int)) (rs : List (List Int)) : List Int := if bimB rs = true then triesL n es rs (facesOf n es rs).length else []
theorem But.low {S : List Nat} {w w' w'' : World} (h : But S w w') (k : Below w.heap.size w' w'') : But S w w'' :=
  ⟨k.os.trans h.os, k.tape.trans h.tape, k.output.trans h.output, Nat.le_trans h.size k.size, fun i hi hs => (k.block i hi).trans (h.block i hi hs)⟩
theorem cells_butA {S : List Nat} {w w' : World} {xs : List Value} {A : Option Addr} {B : Nat} (h : But S w w') (hc : Cells w B A xs) (hA : ∀ p, A = some p → p.block ∉ S) (hB : B ≤ w.heap.size) : Cells w' B A xs := fun hn => by
  obtain ⟨b, off, e, hb, hc⟩ := hc hn
  refine ⟨b, off, e, hb, fun j u hj => ?_⟩
  rw [← hc j u hj]
  unfold World.cell?
  rw [h.block b (by omega) (hA _ e)]
/-- one list -/
theorem outers_one {n : Int} {es : List (Int × Int)} {rs : List (List Int)} (hf : faskB n es rs = true) (he : 0 < es.length) : outR n es rs = outersR n es rs := by
  obtain ⟨h1, h2⟩ := outR_iff hf he
  have ht := fun f => out_try hf he f
  refine rising_eq h2 ?_ fun a => ?_
  · unfold outersR
    split
    · unfold triesL
      rw [List.pairwise_map]
      refine List.Pairwise.imp (fun {a b} h => ?_) (List.Pairwise.filter _ List.pairwise_lt_range)
      show (a : Int) < (b : Int)
      omega
    · exact List.Pairwise.nil
  · rw [h1 a]
    unfold outersR
    by_cases hb : bimB rs = true
    · rw [if_pos hb]
      unfold triesL
      rw [List.mem_map]
      constructor
      · rintro ⟨f, rfl, hO⟩
        obtain ⟨k1, _, k3⟩ := (ht f).1 hO
        exact ⟨f, List.mem_filter.2 ⟨List.mem_range.2 k1, k3⟩, rfl⟩
      · rintro ⟨f, hff, rfl⟩
        obtain ⟨k1, k2⟩ := List.mem_filter.1 hff
        exact ⟨f, rfl, (ht f).2 ⟨List.mem_range.1 k1, hb, k2⟩⟩
    · rw [if_neg hb]
      constructor
      · rintro ⟨f, rfl, hO⟩
        exact absurd ((ht f).1 hO).2.1 hb
      · intro h
        cases h
set_option maxRecDepth 20000 in
set_option maxHeartbeats 4000000 in
theorem refOuters_any (N : Nat) (A C : Option Addr) (cap ccap : Nat) (es : List (Int × Int)) (rs : List (List Int)) (w : World) (hes : Cells w w.heap.size A (edgeCells es)) (hrs : RowsAt w w.heap.size C rs) (hr1 : rs.length ≤ 1000) (hr2 : ∀ l ∈ rs, l.length ≤ 1000) (hP : RightP N es rs) (hN : rs.length = N) :
    Calls Tryz.prog 12 #[.agg #[.int .i64 N, .slice A es.length cap], .slice C rs.length ccap] w (OutersQ (outersR N es rs) w) := by
  have S1 := Lib.hid (SG.start N cap hes hrs)
  have HR2 := Lib.hid hr2
  have HP := Lib.hid hP
  have hm2 : es.length ≤ 128 := by have := (may_parts hP.may).2.2; omega
  have hl : es.length ≤ 1000 := by omega
  have hn : N ≤ 1000 := by omega
  have HOR := Lib.hid (show outersR N es rs = if bimB rs = true then triesL N es rs (facesOf N es rs).length else [] from rfl)
  have HN := Lib.hid hN
  have HFc := Lib.hid (show ∀ h, h < 2 * es.length → angF N es rs h < (facesOf N es rs).length from fun h hh => (angF_spec HP.out hh).1)
  have HVx := Lib.hid (show ∀ h, h < 2 * es.length → vtx es h ≤ 10000 from fun h hh => by
    have := vtx_lt (right_inN HP.out) hh
    omega)
  have HEl := Lib.hid (endsL_le N es)
  have HEI := Lib.hid (endsI_length N es)
  have HEx := Lib.hid (show ∀ x ∈ endsL N es, x ≤ 10000 from fun x hx => by have := endsL_lt hx; omega)
  have hFl := faces_le hP
  have HTE := Lib.hid (show ∀ i, tryE N es rs i = tryF (vtx es) (angF N es rs) (2 * es.length) (endsL N es) (roomE N es rs i) from fun i => by unfold tryE; rw [HN.out])
  have HRL := Lib.hid (show ∀ i, (roomE N es rs i).length = (facesOf N es rs).length from fun i => roomT_length _ _ _ _ _)
  have HSM := Lib.hid (show ∀ i, Small (roomE N es rs i) from fun i => room_small2 _ _ _ _ hl)
  clear hes hrs hr2 hP hN
  go_enter Tryz.func12, Tryz.ntmps12
  go_upto_region 1 with fail
  generalize w.alloc (.cells #[.int .i64 N, .slice A es.length cap] 24) = w0 at *
  have HOB := Lib.hid (own_of_blk (xs := []) (Blk.new w0 3 #[]) (Nat.le_refl _) (n := 0) rfl (Nat.zero_le _))
  have hba := (Below.refl w0.heap.size w0).alloc (Nat.le_refl _) (.cells #[] 3)
  have S0 := Lib.hid S1.out
  have S1 := Lib.hid (S0.out.next hba)
  obtain ⟨gO, hgO⟩ : ∃ gO, gO = w0.heap.size := ⟨_, rfl⟩
  have hgw := S0.out.lt
  have HBO := Lib.hid hba
  have HGW := Lib.hid (show w.heap.size ≤ gO by omega)
  have hz0 := World.size_alloc w0 (.cells #[] 3)
  clear hba hgw
  go_upto_region 2 with fail
  generalize w0.alloc (.cells #[] 3) = w1 at *
  rw [← hgO] at HOB HBO hz0
  rw [← hgO]
  have HGO := Lib.hid hgO
  clear hgO
  have g0 := S1.out.g0
  have g1 := S1.out.g1
  go_wp2_with fail
  refine (refBim_any N A C cap ccap es rs w1 S1.out.es S1.out.rs hr1 HR2.out HP.out).mono ?_
  rintro e w2 ⟨rfl, hb2⟩
  have S2 := Lib.hid (S1.out.next hb2)
  have HOB2 := Lib.hid (own_below HOB.out hb2 (Nat.le_refl _))
  have HBO2 := Lib.hid (HBO.out.trans (hb2.mono (by omega)))
  have hgO2 : gO < w2.heap.size := by have := hb2.size; omega
  clear hb2 g0 g1 HOB HBO
  have g0 := S2.out.g0
  have g1 := S2.out.g1
  cases hb : bimB rs with
  | false =>
    have HO := Lib.hid (show outersR N es rs = [] by rw [HOR.out, hb]; rfl)
    clear hb
    go_wp2_with fail
    go_ret
    rw [HO.out]
    exact ⟨_, _, rfl, S2.out.below, fun h => absurd h (by simp [intCells])⟩
  | true =>
    have HO := Lib.hid (show outersR N es rs = triesL N es rs (facesOf N es rs).length by rw [HOR.out, hb]; rfl)
    clear hb
    go_wp2_with fail
    refine (refAngs_any N A C cap ccap es rs w2 S2.out.es S2.out.rs hr1 HR2.out HP.out).mono ?_
    rintro e w3 ⟨A3, c3, rfl, hb3, hc3, hge3⟩
    rw [angL_length]
    rw [angL_qu] at hc3
    have S3 := Lib.hid (S2.out.next hb3)
    have HC3 := Lib.hid hc3
    have HGE3 := Lib.hid hge3
    have HOB3 := Lib.hid (own_below HOB2.out hb3 (Nat.le_refl _))
    have HBO3 := Lib.hid (HBO2.out.trans (hb3.mono (by omega)))
    have hgO3 : gO < w3.heap.size := by have := hb3.size; omega
    clear hb3 hc3 hge3 g0 g1 HOB2 HBO2
    have g0 := S3.out.g0
    have g1 := S3.out.g1
    go_wp2_with fail
    refine (ref6Ends_any N A cap es w3 S3.out.es hl hn).mono ?_
    rintro e w4 ⟨v4, rfl, hb4, ho4⟩
    rw [HEI.out] at ho4
    obtain ⟨A4, c4, rfl⟩ := own_slice ho4
    have S4 := Lib.hid (S3.out.next hb4)
    have HC34 := Lib.hid ((HC3.out.below hb4).more hb4.size)
    have HC4 := Lib.hid (Cells.of_own ho4)
    have HGE4 := Lib.hid (own_ge ho4)
    have HOB4 := Lib.hid (own_below HOB3.out hb4 (Nat.le_refl _))
    have HBO4 := Lib.hid (HBO3.out.trans (hb4.mono (by omega)))
    have hgO4 : gO < w4.heap.size := by have := hb4.size; omega
    clear hb4 ho4 g0 g1 HOB3 HBO3
    obtain ⟨F, hF⟩ : ∃ F, F = (facesOf N es rs).length := ⟨_, rfl⟩
    rw [← hF] at HFc hFl HRL
    have HFE := Lib.hid hF
    clear hF
    go_wp2_with fail
    go_loopg [5, 8] F (fun k s5 s8 wr => ∃ i : Nat, s8 = .int .i64 i ∧ i ≤ F ∧ k = F - i ∧ wr.ownsRow gO 3 1 s5 (triesL N es rs i).length (intCells (triesL N es rs i)) ∧ (∀ k, s5.ownBlock = some k → k = gO ∨ w4.heap.size ≤ k) ∧ But [gO] w4 wr ∧ Below gO w0 wr)
    case atStart => exact ⟨0, rfl, Nat.zero_le _, rfl, HOB4.out, fun k hk => .inl (by simp only [Value.ownBlock, Option.some.injEq] at hk; omega), But.refl _ _, HBO4.out⟩
    case round =>
      obtain ⟨i, rfl, hi, hk, ho, hob, hbt, hbo⟩ := hrel
      have Hk := Lib.hid hk
      have HOW := Lib.hid ho
      have HOBK := Lib.hid hob
      have HBT := Lib.hid hbt
      have HBO := Lib.hid hbo
      have SW := Lib.hid (S0.out.next (by rw [← HGO.out]; exact hbo))
      clear hk ho hob hbt hbo
      have g0 := SW.out.g0
      have g1 := SW.out.g1
      go_wp2_with fail
      refine (refFaces_any N A C cap ccap es rs wr SW.out.es SW.out.rs hr1 HR2.out HP.out).mono ?_
      rintro e w5 ⟨A5, c5, rfl, hb5, _⟩
      rw [← HFE.out]
      have S5 := Lib.hid (SW.out.next hb5)
      have HOW5 := Lib.hid (own_below HOW.out hb5 (Nat.le_refl _))
      have HBT5 := Lib.hid (HBT.out.trans (But.of_below [gO] hb5 (Nat.le_refl _)))
      have HBO5 := Lib.hid (HBO.out.trans (hb5.mono (by have := HBT.out.size; omega)))
      clear hb5 g0 g1 HOW HBT HBO
      have g0 := S5.out.g0
      have g1 := S5.out.g1
      by_cases hil : i < F
      · have hil' : (i : Int) < F := by omega
        go_wp2_with fail
        refine (rooms_any N A C cap ccap es rs i w5 S5.out.es S5.out.rs hr1 HR2.out HP.out (by rw [← HFE.out]; exact hil)).mono ?_
        rintro e w6 ⟨g, rfl, hb6, hR6, hg6⟩
        have S6 := Lib.hid (S5.out.next hb6)
        have hw45 := HBT5.out.size
        have HOW6 := Lib.hid (own_below HOW5.out hb6 (Nat.le_refl _))
        have HBT6 := Lib.hid (HBT5.out.trans (But.of_below [gO] hb6 (Nat.le_refl _)))
        have HBO6 := Lib.hid (HBO5.out.trans (hb6.mono (by omega)))
        have HNG := Lib.hid (show ∀ k, u5.ownBlock = some k → k ≠ g from fun k hk e => by
          have := ownBlock_lt HOW5.out hk
          omega)
        have HC36 := Lib.hid ((cells_butA HBT6.out HC34.out (fun p hp => by
          have := HGE3.out p hp
          simp
          omega) (Nat.le_refl _)).more (B' := g) (by omega))
        have HC46 := Lib.hid ((cells_butA HBT6.out HC4.out (fun p hp => by
          have := HGE4.out p hp
          simp
          omega) (Nat.le_refl _)).more (B' := g) (by omega))
        have htry := try_any A3 A4 c3 c4 (vtx es) (angF N es rs) (angK es rs) (2 * es.length) (endsL N es) g g (Nat.le_refl _) (by omega) (by have := HEl.out; omega) HEx.out HVx.out (endsL N es) 0 (roomE N es rs i) w6 rfl (Nat.zero_le _) HC36.out HC46.out hR6 (by rw [HRL.out]; exact HFc.out) (by rw [HRL.out]; omega) (HSM.out i)
        rw [← HTE.out, HRL.out] at htry
        have hz6 := HBT6.out.size
        rw [HRL.out]
        clear hb6 hR6 g0 g1 HOW5 HBT5 HBO5
        go_wp2_with fail
        refine htry.mono ?_
        rintro e w7 ⟨rfl, hb7, _⟩
        have hgr7 : w6.grownBy w7 (some g) := hb7.grown
        have HOW7 := Lib.hid (HOW6.out.kept hgr7 (by
          cases hv : u5.ownBlock with
          | none => exact .inl rfl
          | some k => exact .inr fun e => HNG.out k hv (by injection e)))
        have hb67 : Below w4.heap.size w6 w7 := hb7.below (by omega) (fun k hk => by
          have h9 : k = g := by simpa using hk
          omega)
        have HBT7 := Lib.hid (HBT6.out.low hb67)
        have HBO7 := Lib.hid (HBO6.out.trans (hb67.mono (by omega)))
        have hs7 := HBT7.out.size
        have HST := Lib.hid (triesL_succ N es rs i)
        have hln := triesL_length N es rs i
        clear htry hb7 hb67 hgr7 HOW6 HBT6 HBO6 HNG HC36 HC46 hz6
        cases ht : tryE N es rs i with
        | true =>
          rw [ht, if_pos rfl] at HST
          have how := HOW7.out
          obtain ⟨ln, hle⟩ : ∃ l, l = (triesL N es rs i).length := ⟨_, rfl⟩
          rw [← hle] at how hln
          have HLE := Lib.hid hle
          have hgO7 : gO ≤ w7.heap.size := by omega
          clear ht hle
          go_wp2_with (at_builtin; refine wp_app elemInt rfl _ _ rfl gO u5 ln _ rfl w7.heap.size [.int .i64 (i : Int)] rfl rfl how rfl rfl ?a2 ?a3 ?a4 ?_)
          case a2 => omega
          case a3 => omega
          case a4 => exact hgO7
          intro v1 w8 ho hg hd
          have HO8 := Lib.hid (show w8.ownsRow gO 3 1 v1 (triesL N es rs (i + 1)).length (intCells (triesL N es rs (i + 1))) by
            rw [HST.out, List.length_append, ← HLE.out]
            simpa [intCells] using ho)
          have HK8 := Lib.hid (show ∀ k, v1.ownBlock = some k → k = gO ∨ w4.heap.size ≤ k from fun k hk => by
            rcases hd with h | h
            · rw [h] at hk; exact HOBK.out k hk
            · rw [h] at hk
              injection hk with hk
              right
              omega)
          have HBT8 := Lib.hid (show But [gO] w4 w8 from ⟨hg.1.trans HBT7.out.os, hg.2.trans HBT7.out.tape, hg.3.trans HBT7.out.output, Nat.le_trans HBT7.out.size hg.4, fun k hk hs => (hg.5 k (by omega) (fun e => by
            rcases HOBK.out k e.symm with h | h
            · exact hs (by simp [h])
            · omega)).trans (HBT7.out.block k hk hs)⟩)
          have HBO8 := Lib.hid (HBO7.out.trans ((Evo.of_grown (T := [3]) (B := gO) how hg (by simp) (Nat.le_refl _)).below hgO7))
          clear ho hg hd how
          go_wp2_with fail
          go_roundg (F - (i + 1))
          case measure => rw [Hk.out]; omega
          case rel => exact ⟨i + 1, by go_num, by omega, rfl, HO8.out, HK8.out, HBT8.out, HBO8.out⟩
        | false =>
          rw [ht, if_neg (by simp), List.append_nil] at HST
          clear ht
          go_wp2_with fail
          go_roundg (F - (i + 1))
          case measure => rw [Hk.out]; omega
          case rel => exact ⟨i + 1, by go_num, by omega, rfl, by rw [HST.out]; exact HOW7.out, HOBK.out, HBT7.out, HBO7.out⟩
      · have hie : i = F := by omega
        have hil' : ¬ (i : Int) < F := by omega
        have HOF := Lib.hid (show w5.ownsRow gO 3 1 u5 (outersR N es rs).length (intCells (outersR N es rs)) by
          rw [HO.out, ← HFE.out, ← hie]
          exact HOW5.out)
        obtain ⟨A9, c9, rfl⟩ := own_slice HOF.out
        clear hie
        go_wp2_with fail
        go_ret
        exact ⟨A9, c9, rfl, S5.out.below, Cells.of_own HOF.out⟩
theorem refOuters_any2 (n : Int) (A C : Option Addr) (cap ccap : Nat) (es : List (Int × Int)) (rs : List (List Int)) (w : World) (hes : Cells w w.heap.size A (edgeCells es)) (hrs : RowsAt w w.heap.size C rs) (hr1 : rs.length ≤ 1000) (hr2 : ∀ l ∈ rs, l.length ≤ 1000) (hP : RightP n es rs) :
    Calls Tryz.prog 12 #[.agg #[.int .i64 n, .slice A es.length cap], .slice C rs.length ccap] w (OutersQ (outersR n es rs) w) := by
  have hn : n = (rs.length : Int) := hP.len.symm
  subst hn
  exact refOuters_any rs.length A C cap ccap es rs w hes hrs hr1 hr2 hP rfl
end Go.Proofs.YtelcofkjpkdjiaaGreat
