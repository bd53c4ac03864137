import Derived.Test.YtelcofkjpkdjiaaZAsg
import Derived.Test.YtelcofkjpkdjiaaZFit2
/-
  Law AngleFits: walked. Written by an AI agent.
-/
namespace Go.Proofs.Ytelcofkjpkdjiaa
open Go.RowKit

/-- which of n are among the first i of a list -/
def markL (n : Nat) (E : List Nat) (i : Nat) : List Bool := (List.range n).map fun x => decide (x ∈ E.take i)
theorem markL_length (n : Nat) (E : List Nat) (i : Nat) : (markL n E i).length = n := by simp [markL]
theorem markL_zero (n : Nat) (E : List Nat) : markL n E 0 = List.replicate n false := by
  apply List.ext_getElem
  · simp [markL]
  · intro i h1 h2
    simp [markL]
theorem markL_succ {n : Nat} {E : List Nat} {i : Nat} (hi : i < E.length) : (markL n E i).set E[i] true = markL n E (i + 1) := by
  unfold markL
  refine map_range_set n E[i] _ _ true ?_ (fun x hx => ?_)
  · rw [decide_eq_true_eq, List.take_succ_eq_append_getElem hi, List.mem_append]
    exact .inr (List.mem_singleton.2 rfl)
  · rw [List.take_succ_eq_append_getElem hi, Bool.eq_iff_iff, decide_eq_true_eq, decide_eq_true_eq, List.mem_append, List.mem_singleton]
    exact ⟨fun h => h.resolve_right hx, .inl⟩
theorem markL_at {n : Nat} {E : List Nat} {x : Nat} (hx : x < n) : (markL n E E.length).getD x false = decide (x ∈ E) := by
  unfold markL
  rw [List.getD_eq_getElem?_getD, List.getElem?_map, List.getElem?_range hx, List.take_length]
  rfl
/-- the rooms that are left behind the first i vertices -/
def roomM (Fc : Nat → Nat) (G rm : List Int) (i : Nat) : List Int := (List.range rm.length).map fun f => rm.getD f 0 - (((List.range i).countP fun x => decide (0 ≤ G.getD x 0) && decide (Fc (G.getD x 0).toNat = f) : Nat) : Int)
theorem roomM_length (Fc : Nat → Nat) (G rm : List Int) (i : Nat) : (roomM Fc G rm i).length = rm.length := by simp [roomM]
theorem roomM_zero (Fc : Nat → Nat) (G rm : List Int) : roomM Fc G rm 0 = rm := by
  apply List.ext_getElem
  · simp [roomM]
  · intro i h1 h2
    simp [roomM, h2]
theorem roomM_getD {Fc : Nat → Nat} {G rm : List Int} {i f : Nat} (hf : f < rm.length) : (roomM Fc G rm i).getD f 0 = rm.getD f 0 - (((List.range i).countP fun x => decide (0 ≤ G.getD x 0) && decide (Fc (G.getD x 0).toNat = f) : Nat) : Int) := by
  unfold roomM
  rw [List.getD_eq_getElem?_getD, List.getElem?_map, List.getElem?_range hf]
  rfl
theorem roomM_skip {Fc : Nat → Nat} {G rm : List Int} {i : Nat} (h : ¬ 0 ≤ G.getD i 0) : roomM Fc G rm (i + 1) = roomM Fc G rm i := by
  unfold roomM
  refine List.map_congr_left fun f hf => ?_
  rw [List.range_succ, List.countP_append]
  simp only [List.countP_cons, List.countP_nil]
  rw [decide_eq_false h]
  simp
theorem roomM_take {Fc : Nat → Nat} {G rm : List Int} {i h : Nat} (hG : G.getD i 0 = (h : Int)) (hf : Fc h < rm.length) : (roomM Fc G rm i).set (Fc h) ((roomM Fc G rm i).getD (Fc h) 0 - 1) = roomM Fc G rm (i + 1) := by
  rw [roomM_getD hf]
  unfold roomM
  refine map_range_set rm.length (Fc h) _ _ _ ?_ (fun f hx => ?_)
  · rw [List.range_succ, List.countP_append]
    simp only [List.countP_cons, List.countP_nil]
    rw [hG, Int.toNat_natCast, decide_eq_true (Int.natCast_nonneg h), decide_eq_true rfl]
    simp
    omega
  · rw [List.range_succ, List.countP_append]
    simp only [List.countP_cons, List.countP_nil]
    rw [hG, Int.toNat_natCast, decide_eq_false (p := Fc h = f) (fun e => hx e.symm)]
    simp
theorem roomM_small {Fc : Nat → Nat} {G rm : List Int} {i : Nat} (h : Small rm) (hi : i ≤ 1000) {f : Nat} (hf : f < rm.length) : -20000 ≤ (roomM Fc G rm i).getD f 0 ∧ (roomM Fc G rm i).getD f 0 ≤ 20000 := by
  rw [roomM_getD hf]
  have h1 := h.at_ hf
  have h2 : ((List.range i).countP fun x => decide (0 ≤ G.getD x 0) && decide (Fc (G.getD x 0).toNat = f)) ≤ i := Nat.le_trans List.countP_le_length (by simp)
  omega
theorem roomM_end {V Fc : Nat → Nat} {n M : Nat} {rm : List Int} {E : List Nat} {G : List Int} (h : Fits V Fc n M rm E G) : ∀ f, f < rm.length → (roomM Fc G rm n).getD f 0 = 0 := fun f hf => by
  rw [roomM_getD hf, ← h.full f hf, hold_count]
  omega
theorem own_but {w w' : World} {S : List Nat} {base size n c : Nat} {e : TypeId} {A : Option Addr} {xs : List Value} (h : w.ownsRow base e size (.slice A n c) n xs) (hb : But S w w') (hS : ∀ k ∈ S, k < base) : Cells w' w'.heap.size A xs := fun hn => by
  have hn' : 0 < n := by
    rcases Nat.eq_zero_or_pos n with h0 | h0
    · subst h0; have := h.1; omega
    · exact h0
  obtain ⟨g, cap, hv, hbg, hlt⟩ := h.form hn'
  have hA : A = some ⟨g, 0, none⟩ := by injection hv
  subst hA
  exact ((cells_but hb (Cells.of_own h) (fun hg => by have := hS g hg; omega) (Nat.le_refl _)).more hb.size) hn
theorem bimB_nils {rs : List (List Int)} (h : ∀ l ∈ rs, l = []) : bimB rs = true := by
  unfold bimB
  rw [List.all_eq_true]
  intro l hl
  rw [h l hl]
  rfl
/-- without edges: one vertex -/
theorem ask_bare {n : Int} {es : List (Int × Int)} {rs : List (List Int)} (h : askA n es rs = true) (he : es.length = 0) : rs.length = 1 ∧ bimB rs = true := by
  have hP := ask_right h
  constructor
  · have h1 := ask_one h
    have h2 := cls_one (Q_equ rs.length es.length) h1
    have h0 := ask_pos h
    rcases Nat.lt_or_ge 1 rs.length with h3 | h3
    · exfalso
      have := h2 1 h3
      rcases star_touch (right_inN hP) this with e | e
      · cases e
      · rcases e.1 with ⟨k, hk, _⟩ | ⟨k, hk, _⟩ <;> omega
    · omega
  · refine bimB_nils fun l hl => ?_
    obtain ⟨x, hx, rfl⟩ := List.getElem_of_mem hl
    rw [List.eq_nil_iff_forall_not_mem]
    intro a ha
    have := hP.at_ x hx a ha
    omega
theorem ask_assign0 {n : Int} {es : List (Int × Int)} {rs : List (List Int)} (h : askA n es rs = true) (he : es.length = 0) : assignR n es rs = some (0, [-1]) := by
  obtain ⟨h1, h2⟩ := ask_bare h he
  unfold assignR
  rw [h, h2, if_pos (by decide), if_pos he, h1]
  rfl
theorem assign_no {n : Int} {es : List (Int × Int)} {rs : List (List Int)} (h : askA n es rs = false) : assignR n es rs = none := by
  unfold assignR
  rw [h]
  rfl
set_option maxRecDepth 20000 in
set_option maxHeartbeats 8000000 in
theorem angFits_any (n : Int) (A C : Option Addr) (cap ccap : Nat) (es : List (Int × Int)) (rs : List (List Int)) (w : World) (hes : Cells w w.heap.size A (edgeCells es)) (hrs : RowsAt w w.heap.size C rs) :
    Calls Try.prog 4 #[.agg #[.int .i64 n, .slice A es.length cap], .slice C rs.length ccap] w (fun e w' => e = .returned (.bool true) ∧ Below w.heap.size w w') := by
  have S1 := Lib.hid (SG.start n cap hes hrs)
  clear hes hrs
  go_enter Try.func4, Try.ntmps4
  go_upto_region 1 with fail
  generalize w.alloc (.cells #[.int .i64 n, .slice A es.length cap] 24) = w1 at *
  go_wp2_with fail
  refine (speaks6_any w1).mono ?_
  rintro e w2 ⟨rfl, hb2⟩
  have S2 := Lib.hid (S1.out.next hb2)
  have g0 := S2.out.g0
  have g1 := S2.out.g1
  clear hb2 S1
  go_wp2_with fail
  refine (great2_any n A C cap ccap es rs 14 w2 S2.out.rs).mono ?_
  rintro e w3 ⟨b, rfl, hb3, hgr⟩
  have S3 := Lib.hid (S2.out.next hb3)
  clear hb3 S2 g0 g1
  have g0 := S3.out.g0
  have g1 := S3.out.g1
  cases b with
  | true =>
    clear hgr
    go_wp2_with fail
    go_ret
    exact ⟨rfl, S3.out.below⟩
  | false =>
    obtain ⟨h1, h2, h3⟩ := hgr rfl
    have hr1 : rs.length ≤ 1000 := by omega
    have HR2 := Lib.hid (show ∀ l ∈ rs, l.length ≤ 1000 from fun l hl => by have := h3 l hl; omega)
    clear hgr h3
    have hass := assign_any n A C cap ccap es rs w3 S3.out.es S3.out.rs hr1 HR2.out
    go_wp2_with fail
    refine hass.mono ?_
    rintro e w4 ⟨hb4, hm⟩
    have S4 := Lib.hid (S3.out.next hb4)
    clear hb4 g0 g1 hass
    have g0 := S4.out.g0
    have g1 := S4.out.g1
    have hodd := odd_any n A C cap ccap es rs w4 S4.out.es S4.out.rs hr1 HR2.out
    cases ha : askA n es rs with
    | false =>
      rw [assign_no ha] at hm
      subst hm
      rw [ha] at hodd
      go_wp2_with fail
      refine hodd.mono ?_
      rintro e w5 ⟨rfl, hb5⟩
      have S5 := Lib.hid (S4.out.next hb5)
      clear hodd hb5
      go_wp2_with fail
      go_ret
      exact ⟨rfl, S5.out.below⟩
    | true =>
      rw [ha] at hodd
      have HA := Lib.hid ha
      have HP := Lib.hid (ask_right ha)
      by_cases he : es.length = 0
      · have hN := (ask_bare ha he).1
        rw [ask_assign0 ha he] at hm
        obtain ⟨gG, rfl, hG, hgG⟩ := hm
        have he' : ((es.length : Int) == 0) = true := by rw [he]; rfl
        have hl1' : ((rs.length : Int) == 1) = true := by rw [hN]; rfl
        have hl0' : (0 : Int) < rs.length := by omega
        have hgl := hG.lt
        have HG := Lib.hid hG
        clear hG ha hN he
        go_wp2_with fail
        refine hodd.mono ?_
        rintro e w5 ⟨rfl, hb5⟩
        have S5 := Lib.hid (S4.out.next hb5)
        have g0' := S5.out.g0
        have g1' := S5.out.g1
        have hc := (HG.out.below hb5 hgl).cell 0
        simp only [intCells, List.map_cons, List.map_nil, List.getElem?_toArray, List.getElem?_cons_zero] at hc
        clear hodd hb5 g0 g1
        go_wp2_with fail
        go_ret
        exact ⟨rfl, S5.out.below⟩
      · have he' : ((es.length : Int) == 0) = false := by rw [beq_eq_false_iff_ne]; omega
        have hep : 0 < es.length := by omega
        clear he
        obtain ⟨N, hN⟩ : ∃ N, N = rs.length := ⟨_, rfl⟩
        have hnN : n = (N : Int) := by rw [hN]; exact HP.out.len.symm
        subst hnN
        rcases assign_outer ha hep with ⟨e1, e2⟩ | ⟨f, G, e1, e2, e3, e4⟩
        · rw [e1] at hm
          subst hm
          have hout := fun W h1 h2 => outer_any N A C cap ccap es rs W h1 h2 hr1 HR2.out HP.out hN.symm
          rw [e2] at hout
          have HOUT := Lib.hid hout
          clear hout
          clear ha e1 e2 hN
          go_wp2_with fail
          refine hodd.mono ?_
          rintro e w5 ⟨rfl, hb5⟩
          have S5 := Lib.hid (S4.out.next hb5)
          have g0' := S5.out.g0
          have g1' := S5.out.g1
          clear hodd hb5 g0 g1
          go_wp2_with fail
          refine (HOUT.out w5 S5.out.es S5.out.rs).mono ?_
          rintro e w6 ⟨rfl, hb6⟩
          have S6 := Lib.hid (S5.out.next hb6)
          clear hb6
          go_wp2_with fail
          go_ret
          exact ⟨rfl, S6.out.below⟩
        · rw [e1] at hm
          obtain ⟨gG, rfl, hG, hgG⟩ := hm
          have hout := fun W h1 h2 => outer_any N A C cap ccap es rs W h1 h2 hr1 HR2.out HP.out hN.symm
          rw [e2] at hout
          have HOUT := Lib.hid hout
          clear hout
          have hfits := fitE_some ha hep e4
          rw [← hN] at hfits
          have HFT := Lib.hid hfits
          have hgl := hG.lt
          have HG := Lib.hid hG
          have HNN := Lib.hid hN
          have hFl := faces_le HP.out
          have HFR := Lib.hid fun W h1 h2 => rooms_any N A C cap ccap es rs f W h1 h2 hr1 HR2.out HP.out e3
          have hN1 : N ≤ 70 := by omega
          have hRL : (roomE N es rs f).length = (facesOf N es rs).length := roomT_length _ _ _ _ _
          have HSM := Lib.hid (room_small N es rs f (by omega))
          have HFc := Lib.hid (show ∀ h, h < 2 * es.length → angF N es rs h < (roomE N es rs f).length from fun h hh => by rw [hRL]; exact (angF_spec HP.out hh).1)
          have hF1 : (roomE N es rs f).length ≤ 1000 := by
            have := (may_parts HP.out.may).2.2
            omega
          clear hG ha e1 e2 e3 e4 hN hfits hFl hRL h1 h2
          go_wp2_with fail
          refine hodd.mono ?_
          rintro e w5 ⟨rfl, hb5⟩
          have S5 := Lib.hid (S4.out.next hb5)
          have HG5 := Lib.hid (HG.out.below hb5 hgl)
          have g0' := S5.out.g0
          have g1' := S5.out.g1
          clear hodd hb5 g0 g1
          go_wp2_with fail
          refine (HOUT.out w5 S5.out.es S5.out.rs).mono ?_
          rintro e w6 ⟨rfl, hb6⟩
          have S6 := Lib.hid (S5.out.next hb6)
          have HG6 := Lib.hid (HG5.out.below hb6 HG5.out.lt)
          clear hb6 HOUT g0' g1' HG HG5
          have g0 := S6.out.g0
          have g1 := S6.out.g1
          have hl6 := S6.out.lt
          have hfne : ((f : Int) != (f : Int)) = false := by simp
          have hNne : ((rs.length : Int) != (N : Int)) = false := by rw [← HNN.out]; simp
          have hf0 : ((f : Int) ≥ 0) := Int.natCast_nonneg f
          have hf0' : decide ((f : Int) ≥ 0) = true := decide_eq_true hf0
          have KS := Lib.hid (show ∀ w', Below w6.heap.size w6 w' → w'.cell? ⟨w.heap.size, 0, none⟩ = some (.int .i64 N) ∧ w'.cell? ⟨w.heap.size, 1, none⟩ = some (.slice A es.length cap) from fun w' h => ⟨(h.cell (p := ⟨w.heap.size, 0, none⟩) hl6).trans g0, (h.cell (p := ⟨w.heap.size, 1, none⟩) hl6).trans g1⟩)
          go_upto_region 17 with fail
          go_region_held3 (fun w' => w'.cell? ⟨w.heap.size, 0, none⟩ = some (.int .i64 N) ∧ w'.cell? ⟨w.heap.size, 1, none⟩ = some (.slice A es.length cap))
            (first | exact ⟨g0, g1⟩ | exact KS.out _ hb78 | exact KS.out _ hb7)
            (first
              | (go_at_call 14; refine (refAngs_any N A C cap ccap es rs _ (by exact S6.out.es) (by exact S6.out.rs) hr1 HR2.out HP.out).mono ?_; rintro e w7 ⟨A7, c7, rfl, hb7', hc7, _⟩; have hb7 := below_undrew hb7'; clear hb7')
              | (go_at_call 18; refine (HFR.out _ (by exact (S6.out.next hb7).es) (by exact (S6.out.next hb7).rs)).mono ?_; rintro e w8 ⟨gR, rfl, hb8, hR8, hgR⟩; have hb78 := hb7.trans (hb8.mono hb7.size)))
          rw [angL_length, ← HNN.out]
          rw [angL_qu] at hc7
          have S8 := Lib.hid (S6.out.next hb78)
          have HG8 := Lib.hid (HG6.out.below hb78 HG6.out.lt)
          have HC8 := Lib.hid (hc7.below hb8)
          have HR8 := Lib.hid hR8
          have hGR : gG < gR := by have := HG6.out.lt; have := hb7.size; omega
          have hC7 : w7.heap.size ≤ gR := hgR
          have HWG := Lib.hid (show w.heap.size ≤ gR ∧ w.heap.size ≤ gG by have := (S6.out.next hb7).lt; have := S3.out.lt; omega)
          have HB7 := Lib.hid hb7
          obtain ⟨B7, hB7⟩ : ∃ B, B = w7.heap.size := ⟨_, rfl⟩
          rw [← hB7] at HC8 hC7
          clear hb7 hb8 hb78 hc7 hR8 hgR g0 g1 KS HG6 HB7 hB7 hl6
          have g0 := S8.out.g0
          have g1 := S8.out.g1
          obtain ⟨rm, hrm⟩ : ∃ rm, rm = roomE N es rs f := ⟨_, rfl⟩
          rw [← hrm] at HFT HFc HSM HR8 hF1
          rw [← hrm]
          obtain ⟨M, hM⟩ : ∃ M, M = 2 * es.length := ⟨_, rfl⟩
          rw [← hM] at HFT HFc HC8
          rw [← hM]
          obtain ⟨E, hE⟩ : ∃ E, E = endsL N es := ⟨_, rfl⟩
          rw [← hE] at HFT
          generalize angF N es rs = Fc at *
          generalize vtx es = V at *
          generalize angK es rs = Kd at *
          have HES := Lib.hid hE
          clear hrm hM hE
          have hmk := fun W => run_make1 elemBool rfl N (by omega) (by omega) W
          have HM9 := Lib.hid (Blk.new w8 4 (Array.replicate N (.bool false)))
          have hb9 := (Below.refl w8.heap.size w8).alloc (Nat.le_refl _) (.cells (Array.replicate N (.bool false)) 4)
          have hz9 := World.size_alloc w8 (.cells (Array.replicate N (.bool false)) 4)
          have S9 := Lib.hid (S8.out.next hb9)
          have HG9 := Lib.hid (HG8.out.below hb9 HG8.out.lt)
          have HC9 := Lib.hid (HC8.out.below (hb9.mono (by have := HR8.out.lt; omega)))
          have HR9 := Lib.hid (HR8.out.below hb9 HR8.out.lt)
          have hRB := HR8.out.lt
          clear hb9 g0 g1
          go_upto_region 19 with fail
          obtain ⟨gB, hgB⟩ : ∃ gB, gB = w8.heap.size := ⟨_, rfl⟩
          rw [← hgB] at HM9 hz9 hRB
          rw [← hgB]
          generalize w8.alloc (.cells (Array.replicate N (.bool false)) 4) = w9 at *
          have HM := Lib.hid (show Blk w9 gB 4 (boolCells (markL N E 0)).toArray by rw [markL_zero]; simpa [boolCells] using HM9.out)
          have HORD := Lib.hid (show gG < gR ∧ gR < gB ∧ gB < w9.heap.size ∧ B7 ≤ gR by omega)
          have g0 := S9.out.g0
          have g1 := S9.out.g1
          clear hmk hgB HM9 S8 HG8 HC8 HR8 hRB hz9 hGR hC7
          have hel : es.length ≤ 1000 := by have := (may_parts HP.out.may).2.2; omega
          go_wp2_with fail
          refine (ref6Ends_any N A cap es w9 S9.out.es hel (by omega)).mono ?_
          rintro e w10 ⟨v10, rfl, hb10, ho10⟩
          rw [endsI_length] at ho10
          obtain ⟨A10, c10, rfl⟩ := own_slice ho10
          have HEI := Lib.hid (show endsI N es = E.map fun z : Nat => (z : Int) by rw [HES.out]; rfl)
          rw [HEI.out, ← HES.out] at ho10
          rw [← HES.out]
          have S10 := Lib.hid (S9.out.next hb10)
          have HM10 := Lib.hid (HM.out.below hb10 HM.out.lt)
          have HG10 := Lib.hid (HG9.out.below hb10 HG9.out.lt)
          have HC10 := Lib.hid (HC9.out.below (hb10.mono (by have := HORD.out; omega)))
          have HR10 := Lib.hid (HR9.out.below hb10 HR9.out.lt)
          have HO10 := Lib.hid ho10
          have HEx := Lib.hid (show ∀ x ∈ E, x < N from fun x hx => by rw [HES.out] at hx; exact endsL_lt hx)
          have hEl : E.length ≤ 2 * N := by rw [HES.out]; exact endsL_le N es
          have hz10 := hb10.size
          have HORD2 := Lib.hid (show gG < gR ∧ gR < gB ∧ gB < w10.heap.size ∧ B7 ≤ gR ∧ gB < w9.heap.size by have := HORD.out; omega)
          clear hb10 ho10 g0 g1 HM HG9 HC9 HR9 hel S9 HES
          go_wp2_with fail
          go_loopg [103] E.length (fun k s103 wr => ∃ i : Nat, s103 = .int .i64 i ∧ i ≤ E.length ∧ k = E.length - i ∧ But [gB] w10 wr ∧ Blk wr gB 4 (boolCells (markL N E i)).toArray)
          case atStart => exact ⟨0, rfl, Nat.zero_le _, rfl, But.refl _ _, HM10.out⟩
          case round =>
            obtain ⟨i, rfl, hi, hk, hb, hbl⟩ := hrel
            have Hk := Lib.hid hk
            have HB := Lib.hid hb
            have HBL := Lib.hid hbl
            clear hk hb hbl
            by_cases hil : i < E.length
            · have hil' : (i : Int) < E.length := by omega
              obtain ⟨ba, oa, rfl, hba, hca⟩ := (own_but HO10.out HB.out (by simp; exact HORD2.out.2.2.2.2)).ints (by simpa using (show 0 < E.length by omega))
              have d0 := hca i (by simpa using hil)
              simp only [List.getElem_map] at d0
              have hxN := HEx.out _ (List.getElem_mem hil)
              have HS := Lib.hid (markL_succ (n := N) hil)
              have hml := markL_length N E i
              generalize E[i] = x at *
              have hxN' : (x : Int) < N := by omega
              have cv := HBL.out.bool (k := x) (by omega)
              have fv := HBL.out.frozen x
              have HN := Lib.hid (show Blk (wr.setCell ⟨gB, x, none⟩ (.bool true)) gB 4 (boolCells (markL N E (i + 1))).toArray by rw [← HS.out]; exact HBL.out.setBool x true)
              have HBN := Lib.hid (HB.out.trans (But.set_ wr (show gB ∈ [gB] by simp) x (.bool true)))
              generalize (markL N E i).getD x false = v at *
              clear hca hml
              go_wp2_with fail
              go_roundg (E.length - (i + 1))
              case measure => rw [Hk.out]; omega
              case rel => exact ⟨i + 1, by go_num, by omega, rfl, HBN.out, HN.out⟩
            · have hie : i = E.length := by omega
              have hil' : ¬ (i : Int) < E.length := by omega
              have HM11 := Lib.hid (show Blk wr gB 4 (boolCells (markL N E E.length)).toArray by rw [← hie]; exact HBL.out)
              have HG11 := Lib.hid (HB.out.blk HG10.out (by simp; have := HORD2.out; omega))
              have HR11 := Lib.hid (HB.out.blk HR10.out (by simp; have := HORD2.out; omega))
              have HC11 := Lib.hid (HC10.out.but HB.out (by have := HORD2.out; omega) (by simp; have := HORD2.out; omega))
              have HB11 := Lib.hid (S10.out.below.trans ((HB.out.below (B := gB) (by have := HORD2.out; omega) (by simp)).mono (by have := HORD.out; have := HWG.out; omega)))
              have HORD3 := Lib.hid (show gG < gR ∧ gR < gB ∧ gB < wr.heap.size ∧ B7 ≤ gR by have := HORD2.out; have := HB.out.size; omega)
              clear hie HB HBL HM10 HG10 HR10 HC10 HO10
              go_upto_region 24 with fail
              obtain ⟨w11, rfl⟩ : ∃ y, y = wr := ⟨_, rfl⟩
              go_wp2_with fail
              go_loopg [113] N (fun k s113 wr => ∃ i : Nat, s113 = .int .i64 i ∧ i ≤ N ∧ k = N - i ∧ But [gR] w11 wr ∧ Blk wr gR 3 (intCells (roomM Fc G rm i)).toArray)
              case atStart => exact ⟨0, rfl, Nat.zero_le _, rfl, But.refl _ _, by rw [roomM_zero]; exact HR11.out⟩
              case round =>
                obtain ⟨i, rfl, hi, hk, hb, hbl⟩ := hrel
                have Hk := Lib.hid hk
                have HB := Lib.hid hb
                have HBL := Lib.hid hbl
                clear hk hb hbl
                by_cases hil : i < N
                · have hil' : (i : Int) < N := by omega
                  have HGw := Lib.hid (HB.out.blk HG11.out (by simp; have := HORD3.out; omega))
                  have HMw := Lib.hid (HB.out.blk HM11.out (by simp; have := HORD3.out; omega))
                  have HCw := Lib.hid (HC11.out.but HB.out (by have := HORD3.out; omega) (by simp; have := HORD3.out; omega))
                  have cG := HGw.out.int_ (k := i) (by rw [HFT.out.good.len]; exact hil)
                  have cM := HMw.out.bool (k := i) (by rw [markL_length]; exact hil)
                  rw [markL_at hil] at cM
                  have HE1 := Lib.hid (HFT.out.ends i hil)
                  have HOW := Lib.hid (HFT.out.good.own i hil)
                  have hng := HFT.out.good.neg i hil
                  have HSK := Lib.hid (roomM_skip (Fc := Fc) (G := G) (rm := rm) (i := i))
                  have HTK := Lib.hid (fun h => roomM_take (Fc := Fc) (G := G) (rm := rm) (i := i) (h := h))
                  obtain ⟨z, hz⟩ : ∃ z, z = G.getD i 0 := ⟨_, rfl⟩
                  rw [← hz] at cG HE1 HOW hng HSK HTK
                  clear hz
                  by_cases hiE : i ∈ E
                  · rw [decide_eq_true hiE] at cM
                    have h0 := HE1.out.2 hiE
                    obtain ⟨h, rfl⟩ : ∃ h : Nat, z = (h : Int) := ⟨z.toNat, by omega⟩
                    have how := HOW.out h0
                    rw [Int.toNat_natCast] at how
                    obtain ⟨hhM, hV⟩ := how
                    obtain ⟨ba, oa, rfl, hba, hca⟩ := HCw.out.qu (by omega)
                    obtain ⟨d0, d1, d2, d3⟩ := hca h hhM
                    rw [hV] at d1
                    have hfl := HFc.out h hhM
                    have HTK2 := Lib.hid (HTK.out h rfl hfl)
                    have hsm := roomM_small (Fc := Fc) (G := G) (i := i) HSM.out (by omega) hfl
                    have cr := HBL.out.int_ (k := Fc h) (by rw [roomM_length]; exact hfl)
                    obtain ⟨fc, hfc⟩ : ∃ fc, fc = Fc h := ⟨_, rfl⟩
                    rw [← hfc] at d2 hfl HTK2 hsm cr
                    have fr := HBL.out.frozen fc
                    obtain ⟨rv, hrv⟩ : ∃ rv, rv = (roomM Fc G rm i).getD fc 0 := ⟨_, rfl⟩
                    rw [← hrv] at hsm cr HTK2
                    have HN := Lib.hid (show Blk (wr.setCell ⟨gR, fc, none⟩ (.int .i64 (rv - 1))) gR 3 (intCells (roomM Fc G rm (i + 1))).toArray by rw [← HTK2.out]; exact HBL.out.setInt fc (rv - 1))
                    have HBN := Lib.hid (HB.out.trans (But.set_ wr (show gR ∈ [gR] by simp) fc (.int .i64 (rv - 1))))
                    have hwv : IntKind.i64.wrap (rv - 1) = rv - 1 := by rw [IntKind.wrap_i64]; omega
                    have n1 : decide ((h : Int) < 0) = false := decide_eq_false (by omega)
                    have n2 : decide ((h : Int) ≥ (M : Int)) = false := decide_eq_false (by omega)
                    have n3 : ((i : Int) != (i : Int)) = false := by simp
                    have hhM' : (h : Int) < M := by omega
                    have hfl' : (fc : Int) < rm.length := by omega
                    clear hca d0 d3 hV hfc hrv hng h0 hiE
                    go_wp2_with fail
                    go_roundg (N - (i + 1))
                    case measure => rw [Hk.out]; omega
                    case rel => exact ⟨i + 1, by go_num, by omega, rfl, HBN.out, HN.out⟩
                  · rw [decide_eq_false hiE] at cM
                    have hzn : z = -1 := by
                      have : ¬ 0 ≤ z := fun h => hiE (HE1.out.1 h)
                      omega
                    subst hzn
                    have HS2 := Lib.hid (HSK.out (by omega))
                    have HN := Lib.hid (show Blk wr gR 3 (intCells (roomM Fc G rm (i + 1))).toArray by rw [HS2.out]; exact HBL.out)
                    clear hng hiE
                    go_wp2_with fail
                    go_roundg (N - (i + 1))
                    case measure => rw [Hk.out]; omega
                    case rel => exact ⟨i + 1, by go_num, by omega, rfl, HB.out, HN.out⟩
                · have hie : i = N := by omega
                  have hil' : ¬ (i : Int) < N := by omega
                  obtain ⟨re, hre⟩ : ∃ re, re = roomM Fc G rm N := ⟨_, rfl⟩
                  have HRE := Lib.hid (show Blk wr gR 3 (intCells re).toArray by rw [hre, ← hie]; exact HBL.out)
                  have HZ := Lib.hid (show ∀ f, f < rm.length → re.getD f 0 = 0 from by rw [hre]; exact roomM_end HFT.out)
                  have HL := Lib.hid (show re.length = rm.length by rw [hre]; exact roomM_length _ _ _ _)
                  have HB12 := Lib.hid (HB11.out.trans ((HB.out.below (B := gR) (by have := HORD3.out; omega) (by simp)).mono (by have := HWG.out; omega)))
                  clear hie hre HB HBL
                  go_upto_region 34 with fail
                  obtain ⟨w12, rfl⟩ : ∃ y, y = wr := ⟨_, rfl⟩
                  go_wp2_with fail
                  go_loopg [155] rm.length (fun k s155 wr => ∃ i : Nat, s155 = .int .i64 i ∧ i ≤ rm.length ∧ k = rm.length - i ∧ w12 = wr)
                  case atStart => exact ⟨0, rfl, Nat.zero_le _, rfl, rfl⟩
                  case round =>
                    obtain ⟨i, rfl, hi, hk, rfl⟩ := hrel
                    have Hk := Lib.hid hk
                    clear hk
                    by_cases hil : i < rm.length
                    · have hil' : (i : Int) < rm.length := by omega
                      have cr := HRE.out.int_ (k := i) (by rw [HL.out]; exact hil)
                      rw [HZ.out i hil] at cr
                      go_wp2_with fail
                      go_roundg (rm.length - (i + 1))
                      case measure => rw [Hk.out]; omega
                      case rel => exact ⟨i + 1, by go_num, by omega, rfl, rfl⟩
                    · have hie : i = rm.length := by omega
                      have hil' : ¬ (i : Int) < rm.length := by omega
                      clear hie
                      go_wp2_with fail
                      go_ret
                      exact ⟨rfl, HB12.out⟩
end Go.Proofs.Ytelcofkjpkdjiaa
