/-
  Law CertUnlike: walked. Written by an AI agent.
-/
import Derived.Test.YtmlbjcngboegfaaCuts
import Derived.Test.YtmlbjcngboegfaaSame2
namespace Go.Proofs.Ytmlbjcngboegfaa
open Go.RowKit

theorem wpl_load {P : Program} {ops : Array Oper} {rest : List Oper} {o : Oper} {a : Act} {w : World} {Q : Exit → Act → World → Prop} (hw : Region.wanted o (yielded ops a.tmps) = true) (ty : TypeId) (x : Operand) (ho : o.op = .load ty x)
    (g : Nat) (hx : a.eval x = .pointer (some ⟨g, 0, none⟩)) (t : TypeId) (cs : Array Value) (d : TypeDesc) (hg : Blk w g t cs)
    (hu : P.underlying ty = some d) (hd : (match d with | .struct _ | .array _ _ => true | _ => false) = true) (hi : (P.info? ty).map (·.size) = some cs.size)
    (h : wpList P ops Q rest (a.put o.dst (.agg cs)) w) : wpList P ops Q (o :: rest) a w := by
  unfold wpList
  rw [if_pos hw]
  exact .inl (wp_load_row ty x ho g hx t cs (0, 0) d hg hu hd hi h)
theorem run_load_row {P : Program} {o : Oper} {ρ : Operand → Value} {w : World} (ty : TypeId) (x : Operand) (ho : o.op = .load ty x)
    (g : Nat) (hx : ρ x = .pointer (some ⟨g, 0, none⟩)) (t : TypeId) (cs : Array Value) (d : TypeDesc) (hg : Blk w g t cs)
    (hu : P.underlying ty = some d) (hd : (match d with | .struct _ | .array _ _ => true | _ => false) = true) (hi : (P.info? ty).map (·.size) = some cs.size) : (execOp ρ o).run P w = .ok (.value (.agg cs)) w := by
  unfold execOp
  simp only [ho, hx, Instr.loadAt, Instr.sureAddr, Sem.run_bind, Sem.run_pure, Result.andThen_ok, run_loadVar_row w g t ty cs (0, 0) d hg hu hd hi]
theorem crt_info {cs : Array Value} (h : cs.size = 12) : (Try.prog.info? 32).map (·.size) = some cs.size := by rw [h]; kernel_rfl

theorem pgo_g {P : Program} {ops : Array Oper} {E : Nat → World → World → Prop} {W : List Nat → World → World → Prop} {b : Array Nat} {cls : List Nat} {Fs : List PSpec} {w0 : World} {us : Nat → Value} {o : Oper} {rest : List Oper} {i : Nat} {a : Act} (s : PSpec) (j d : Nat) (want : Bool)
    (hg : o.guard = some (j, want)) (hd : (ops[j]?).bind (·.dst) = some d) (hs : Fs[i]? = some s) (hsz : d < a.tmps.size) (he : ∀ w, PHold Fs us w s.uses → a.eval (.tmp d) = .bool want)
    (h : ∀ (K : Act → World → Prop) (w : World), W (R3.ahead ops.size cls b i) w0 w → PHold Fs us w s.uses → (∀ v w', E (cls.getD i 0) w w' → s.F us v w' → K (a.put o.dst v) w') → o.wp P a w K (fun _ _ _ => False))
    (hr : R3.PGo P ops E W b cls Fs w0 us rest (i + 1) (a.put o.dst (us i))) : R3.PGo P ops E W b cls Fs w0 us (o :: rest) i a := by
  refine ⟨?_, hr⟩
  unfold R3.PStep
  rw [hs]
  intro w hw hu
  have hy : yielded ops a.tmps j = some want := by
    have h1 : a.tmps.getD d undef = .bool want := he w hu
    have h2 : a.tmps[d]? = some (.bool want) := by
      rw [Array.getElem?_eq_getElem hsz]
      rw [Array.getD_eq_getD_getElem?, Array.getElem?_eq_getElem hsz] at h1
      exact congrArg some h1
    unfold yielded
    rw [hd]
    simp only [Option.bind_some, h2]
  rw [if_pos (by unfold Region.wanted; rw [hg]; simp only [hy, BEq.rfl])]
  exact h _ w hw hu fun v w' hE hF => ⟨v, rfl, hE, hF⟩
theorem pgo_gval {P : Program} {ops : Array Oper} {E : Nat → World → World → Prop} {W : List Nat → World → World → Prop} {b : Array Nat} {cls : List Nat} {Fs : List PSpec} {w0 : World} {us : Nat → Value} {o : Oper} {rest : List Oper} {i : Nat} {a : Act} (s : PSpec) (j d : Nat) (want : Bool)
    (hg : o.guard = some (j, want)) (hd : (ops[j]?).bind (·.dst) = some d) (hs : Fs[i]? = some s) (hsz : d < a.tmps.size) (he : ∀ w, PHold Fs us w s.uses → a.eval (.tmp d) = .bool want)
    (h : ∀ (w : World), W (R3.ahead ops.size cls b i) w0 w → PHold Fs us w s.uses → ∃ v w', (execOp a.eval o).run P w = .ok (.value v) w' ∧ E (cls.getD i 0) w w' ∧ s.F us v w')
    (hr : R3.PGo P ops E W b cls Fs w0 us rest (i + 1) (a.put o.dst (us i))) : R3.PGo P ops E W b cls Fs w0 us (o :: rest) i a :=
  pgo_g s j d want hg hd hs hsz he (fun _ w hw hu hK => by
    obtain ⟨v, w', h1, h2, h3⟩ := h w hw hu
    exact wpo_value h1 (hK v w' h2 h3)) hr
theorem wpo_call {P : Program} {o : Oper} {a : Act} {w : World} {K : Act → World → Prop} {Q : Exit → Act → World → Prop} {f : FuncId} {args : Array Value} (hrun : (execOp a.eval o).run P w = .ok (.enter f args) w)
    (hc : Calls P f args w fun e w'' => ∃ v, e = .returned v ∧ K (a.put o.dst v) w'') : o.wp P a w K Q := by
  unfold Oper.wp
  rw [hrun, Oper.upon_enter]
  refine hc.mono fun e w'' hh => ?_
  obtain ⟨v, rfl, hk⟩ := hh
  exact hk
theorem pgo_gcall {P : Program} {ops : Array Oper} {E : Nat → World → World → Prop} {W : List Nat → World → World → Prop} {b : Array Nat} {cls : List Nat} {Fs : List PSpec} {w0 : World} {us : Nat → Value} {o : Oper} {rest : List Oper} {i : Nat} {a : Act} (s : PSpec) (j d : Nat) (want : Bool)
    (hg : o.guard = some (j, want)) (hd : (ops[j]?).bind (·.dst) = some d) (hs : Fs[i]? = some s) (hsz : d < a.tmps.size) (he : ∀ w, PHold Fs us w s.uses → a.eval (.tmp d) = .bool want) (f : FuncId) (args : Array Value)
    (h : ∀ (w : World), W (R3.ahead ops.size cls b i) w0 w → PHold Fs us w s.uses → (execOp a.eval o).run P w = .ok (.enter f args) w ∧ Calls P f args w fun e w'' => ∃ v, e = .returned v ∧ E (cls.getD i 0) w w'' ∧ s.F us v w'')
    (hr : R3.PGo P ops E W b cls Fs w0 us rest (i + 1) (a.put o.dst (us i))) : R3.PGo P ops E W b cls Fs w0 us (o :: rest) i a :=
  pgo_g s j d want hg hd hs hsz he (fun _ w hw hu hK => by
    obtain ⟨h1, h2⟩ := h w hw hu
    exact wpo_call h1 (h2.mono fun e w'' ⟨v, he, hE, hF⟩ => ⟨v, he, hK v w'' hE hF⟩)) hr

set_option maxRecDepth 20000 in
set_option maxHeartbeats 2000000 in
theorem unlike_any (ca cb : Array Value) (x y : Crt) (w : World) (h : CallsC ca x w) (h' : CallsC cb y w) (hs : CrtSm x → ∀ w1, Below w.heap.size w w1 → Calls Try.prog 13 #[.agg ca, .agg cb] w1 (SamePost x y w1)) :
    Calls Try.prog 6 #[.agg ca, .agg cb] w (fun e w' => e = .returned (.bool true) ∧ Below w.heap.size w w') := by
  have H := Lib.hid h
  have H' := Lib.hid h'
  have HS := Lib.hid hs
  have Hs := Lib.hid h.size
  have Hs' := Lib.hid h'.size
  clear h h' hs
  go_enter Try.func6, Try.ntmps6
  have hb0 := ((Below.refl w.heap.size w).alloc (Nat.le_refl _) (.cells ca 32)).alloc (by simp) (.cells cb 32)
  have hx0 := (Blk.new w 32 ca).alloc (.cells cb 32)
  have hy0 := blk_new' (w.alloc (.cells ca 32)) (w.heap.size + 1) 32 cb (by simp)
  have hz0 : ((w.alloc (.cells ca 32)).alloc (.cells cb 32)).heap.size = w.heap.size + 2 := by simp
  go_wp2_with fail
  generalize (w.alloc (.cells ca 32)).alloc (.cells cb 32) = w0 at *
  refine (speaks_any _).mono ?_
  rintro e w1 ⟨rfl, hb1⟩
  have hx1 := hx0.below hb1 (by omega)
  have hy1 := hy0.below hb1 (by omega)
  have HB1 := Lib.hid (hb0.trans (hb1.mono (by omega)))
  have hz1 := hb1.size
  rw [hz0] at hz1
  clear hb0 hx0 hy0 hz0 hb1
  go_wp2_with (first | (refine wpl_load rfl _ _ rfl w.heap.size rfl 32 ca _ hx1 Try.underlying32 rfl (crt_info Hs.out) ?_) | (refine wpl_load rfl _ _ rfl (w.heap.size + 1) rfl 32 cb _ hy1 Try.underlying32 rfl (crt_info Hs'.out) ?_))
  refine (H.out.great w1 HB1.out).mono ?_
  rintro e w2 ⟨g, rfl, hg, hb2⟩
  cases g with
  | true =>
    go_wp2_with fail
    go_ret
    exact ⟨rfl, HB1.out.trans (hb2.mono (by omega))⟩
  | false =>
  have HSm := Lib.hid (hg rfl)
  clear hg
  have hx2 := hx1.below hb2 hx1.lt
  have hy2 := hy1.below hb2 hy1.lt
  have HB2 := Lib.hid (HB1.out.trans (hb2.mono (by omega)))
  have hz2 := hb2.size
  clear hx1 hy1 HB1 hb2
  go_wp2_with (first | (refine wpl_load rfl _ _ rfl w.heap.size rfl 32 ca _ hx2 Try.underlying32 rfl (crt_info Hs.out) ?_) | (refine wpl_load rfl _ _ rfl (w.heap.size + 1) rfl 32 cb _ hy2 Try.underlying32 rfl (crt_info Hs'.out) ?_))
  refine (H'.out.great w2 HB2.out).mono ?_
  rintro e w3 ⟨g, rfl, hg, hb3⟩
  cases g with
  | true =>
    go_wp2_with fail
    go_ret
    exact ⟨rfl, HB2.out.trans (hb3.mono (by omega))⟩
  | false =>
  have HSm' := Lib.hid (hg rfl)
  clear hg
  have hx3 := hx2.below hb3 hx2.lt
  have hy3 := hy2.below hb3 hy2.lt
  have HB3 := Lib.hid (HB2.out.trans (hb3.mono (by omega)))
  have hz3 := hb3.size
  clear hx2 hy2 HB2 hb3
  go_wp2_with (first | (refine wpl_load rfl _ _ rfl w.heap.size rfl 32 ca _ hx3 Try.underlying32 rfl (crt_info Hs.out) ?_) | (refine wpl_load rfl _ _ rfl (w.heap.size + 1) rfl 32 cb _ hy3 Try.underlying32 rfl (crt_info Hs'.out) ?_))
  refine (H.out.laid w3).mono ?_
  rintro e w4 ⟨rfl, hb4⟩
  have hx4 := hx3.below hb4 hx3.lt
  have hy4 := hy3.below hb4 hy3.lt
  have HB4 := Lib.hid (HB3.out.trans (hb4.mono (by omega)))
  have hz4 := hb4.size
  clear hx3 hy3 HB3 hb4
  go_wp2_with fail
  refine (H.out.enc HSm.out.le w4 HB4.out).mono ?_
  rintro e w5 ⟨hb5, hn5, hs5⟩
  have hx5 := hx4.below hb5 hx4.lt
  have hy5 := hy4.below hb5 hy4.lt
  have HB5 := Lib.hid (HB4.out.trans (hb5.mono (by omega)))
  have hz5 := hb5.size
  clear hx4 hy4 HB4 hb5
  have HE := Lib.hid (show (∃ (A : Option Addr) (n c : Nat), e = .returned (.tuple #[.slice A n c, .int .i64 1]) ∧ encF x = none) ∨ (∃ (A : Option Addr) (c : Nat) (b : List Int), e = .returned (.tuple #[.slice A b.length c, .int .i64 0]) ∧ b.length ≤ c ∧ Cells w5 w5.heap.size A (byteCells b) ∧ encF x = some b) from by
    cases hE : encF x with
    | none => exact .inl ⟨none, 0, 0, hn5 hE, rfl⟩
    | some b =>
      obtain ⟨A, c, h1, h2, h3⟩ := hs5 b hE
      exact .inr ⟨A, c, b, h1, h2, h3, rfl⟩)
  clear hn5 hs5
  rcases HE.out with ⟨Ax, nx, cx, rfl, _⟩ | ⟨Ax, cx, bx, rfl, hlx, hCx, hEx⟩
  · clear HE
    go_wp2_with (first | (refine wpl_load rfl _ _ rfl w.heap.size rfl 32 ca _ hx5 Try.underlying32 rfl (crt_info Hs.out) ?_) | (refine wpl_load rfl _ _ rfl (w.heap.size + 1) rfl 32 cb _ hy5 Try.underlying32 rfl (crt_info Hs'.out) ?_))
    refine (H'.out.laid w5).mono ?_
    rintro e w6 ⟨rfl, hb6⟩
    have HB6 := Lib.hid (HB5.out.trans (hb6.mono (by omega)))
    have hz6 := hb6.size
    clear hx5 hy5 HB5 hb6
    go_wp2_with fail
    refine (H'.out.enc HSm'.out.le w6 HB6.out).mono ?_
    rintro e w7 ⟨hb7, hn7, hs7⟩
    have HB7 := Lib.hid (HB6.out.trans (hb7.mono (by omega)))
    clear hb7
    cases hE : encF y with
    | none =>
      obtain rfl := hn7 hE
      clear hn7 hs7 hE
      go_wp2_with fail
      go_quiet (fail)
      go_wp2_with fail
      go_ret
      exact ⟨rfl, below_drewN HB7.out _⟩
    | some b =>
      obtain ⟨A7, c7, rfl, _, _⟩ := hs7 b hE
      clear hn7 hs7 hE
      go_wp2_with fail
      go_quiet (fail)
      go_wp2_with fail
      go_ret
      exact ⟨rfl, below_drewN HB7.out _⟩
  clear HE
  have HCx := Lib.hid hCx
  have HEx := Lib.hid hEx
  clear hCx hEx
  go_wp2_with (first | (refine wpl_load rfl _ _ rfl w.heap.size rfl 32 ca _ hx5 Try.underlying32 rfl (crt_info Hs.out) ?_) | (refine wpl_load rfl _ _ rfl (w.heap.size + 1) rfl 32 cb _ hy5 Try.underlying32 rfl (crt_info Hs'.out) ?_))
  refine (H'.out.laid w5).mono ?_
  rintro e w6 ⟨rfl, hb6⟩
  have hx6 := hx5.below hb6 hx5.lt
  have hy6 := hy5.below hb6 hy5.lt
  have HB6 := Lib.hid (HB5.out.trans (hb6.mono (by omega)))
  have HCx6 := Lib.hid (HCx.out.below hb6)
  have hz6 := hb6.size
  clear hx5 hy5 HB5 hb6
  go_wp2_with fail
  refine (H'.out.enc HSm'.out.le w6 HB6.out).mono ?_
  rintro e w7 ⟨hb7, hn7, hs7⟩
  have hx7 := hx6.below hb7 hx6.lt
  have hy7 := hy6.below hb7 hy6.lt
  have HB7 := Lib.hid (HB6.out.trans (hb7.mono (by omega)))
  have HCx7 := Lib.hid (HCx6.out.below (hb7.mono hz6))
  have hz7 := hb7.size
  clear hx6 hy6 HB6 hb7
  cases hE : encF y with
  | none =>
    obtain rfl := hn7 hE
    clear hn7 hs7 hE
    go_wp2_with fail
    go_quiet (fail)
    go_wp2_with fail
    go_ret
    exact ⟨rfl, below_drewN HB7.out _⟩
  | some bY =>
  obtain ⟨A7, c7, rfl, hl7, hC7⟩ := hs7 bY hE
  have HC7 := Lib.hid hC7
  have hcv1 := conv_bytes w7 HCx7.out bx.length cx rfl
  have hcv2 := conv_bytes w7 HC7.out bY.length c7 rfl
  have HQ := Lib.hid (show ((strOfNums bx).toList == (strOfNums bY).toList) = decide (x = y) by
    rw [str_beq (encF_bytes HEx.out) (encF_bytes hE)]
    by_cases he : x = y
    · subst he
      have := HEx.out.symm.trans hE
      injection this with this
      rw [decide_eq_true this, decide_eq_true rfl]
    · rw [decide_eq_false he, decide_eq_false]
      intro e
      subst e
      exact he (enc_inj HEx.out hE))
  clear hn7 hs7 hE hC7
  obtain ⟨S1, hS1⟩ : ∃ S, S = strOfNums bx := ⟨_, rfl⟩
  obtain ⟨S2, hS2⟩ : ∃ S, S = strOfNums bY := ⟨_, rfl⟩
  rw [← hS1, ← hS2] at HQ
  have HS1 := Lib.hid hS1
  have HS2 := Lib.hid hS2
  clear hcv1 hcv2 hS1 hS2
  go_wp2_with fail
  refine R3.wp_region_i 0 [[]] [0, 0, 0, 0, 0, 0, 0, 0, 0, 0, 0, 0, 0, 0, 0, 0, 0, 0]
    [([], .val (.int .i64 0)), ([0], .val (.bool false)), ([1], .val (.bool false)), ([2], .val (.int .i64 0)), ([2, 3], .val (.bool false)), ([2, 4], .val (.bool false)), ([5], .val (.bool false)), ([6], .val (.slice Ax bx.length cx)), ([6, 7], .val (.string S1)), ([6], .val (.slice A7 bY.length c7)), ([6, 9], .val (.string S2)), ([6, 8, 10], .val (.bool (decide (x = y)))), ([6], .val (.agg ca)), ([6], .val (.agg cb)), ([6, 12, 13], .val (.bool (decide (x = y)))), ([6, 11, 14], .val (.bool true)), ([6, 15], .val (.bool true)), ([16], .val (.bool true))] [17] (by kernel_rfl) (by kernel_rfl) (fun us => ?_) ?_
  · refine R3.pgo_pure _ rfl rfl (fun wv hw hu => ⟨.int .i64 0, ?_, rfl⟩) ?_
    · have tok := True.intro
      clear hw hu
      go_simp
    refine R3.pgo_pure _ rfl rfl (fun wv hw hu => ⟨.bool false, ?_, rfl⟩) ?_
    · have tok := True.intro
      have h0 : us 0 = .int .i64 0 := hu.1
      clear hw hu
      go_simp
    refine R3.pgo_pure _ rfl rfl (fun wv hw hu => ⟨.bool false, ?_, rfl⟩) ?_
    · have tok := True.intro
      have h1 : us 1 = .bool false := hu.1
      clear hw hu
      go_simp
    refine pgo_gval _ 2 31 false rfl rfl rfl (by simp [put_size]) (fun wv hu => by
        have hg : us 2 = .bool false := hu.1
        exact (by repeat (first | (with_reducible exact (put_eval_same _ _ _ (by simp [put_size])).trans hg) | (with_reducible refine put_eval _ _ _ _ _ (by decide) ?_)))) (fun wv hw hu => ⟨.int .i64 0, wv, ?_, Evo.refl _ _ _, rfl⟩) ?_
    · have tok := True.intro
      have h2 : us 2 = .bool false := hu.1
      clear hw hu
      go_simp
    refine pgo_gval _ 2 31 false rfl rfl rfl (by simp [put_size]) (fun wv hu => by
        have hg : us 2 = .bool false := hu.1
        exact (by repeat (first | (with_reducible exact (put_eval_same _ _ _ (by simp [put_size])).trans hg) | (with_reducible refine put_eval _ _ _ _ _ (by decide) ?_)))) (fun wv hw hu => ⟨.bool false, wv, ?_, Evo.refl _ _ _, rfl⟩) ?_
    · have tok := True.intro
      have h2 : us 2 = .bool false := hu.1
      have h3 : us 3 = .int .i64 0 := hu.2.1
      clear hw hu
      go_simp
    refine R3.pgo_pure _ rfl rfl (fun wv hw hu => ⟨.bool false, ?_, rfl⟩) ?_
    · have tok := True.intro
      have h2 : us 2 = .bool false := hu.1
      have h4 : us 4 = .bool false := hu.2.1
      clear hw hu
      go_simp
    refine R3.pgo_pure _ rfl rfl (fun wv hw hu => ⟨.bool false, ?_, rfl⟩) ?_
    · have tok := True.intro
      have h5 : us 5 = .bool false := hu.1
      clear hw hu
      go_simp
    refine pgo_gval _ 6 35 false rfl rfl rfl (by simp [put_size]) (fun wv hu => by
        have hg : us 6 = .bool false := hu.1
        exact (by repeat (first | (with_reducible exact (put_eval_same _ _ _ (by simp [put_size])).trans hg) | (with_reducible refine put_eval _ _ _ _ _ (by decide) ?_)))) (fun wv hw hu => ⟨.slice Ax bx.length cx, wv, ?_, Evo.refl _ _ _, rfl⟩) ?_
    · have tok := True.intro
      have h6 : us 6 = .bool false := hu.1
      clear hw hu
      go_simp
    refine pgo_gval _ 6 35 false rfl rfl rfl (by simp [put_size]) (fun wv hu => by
        have hg : us 6 = .bool false := hu.1
        exact (by repeat (first | (with_reducible exact (put_eval_same _ _ _ (by simp [put_size])).trans hg) | (with_reducible refine put_eval _ _ _ _ _ (by decide) ?_)))) (fun wv hw hu => ⟨.string S1, wv, ?_, Evo.refl _ _ _, rfl⟩) ?_
    · have tok := True.intro
      have h6 : us 6 = .bool false := hu.1
      have h7 : us 7 = .slice Ax bx.length cx := hu.2.1
      have hcv := conv_bytes wv (HCx7.out.below (below_undrew (evo_nil (by kernel_rfl) hw)|>.mono (Nat.le_trans hz6 hz7))) bx.length cx rfl
      rw [← HS1.out] at hcv
      clear hw hu
      go_simp
    refine pgo_gval _ 6 35 false rfl rfl rfl (by simp [put_size]) (fun wv hu => by
        have hg : us 6 = .bool false := hu.1
        exact (by repeat (first | (with_reducible exact (put_eval_same _ _ _ (by simp [put_size])).trans hg) | (with_reducible refine put_eval _ _ _ _ _ (by decide) ?_)))) (fun wv hw hu => ⟨.slice A7 bY.length c7, wv, ?_, Evo.refl _ _ _, rfl⟩) ?_
    · have tok := True.intro
      have h6 : us 6 = .bool false := hu.1
      clear hw hu
      go_simp
    refine pgo_gval _ 6 35 false rfl rfl rfl (by simp [put_size]) (fun wv hu => by
        have hg : us 6 = .bool false := hu.1
        exact (by repeat (first | (with_reducible exact (put_eval_same _ _ _ (by simp [put_size])).trans hg) | (with_reducible refine put_eval _ _ _ _ _ (by decide) ?_)))) (fun wv hw hu => ⟨.string S2, wv, ?_, Evo.refl _ _ _, rfl⟩) ?_
    · have tok := True.intro
      have h6 : us 6 = .bool false := hu.1
      have h9 : us 9 = .slice A7 bY.length c7 := hu.2.1
      have hcv := conv_bytes wv (HC7.out.below (below_undrew (evo_nil (by kernel_rfl) hw)|>.mono (Nat.le_refl _))) bY.length c7 rfl
      rw [← HS2.out] at hcv
      clear hw hu
      go_simp
    refine pgo_gval _ 6 35 false rfl rfl rfl (by simp [put_size]) (fun wv hu => by
        have hg : us 6 = .bool false := hu.1
        exact (by repeat (first | (with_reducible exact (put_eval_same _ _ _ (by simp [put_size])).trans hg) | (with_reducible refine put_eval _ _ _ _ _ (by decide) ?_)))) (fun wv hw hu => ⟨.bool (decide (x = y)), wv, ?_, Evo.refl _ _ _, rfl⟩) ?_
    · have tok := True.intro
      have h6 : us 6 = .bool false := hu.1
      have h8 : us 8 = .string S1 := hu.2.1
      have h10 : us 10 = .string S2 := hu.2.2.1
      have hq := HQ.out
      clear hw hu
      go_simp
    refine pgo_gval _ 6 35 false rfl rfl rfl (by simp [put_size]) (fun wv hu => by
        have hg : us 6 = .bool false := hu.1
        exact (by repeat (first | (with_reducible exact (put_eval_same _ _ _ (by simp [put_size])).trans hg) | (with_reducible refine put_eval _ _ _ _ _ (by decide) ?_)))) (fun wv hw hu => ⟨.agg ca, wv, ?_, Evo.refl _ _ _, rfl⟩) ?_
    · have tok := True.intro
      have h6 : us 6 = .bool false := hu.1
      have hbv := hx7.below (below_undrew (evo_nil (by kernel_rfl) hw)) hx7.lt
      exact run_load_row _ _ rfl (w.heap.size) (by (repeat (with_reducible refine put_eval _ _ _ _ _ (by decide) ?_)); rfl) 32 ca _ hbv Try.underlying32 rfl (crt_info Hs.out)
    refine pgo_gval _ 6 35 false rfl rfl rfl (by simp [put_size]) (fun wv hu => by
        have hg : us 6 = .bool false := hu.1
        exact (by repeat (first | (with_reducible exact (put_eval_same _ _ _ (by simp [put_size])).trans hg) | (with_reducible refine put_eval _ _ _ _ _ (by decide) ?_)))) (fun wv hw hu => ⟨.agg cb, wv, ?_, Evo.refl _ _ _, rfl⟩) ?_
    · have tok := True.intro
      have h6 : us 6 = .bool false := hu.1
      have hbv := hy7.below (below_undrew (evo_nil (by kernel_rfl) hw)) hy7.lt
      exact run_load_row _ _ rfl (w.heap.size + 1) (by (repeat (with_reducible refine put_eval _ _ _ _ _ (by decide) ?_)); rfl) 32 cb _ hbv Try.underlying32 rfl (crt_info Hs'.out)
    refine pgo_gcall _ 6 35 false rfl rfl rfl (by simp [put_size]) (fun wv hu => by
        have hg : us 6 = .bool false := hu.1
        exact (by repeat (first | (with_reducible exact (put_eval_same _ _ _ (by simp [put_size])).trans hg) | (with_reducible refine put_eval _ _ _ _ _ (by decide) ?_)))) 13 #[.agg ca, .agg cb] (fun wv hw hu => ?_) ?_
    · have tok := True.intro
      have h6 : us 6 = .bool false := hu.1
      have h12 : us 12 = .agg ca := hu.2.1
      have h13 : us 13 = .agg cb := hu.2.2.1
      have hbv := evo_nil (by kernel_rfl) hw
      refine ⟨?_, (HS.out HSm.out wv (HB7.out.trans (below_undrew (hbv.mono HB7.out.size)))).mono fun e w'' he => ⟨_, he.1, Evo.of_below he.2, rfl⟩⟩
      clear hw hu hbv
      go_simp
    refine pgo_gval _ 6 35 false rfl rfl rfl (by simp [put_size]) (fun wv hu => by
        have hg : us 6 = .bool false := hu.1
        exact (by repeat (first | (with_reducible exact (put_eval_same _ _ _ (by simp [put_size])).trans hg) | (with_reducible refine put_eval _ _ _ _ _ (by decide) ?_)))) (fun wv hw hu => ⟨.bool true, wv, ?_, Evo.refl _ _ _, rfl⟩) ?_
    · have tok := True.intro
      have h6 : us 6 = .bool false := hu.1
      have h11 : us 11 = .bool (decide (x = y)) := hu.2.1
      have h14 : us 14 = .bool (decide (x = y)) := hu.2.2.1
      have hbb : (decide (x = y) == decide (x = y)) = true := by simp
      clear hw hu
      go_simp
    refine R3.pgo_pure _ rfl rfl (fun wv hw hu => ⟨.bool true, ?_, rfl⟩) ?_
    · have tok := True.intro
      have h6 : us 6 = .bool false := hu.1
      have h15 : us 15 = .bool true := hu.2.1
      clear hw hu
      go_simp
    refine R3.pgo_pure _ rfl rfl (fun wv hw hu => ⟨.bool true, ?_, rfl⟩) ?_
    · have tok := True.intro
      have h16 : us 16 = .bool true := hu.1
      clear hw hu
      go_simp
    trivial
  · intro us w' hw hu
    have h17 : us 17 = .bool true := hu.1
    have hbl := HB7.out.trans (below_undrew ((hw.below (Nat.zero_le _) |> fun _ => evo_nil (by kernel_rfl) hw).mono HB7.out.size))
    have HBL := Lib.hid hbl
    clear hw hu hbl
    simp only [lexL]
    go_simp
    go_wp2_with fail
    go_ret
    exact ⟨rfl, HBL.out⟩
end Go.Proofs.Ytmlbjcngboegfaa
