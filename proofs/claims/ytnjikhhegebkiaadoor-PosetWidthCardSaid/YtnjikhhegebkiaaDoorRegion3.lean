/-
  The rule for regions that draw their order, told by the operation: an operation sees what those may have done that may stand ahead of it, and no others. (XRegion told anew.) Written by an AI agent.
-/
import Derived.Test.YtnjikhhegebkiaaDoorRegion2
namespace Go.Proofs.YtnjikhhegebkiaaDoor.R3
open Go.RowKit

/-- the classes of the operations that may stand ahead of operation i -/
def ahead (n : Nat) (cls : List Nat) (b : Array Nat) (i : Nat) : List Nat := ((List.range n).filter fun d => d != i && !dep b d i).map fun d => cls.getD d 0
def allC (n : Nat) (cls : List Nat) : List Nat := (List.range n).map fun d => cls.getD d 0

def PStep (P : Program) (ops : Array Oper) (E : Nat → World → World → Prop) (W : List Nat → World → World → Prop) (b : Array Nat) (cls : List Nat) (Fs : List PSpec) (w0 : World) (us : Nat → Value) (o : Oper) (i : Nat) (a : Act) : Prop :=
  match Fs[i]? with
  | none => False
  | some s => ∀ w, W (ahead ops.size cls b i) w0 w → PHold Fs us w s.uses →
    if Region.wanted o (yielded ops a.tmps) = true then o.wp P a w (PYields (E (cls.getD i 0)) (s.F us) o.dst a w) (fun _ _ _ => False) else s.F us undef w

def PGo (P : Program) (ops : Array Oper) (E : Nat → World → World → Prop) (W : List Nat → World → World → Prop) (b : Array Nat) (cls : List Nat) (Fs : List PSpec) (w0 : World) (us : Nat → Value) : List Oper → Nat → Act → Prop
  | [], _, _ => True
  | o :: rest, i, a => PStep P ops E W b cls Fs w0 us o i a ∧ PGo P ops E W b cls Fs w0 us rest (i + 1) (a.put o.dst (us i))

section
variable {P : Program} {ops : Array Oper} {E : Nat → World → World → Prop} {W : List Nat → World → World → Prop} {cls : List Nat} {Fs : List PSpec} {fin : List Nat} {b : Array Nat} {a0 : Act} {w0 : World} {us : Nat → Value}

/-- the state behind some of the operations -/
structure PInv (ops : Array Oper) (W : List Nat → World → World → Prop) (cls : List Nat) (Fs : List PSpec) (b : Array Nat) (a0 : Act) (w0 : World) (us : Nat → Value) (L : Nat → Bool) (a : Act) (w : World) : Prop where
  size : a.tmps.size = a0.tmps.size
  defers : a.defers = a0.defers
  set : ∀ (j : Nat) (t : Tmp), L j = true → ((ops[j]?).bind (·.dst)) = some t → t < a0.tmps.size → a.tmps[t]? = some (us j)
  un : ∀ t : Tmp, (∀ j : Nat, L j = true → ((ops[j]?).bind (·.dst)) ≠ some t) → a.tmps[t]? = a0.tmps[t]?
  world : ∀ C, (∀ d, L d = true → cls.getD d 0 ∈ C) → W C w0 w
  facts : ∀ (j : Nat) (s : PSpec), Fs[j]? = some s → L j = true → (∀ d, killsB cls s.bad d = true → L d = true → dep b j d = true ∨ d = j) → s.F us (us j) w
  closed : ∀ j k, L j = true → dep b j k = true → L k = true
  bound : ∀ j, L j = true → j < ops.size

theorem step_inv (hok : POk ops cls Fs fin b) (hW : ∀ C a b c, W C a b → W C b c → W C a c) (hRW : ∀ C c a b, c ∈ C → E c a b → W C a b) (hR : ∀ c a, E c a a)
    (hst : ∀ s ∈ Fs, ∀ c, s.bad.contains c = false → ∀ us v w w', E c w w' → s.F us v w → s.F us v w')
    (hcg : ∀ s ∈ Fs, ∀ us us', (∀ j ∈ s.uses, us j = us' j) → ∀ v w, s.F us v w → s.F us' v w)
    {i : Nat} {o : Oper} {L : Nat → Bool} {a : Act} {w : World} {Q : Exit → Act → World → Prop} (hi : ops[i]? = some o) (hLi : L i = false) (hready : ∀ e ∈ o.after, Region.binds .any e = true → L e.on = true)
    (hinv : PInv ops W cls Fs b a0 w0 us L a w) (hstep : PStep P ops E W b cls Fs w0 us o i (lexAt ops us i a0)) :
    wpOp P ops Q i (fun a' w' => ∃ us', PInv ops W cls Fs b a0 w0 us' (fun k => k == i || L k) a' w') a w := by
  have hib : i < ops.size := (Array.getElem?_eq_some_iff.1 hi).1
  have hdeps : ∀ j, dep b i j = true → L j = true := by
    intro j hj
    obtain ⟨e, he, hbd, h⟩ := hok.clo i o hi j (hok.small i j hib hj) hj
    rcases h with h | h
    · rw [← h]; exact hready e he hbd
    · exact hinv.closed _ _ (hready e he hbd) h
  have hlook : ∀ t ∈ o.looksAt ops, a.tmps[t]? = (lexAt ops us i a0).tmps[t]? := fun t ht =>
    lex_eval hi hLi hinv.set hinv.un hinv.size hinv.closed hdeps hok.uniq (hok.look i o hi t ht)
  have hexec : execOp a.eval o = execOp (lexAt ops us i a0).eval o := execOp_congr o (hok.sel i o hi) (eval_congr hlook)
  -- the new state
  have next : ∀ (s : PSpec) (v : Value) (w' : World), Fs[i]? = some s → E (cls.getD i 0) w w' → s.F us v w' →
      ∃ us', PInv ops W cls Fs b a0 w0 us' (fun k => k == i || L k) (a.put o.dst v) w' := by
    intro s v w' hs hww hF
    have hne : ∀ j, L j = true → j ≠ i := fun j hj e => by rw [e, hLi] at hj; cases hj
    have hdi : (ops[i]?).bind (·.dst) = o.dst := by rw [hi]; rfl
    refine ⟨fun k => if k = i then v else us k, ?_, ?_, ?_, ?_, fun C hC => hW C _ _ _ (hinv.world C fun d hd => hC d (by simp [hd])) (hRW C _ _ _ (hC i (by simp)) hww), ?_, ?_, ?_⟩
    · rw [put_size, hinv.size]
    · rw [put_defers, hinv.defers]
    · intro j t hj hjt hts
      by_cases hji : j = i
      · subst hji
        rw [hdi] at hjt
        rw [hjt, put_got _ _ _ (by rw [hinv.size]; exact hts), if_pos rfl]
      · have hLj : L j = true := by simpa [hji] using hj
        rw [put_get _ _ _ _ (fun e => hji (hok.uniq j i t hjt (by rw [hdi]; exact e))), hinv.set j t hLj hjt hts, if_neg hji]
    · intro t ht
      rw [put_get _ _ _ _ (fun e => ht i (by simp) (by rw [hdi]; exact e)), hinv.un t fun j hj => ht j (by simp [hj])]
    · intro j s' hs' hj hcond
      have hmem : s' ∈ Fs := List.mem_of_getElem? hs'
      by_cases hji : j = i
      · subst hji
        rw [if_pos rfl]
        refine hcg s' hmem us _ (fun k hk => ?_) _ _ ?_
        · have hkL := hdeps k (hok.uses j s' hib hs' k hk).1
          rw [if_neg (hne k hkL)]
        · rw [hs] at hs'; injection hs' with hs'; subst hs'; exact hF
      · have hLj : L j = true := by simpa [hji] using hj
        rw [if_neg hji]
        refine hcg s' hmem us _ (fun k hk => ?_) _ _ ?_
        · have hkL := hinv.closed j k hLj (hok.uses j s' (hinv.bound j hLj) hs' k hk).1
          rw [if_neg (hne k hkL)]
        · cases hk : killsB cls s'.bad i with
          | true =>
            rcases hcond i hk (by simp) with h2 | h2
            · have := hinv.closed j i hLj h2; rw [hLi] at this; cases this
            · exact absurd h2.symm hji
          | false => exact hst s' hmem _ hk _ _ _ _ hww (hinv.facts j s' hs' hLj (fun d hd hLd => hcond d hd (by simp [hLd])))
    · intro j k hj hjk
      by_cases hji : j = i
      · subst hji; simp [hdeps k hjk]
      · have hLj : L j = true := by simpa [hji] using hj
        simp [hinv.closed j k hLj hjk]
    · intro j hj
      by_cases hji : j = i
      · subst hji; exact hib
      · exact hinv.bound j (by simpa [hji] using hj)
  unfold PStep at hstep
  cases hs : Fs[i]? with
  | none => rw [hs] at hstep; exact hstep.elim
  | some s =>
    rw [hs] at hstep
    have hh := hstep w (hinv.world _ fun d hd => List.mem_map.2 ⟨d, List.mem_filter.2 ⟨List.mem_range.2 (hinv.bound d hd), by
      have h1 : d ≠ i := fun e => by rw [e, hLi] at hd; cases hd
      have h2 : dep b d i = false := by
        cases h : dep b d i with
        | false => rfl
        | true => have := hinv.closed d i hd h; rw [hLi] at this; cases this
      simp [h1, h2]⟩, rfl⟩) (PHold_of fun j hj s' hs' => by
      obtain ⟨h1, h2, h3⟩ := hok.uses i s hib hs j hj
      refine hinv.facts j s' hs' (hdeps j h1) (fun d hd hLd => ?_)
      rcases h3 s' hs' d (hinv.bound d hLd) hd with h4 | h4 | h4 | h4
      · rw [h4, hLi] at hLd; cases hLd
      · have := hinv.closed d i hLd h4; rw [hLi] at this; cases this
      · exact .inl h4
      · exact .inr h4)
    rw [← wanted_congr hlook] at hh
    unfold wpOp
    simp only [hi]
    by_cases hw : Region.wanted o (yielded ops a.tmps) = true
    · rw [if_pos hw] at hh ⊢
      refine .inl ?_
      unfold Oper.wp at hh ⊢
      rw [hexec]
      refine upon_transfer _ (fun v w' hk => ?_) (fun d w' hk => ?_) hh
      · obtain ⟨u, hu, hE, hF⟩ := hk
        by_cases hd : o.dst = none
        · -- nothing is written: the value is the fact's own
          rw [show a.put o.dst v = a.put o.dst u by rw [hd]; rfl]
          exact next s u w' hs hE hF
        · obtain ⟨t, ht⟩ := Option.ne_none_iff_exists'.1 hd
          by_cases hts : t < a0.tmps.size
          · have e1 := put_got (lexAt ops us i a0) v t (by rw [lexAt_size]; exact hts)
            have e2 := put_got (lexAt ops us i a0) u t (by rw [lexAt_size]; exact hts)
            rw [ht] at hu
            rw [hu, e2] at e1
            injection e1 with e1
            subst e1
            exact next s u w' hs hE hF
          · have e3 : ∀ x : Value, a.put o.dst x = a := fun x => by
              rw [ht]; unfold Act.put
              simp only
              rw [Array.setIfInBounds_eq_of_size_le (by rw [hinv.size]; exact Nat.not_lt.1 hts)]
            rw [e3 v, ← e3 u]
            exact next s u w' hs hE hF
      · obtain ⟨u, hu, _, _⟩ := hk
        have := congrArg Act.defers hu
        rw [put_defers, put_defers] at this
        have := congrArg List.length this
        simp at this
    · rw [if_neg hw] at hh ⊢
      exact next s undef w hs (hR _ w) hh

theorem PGo_at {l : List Oper} {k : Nat} {a : Act} (h : PGo P ops E W b cls Fs w0 us l k a) : ∀ (d : Nat) (o : Oper), l[d]? = some o → ∃ a', a' = (List.range d).foldl (fun x j => x.put ((l[j]?).bind (·.dst)) (us (k + j))) a ∧ PStep P ops E W b cls Fs w0 us o (k + d) a' := by
  induction l generalizing k a with
  | nil => intro d o hd; simp at hd
  | cons x r ih =>
    intro d o hd
    cases d with
    | zero =>
      simp only [List.getElem?_cons_zero, Option.some.injEq] at hd
      subst hd
      exact ⟨a, rfl, h.1⟩
    | succ d =>
      obtain ⟨a', ha', hs⟩ := ih h.2 d o (by simpa using hd)
      refine ⟨a', ?_, by rw [← Nat.add_assoc, Nat.add_right_comm]; exact hs⟩
      rw [ha', List.range_succ_eq_map, List.foldl_cons, List.foldl_map]
      simp only [List.getElem?_cons_zero, Option.bind_some, Nat.add_zero, List.getElem?_cons_succ, Nat.add_succ, Nat.succ_add]
theorem PGo_lex (h : PGo P ops E W b cls Fs w0 us ops.toList 0 a0) {i : Nat} {o : Oper} (hi : ops[i]? = some o) : PStep P ops E W b cls Fs w0 us o i (lexAt ops us i a0) := by
  obtain ⟨a', ha', hs⟩ := PGo_at h i o (by simpa using hi)
  rw [lexAt_fold, ← ha']
  simpa using hs

theorem any_inv (hok : POk ops cls Fs fin b) (hW : ∀ C a b c, W C a b → W C b c → W C a c) (hRW : ∀ C c a b, c ∈ C → E c a b → W C a b) (hR : ∀ c a, E c a a)
    (hst : ∀ s ∈ Fs, ∀ c, s.bad.contains c = false → ∀ us v w w', E c w w' → s.F us v w → s.F us v w')
    (hcg : ∀ s ∈ Fs, ∀ us us', (∀ j ∈ s.uses, us j = us' j) → ∀ v w, s.F us v w → s.F us' v w) {Q : Exit → Act → World → Prop}
    (hgo : ∀ us, PGo P ops E W b cls Fs w0 us ops.toList 0 a0)
    (hfin : ∀ us w, W (allC ops.size cls) w0 w → PHold Fs us w fin → Q .normal (lexAt ops us ops.size a0) w) :
    ∀ (fuel : Nat) (listed : Array Bool) (a : Act) (w : World), listed.size = ops.size → listed.toList.count false ≤ fuel →
      (∃ us, PInv ops W cls Fs b a0 w0 us (getB listed) a w) → wpAny P .any ops Q fuel listed a w := by
  -- where nothing is ready all is done
  have done : ∀ (listed : Array Bool) (a : Act) (w : World), listed.size = ops.size → Region.ready .any ops listed = [] → (∃ us, PInv ops W cls Fs b a0 w0 us (getB listed) a w) → Q .normal a w := by
    intro listed a w hsz hr ⟨us, hinv⟩
    have hall : ∀ i, i < ops.size → getB listed i = true := by
      intro i
      induction i using Nat.strongRecOn with
      | _ i ih =>
        intro hi
        cases hL : getB listed i with
        | true => rfl
        | false =>
          exfalso
          have : i ∈ Region.ready .any ops listed := by
            unfold Region.ready
            rw [List.mem_filter]
            refine ⟨List.mem_range.2 hi, ?_⟩
            have e1 : listed.getD i true = false := by
              unfold getB at hL
              simp only [Array.getD_eq_getD_getElem?] at hL ⊢
              rw [Array.getElem?_eq_getElem (by omega)] at hL ⊢
              exact hL
            simp only [e1, Bool.not_false, Bool.true_and, Array.getElem?_eq_getElem hi, Option.map_some, Option.getD_some]
            rw [Array.all_eq_true_iff_forall_mem]
            intro e he
            cases hbd : Region.binds .any e with
            | false => rfl
            | true =>
              obtain ⟨h1, _⟩ := hok.back i _ (Array.getElem?_eq_getElem hi) e he hbd
              have := ih e.on h1 (by omega)
              unfold getB at this
              rw [this]; simp
          rw [hr] at this
          cases this
    have ha : a = lexAt ops us ops.size a0 := by
      have h1 : a.tmps = (lexAt ops us ops.size a0).tmps := by
        refine Array.ext_getElem? fun t => ?_
        by_cases hex : ∃ j : Nat, ((ops[j]?).bind (·.dst)) = some t
        · obtain ⟨j, hj⟩ := hex
          have hjs : j < ops.size := by
            rcases Nat.lt_or_ge j ops.size with h | h
            · exact h
            · rw [Array.getElem?_eq_none h] at hj; simp at hj
          by_cases hts : t < a0.tmps.size
          · rw [hinv.set j t (hall j hjs) hj hts, lexAt_set ops.size j t hjs hj hts fun k _ hkj hk => hkj (hok.uniq k j t hk hj)]
          · rw [Array.getElem?_eq_none (by rw [hinv.size]; exact Nat.not_lt.1 hts), Array.getElem?_eq_none (by rw [lexAt_size]; exact Nat.not_lt.1 hts)]
        · have h1 := hinv.un t (fun k _ hk => hex ⟨k, hk⟩)
          have h2 := lexAt_un (ops := ops) (us := us) (a0 := a0) ops.size t (fun k _ hk => hex ⟨k, hk⟩)
          rw [h1, h2]
      have h2 : a.defers = (lexAt ops us ops.size a0).defers := by rw [hinv.defers, lexAt_defers]
      cases a
      cases hq : lexAt ops us ops.size a0
      rw [hq] at h1 h2
      simp only at h1 h2
      rw [h1, h2]
    rw [ha]
    refine hfin us w (hinv.world _ fun d hd => List.mem_map.2 ⟨d, List.mem_range.2 (hinv.bound d hd), rfl⟩) (PHold_of fun j hj s hs => ?_)
    refine hinv.facts j s hs (hall j (hok.fins j hj)) (fun d hd hLd => hok.last j hj s hs d (hinv.bound d hLd) hd)
  intro fuel
  induction fuel with
  | zero =>
    intro listed a w hsz hc hinv
    have hr : Region.ready .any ops listed = [] := by
      unfold Region.ready
      rw [List.filter_eq_nil_iff]
      intro i hi
      have hi := List.mem_range.1 hi
      have : listed.getD i true = true := by
        cases h : listed.getD i true with
        | true => rfl
        | false =>
          exfalso
          have hm : false ∈ listed.toList := by
            simp only [Array.getD_eq_getD_getElem?] at h
            rw [Array.getElem?_eq_getElem (by omega)] at h
            simp only [Option.getD_some] at h
            rw [← h]; exact Array.getElem_mem_toList _
          have := List.count_pos_iff.2 hm
          omega
      rw [this]; simp
    exact ⟨hr, done listed a w hsz hr hinv⟩
  | succ fuel ih =>
    intro listed a w hsz hc hinv
    refine ⟨fun hr => done listed a w hsz hr hinv, fun i hi => ?_⟩
    obtain ⟨us, hinv⟩ := hinv
    unfold Region.ready at hi
    rw [List.mem_filter] at hi
    obtain ⟨hib, hr⟩ := hi
    have hib := List.mem_range.1 hib
    rw [Array.getElem?_eq_getElem hib] at hr
    simp only [Option.map_some, Option.getD_some, Bool.and_eq_true, Bool.not_eq_true'] at hr
    obtain ⟨hu, hedges⟩ := hr
    have hLi : getB listed i = false := by
      unfold getB
      simp only [Array.getD_eq_getD_getElem?] at hu ⊢
      rw [Array.getElem?_eq_getElem (by omega)] at hu ⊢
      exact hu
    refine wpOp_mono (fun a' w' h' => ?_) (step_inv hok hW hRW hR hst hcg (Array.getElem?_eq_getElem hib) hLi (fun e he hbd => ?_) hinv (PGo_lex (hgo us) (Array.getElem?_eq_getElem hib)))
    · refine ih _ a' w' (by simpa using hsz) ?_ ?_
      · have hlt : i < listed.toList.length := by simpa using (show i < listed.size by omega)
        have e1 : listed.toList[i] = false := by
          unfold getB at hLi
          simp only [Array.getD_eq_getD_getElem?] at hLi
          rw [Array.getElem?_eq_getElem (by omega)] at hLi
          simpa using hLi
        have : (listed.setIfInBounds i true).toList = listed.toList.set i true := by simp
        rw [this, List.count_set hlt]
        rw [e1]
        show listed.toList.count false - 1 + 0 ≤ fuel
        omega
      · obtain ⟨us', h'⟩ := h'
        refine ⟨us', ?_⟩
        have : getB (listed.setIfInBounds i true) = fun k => k == i || getB listed k := by
          funext k
          unfold getB
          simp only [Array.getD_eq_getD_getElem?, Array.getElem?_setIfInBounds]
          by_cases hk : i = k
          · subst hk; simp [show i < listed.size by omega]
          · simp [hk, Ne.symm hk]
        rw [this]; exact h'
    · have := Array.all_eq_true_iff_forall_mem.1 hedges e he
      simpa [hbd, getB] using this

/-- A region that draws its order: one obligation for each operation. -/
theorem wp_region_p {id : Nat} {l : List Oper} {Q : Exit → Act → World → Prop} {a0 : Act} {w : World} (E : Nat → World → World → Prop) (W : List Nat → World → World → Prop) (cls : List Nat) (Fs : List PSpec) (fin : List Nat) (b : Array Nat)
    (hm : P.follows .mixedOrders = true)
    (hok : (okP l.toArray cls (Fs.map (·.uses)) (Fs.map (·.bad)) fin b && fin.all (fun i => decide (i < l.toArray.size)) && (List.range l.toArray.size).all (fun i => decide (b.getD i 0 < 2 ^ l.toArray.size))) = true)
    (hWr : ∀ C a, W C a a) (hW : ∀ C a b c, W C a b → W C b c → W C a c) (hRW : ∀ C c a b, c ∈ C → E c a b → W C a b) (hR : ∀ c a, E c a a)
    (hst : ∀ s ∈ Fs, ∀ c, s.bad.contains c = false → ∀ us v w w', E c w w' → s.F us v w → s.F us v w')
    (hcg : ∀ s ∈ Fs, ∀ us us', (∀ j ∈ s.uses, us j = us' j) → ∀ v w, s.F us v w → s.F us' v w)
    (hgo : ∀ us, PGo P l.toArray E W b cls Fs w.drew us l 0 a0)
    (hfin : ∀ us w', W (allC l.toArray.size cls) w.drew w' → PHold Fs us w' fin → Q .normal (lexAt l.toArray us l.toArray.size a0) w') : (Code.region id l.toArray true).wp P Q a0 w := by
  simp only [Bool.and_eq_true] at hok
  refine wp_region_any hm (any_inv (b := b) (pok_of hok.1.1 hok.1.2 hok.2) hW hRW hR hst hcg (by simpa using hgo) hfin _ _ _ _ (by simp) (by simp) ⟨fun _ => undef, rfl, rfl, ?_, fun _ _ => rfl, fun C _ => hWr C _, ?_, ?_, ?_⟩)
  · intro j t hj; rw [getB_no] at hj; cases hj
  · intro j s _ hj; rw [getB_no] at hj; cases hj
  · intro j k hj; rw [getB_no] at hj; cases hj
  · intro j hj; rw [getB_no] at hj; cases hj
end

/-- what the blocks' types are that those of the classes C may write -/
def typesOf (Ts : List (List TypeId)) (C : List Nat) : List TypeId := C.flatMap fun c => Ts.getD c []
theorem wp_region_i {P : Program} {id : Nat} {l : List Oper} {Q : Exit → Act → World → Prop} {a0 : Act} {w : World} (B : Nat) (Ts : List (List TypeId)) (cls : List Nat) (Fs : List (List Nat × PFact B)) (fin : List Nat)
    (hm : P.follows .mixedOrders = true)
    (hok : (okP l.toArray cls (Fs.map (fun p => p.1 ++ p.2.reads)) (Fs.map (fun p => badOf Ts p.2.U)) fin (Region.before l.toArray) && fin.all (fun i => decide (i < l.toArray.size)) && (List.range l.toArray.size).all (fun i => decide ((Region.before l.toArray).getD i 0 < 2 ^ l.toArray.size))) = true)
    (hgo : ∀ us, PGo P l.toArray (fun c => Evo B (Ts.getD c [])) (fun C => Evo B (typesOf Ts C)) (Region.before l.toArray) cls (Fs.map (specOf Ts)) w.drew us l 0 a0)
    (hfin : ∀ us w', Evo B (typesOf Ts (allC l.toArray.size cls)) w.drew w' → PHold (Fs.map (specOf Ts)) us w' fin → Q .normal (lexL us l 0 a0) w') : (Code.region id l.toArray true).wp P Q a0 w := by
  refine wp_region_p (fun c => Evo B (Ts.getD c [])) (fun C => Evo B (typesOf Ts C)) cls (Fs.map (specOf Ts)) fin (Region.before l.toArray) hm (by simpa [List.map_map, Function.comp_def, specOf] using hok) (fun _ a => Evo.refl _ _ a) (fun _ _ _ _ h k => h.trans k)
    (fun C c a b hc h => h.mono fun t ht => List.mem_flatMap.2 ⟨c, hc, ht⟩) (fun _ a => Evo.refl _ _ a) ?_ ?_ hgo (fun us w' h1 h2 => by rw [lexAt_lexL]; exact hfin us w' h1 h2)
  · intro s hs c hc us v w w' he hF
    obtain ⟨p, hp, rfl⟩ := List.mem_map.1 hs
    exact p.2.st _ (badOf_no hc) us v w w' he hF
  · intro s hs us us' h v w hF
    obtain ⟨p, hp, rfl⟩ := List.mem_map.1 hs
    exact p.2.cg us us' (fun j hj => h j (List.mem_append_right _ hj)) v w hF
/-- one operation without a guard; what it comes to stands behind a letter -/
theorem pgo_op {P : Program} {ops : Array Oper} {E : Nat → World → World → Prop} {W : List Nat → World → World → Prop} {b : Array Nat} {cls : List Nat} {Fs : List PSpec} {w0 : World} {us : Nat → Value} {o : Oper} {rest : List Oper} {i : Nat} {a : Act} (s : PSpec)
    (hg : o.guard = none) (hs : Fs[i]? = some s)
    (h : ∀ (K : Act → World → Prop) (w : World), W (ahead ops.size cls b i) w0 w → PHold Fs us w s.uses → (∀ v w', E (cls.getD i 0) w w' → s.F us v w' → K (a.put o.dst v) w') → o.wp P a w K (fun _ _ _ => False))
    (hr : PGo P ops E W b cls Fs w0 us rest (i + 1) (a.put o.dst (us i))) : PGo P ops E W b cls Fs w0 us (o :: rest) i a := by
  refine ⟨?_, hr⟩
  unfold PStep
  rw [hs]
  intro w hw hu
  rw [if_pos (by simp [Region.wanted, hg])]
  exact h _ w hw hu fun v w' hE hF => ⟨v, rfl, hE, hF⟩

/-- an operation that yields a value -/
theorem pgo_val {P : Program} {ops : Array Oper} {E : Nat → World → World → Prop} {W : List Nat → World → World → Prop} {b : Array Nat} {cls : List Nat} {Fs : List PSpec} {w0 : World} {us : Nat → Value} {o : Oper} {rest : List Oper} {i : Nat} {a : Act} (s : PSpec)
    (hg : o.guard = none) (hs : Fs[i]? = some s)
    (h : ∀ (w : World), W (ahead ops.size cls b i) w0 w → PHold Fs us w s.uses → ∃ v w', (execOp a.eval o).run P w = .ok (.value v) w' ∧ E (cls.getD i 0) w w' ∧ s.F us v w')
    (hr : PGo P ops E W b cls Fs w0 us rest (i + 1) (a.put o.dst (us i))) : PGo P ops E W b cls Fs w0 us (o :: rest) i a :=
  pgo_op s hg hs (fun _ w hw hu hK => by
    obtain ⟨v, w', h1, h2, h3⟩ := h w hw hu
    exact wpo_value h1 (hK v w' h2 h3)) hr
/-- an operation that yields a value that the world does not turn -/
theorem pgo_pure {P : Program} {ops : Array Oper} {B : Nat} {Ts : List (List TypeId)} {W : List Nat → World → World → Prop} {b : Array Nat} {cls : List Nat} {Fs : List PSpec} {w0 : World} {us : Nat → Value} {o : Oper} {rest : List Oper} {i : Nat} {a : Act} (s : PSpec)
    (hg : o.guard = none) (hs : Fs[i]? = some s)
    (h : ∀ (w : World), W (ahead ops.size cls b i) w0 w → PHold Fs us w s.uses → ∃ v, (execOp a.eval o).run P w = .ok (.value v) w ∧ s.F us v w)
    (hr : PGo P ops (fun c => Evo B (Ts.getD c [])) W b cls Fs w0 us rest (i + 1) (a.put o.dst (us i))) : PGo P ops (fun c => Evo B (Ts.getD c [])) W b cls Fs w0 us (o :: rest) i a :=
  pgo_val s hg hs (fun w hw hu => by
    obtain ⟨v, h1, h2⟩ := h w hw hu
    exact ⟨v, w, h1, Evo.refl _ _ _, h2⟩) hr
/-- an operation that yields nothing (a store) -/
theorem pgo_skip {P : Program} {ops : Array Oper} {E : Nat → World → World → Prop} {W : List Nat → World → World → Prop} {b : Array Nat} {cls : List Nat} {Fs : List PSpec} {w0 : World} {us : Nat → Value} {o : Oper} {rest : List Oper} {i : Nat} {a : Act} (s : PSpec)
    (hg : o.guard = none) (hs : Fs[i]? = some s)
    (h : ∀ (w : World), W (ahead ops.size cls b i) w0 w → PHold Fs us w s.uses → ∃ w', (execOp a.eval o).run P w = .ok .skip w' ∧ E (cls.getD i 0) w w' ∧ s.F us undef w')
    (hr : PGo P ops E W b cls Fs w0 us rest (i + 1) (a.put o.dst (us i))) : PGo P ops E W b cls Fs w0 us (o :: rest) i a :=
  pgo_op s hg hs (fun _ w hw hu hK => by
    obtain ⟨w', h1, h2, h3⟩ := h w hw hu
    exact wpo_skip h1 (hK undef w' h2 h3)) hr

end Go.Proofs.YtnjikhhegebkiaaDoor.R3
