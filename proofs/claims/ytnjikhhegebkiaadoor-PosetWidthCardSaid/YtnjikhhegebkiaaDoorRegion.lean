/-
  A region that draws its order, whose operations make memory (new blocks, calls, appends): ONE obligation for each operation, whatever order is picked. Each operation i leaves a value v and a world of which a fact 'F i v w' holds. What an operation does to the world is of a class ('cls'; 'E c' is what class c may do); a fact outlives all classes but those that it lists as bad. Written by an AI agent.
-/
import Derived.Test.YtnjikhhegebkiaaDoorMem
namespace Go.Proofs.YtnjikhhegebkiaaDoor
open Go.RowKit

/-- what an operation may use, which classes of operations break its fact, and its fact -/
structure PSpec where
  uses : List Nat
  bad : List Nat
  F : (Nat → Value) → Value → World → Prop

def PHold (Fs : List PSpec) (us : Nat → Value) (w : World) : List Nat → Prop
  | [] => True
  | j :: r => (match Fs[j]? with | some s => s.F us (us j) w | none => True) ∧ PHold Fs us w r

/-- what an operation must come to -/
def PYields (E : World → World → Prop) (F : Value → World → Prop) (dst : Option Tmp) (a : Act) (w : World) (a' : Act) (w' : World) : Prop := ∃ v, a' = a.put dst v ∧ E w w' ∧ F v w'

def PStep (P : Program) (ops : Array Oper) (E : Nat → World → World → Prop) (W : World → World → Prop) (cls : List Nat) (Fs : List PSpec) (w0 : World) (us : Nat → Value) (o : Oper) (i : Nat) (a : Act) : Prop :=
  match Fs[i]? with
  | none => False
  | some s => ∀ w, W w0 w → PHold Fs us w s.uses →
    if Region.wanted o (yielded ops a.tmps) = true then o.wp P a w (PYields (E (cls.getD i 0)) (s.F us) o.dst a w) (fun _ _ _ => False) else s.F us undef w

def PGo (P : Program) (ops : Array Oper) (E : Nat → World → World → Prop) (W : World → World → Prop) (cls : List Nat) (Fs : List PSpec) (w0 : World) (us : Nat → Value) : List Oper → Nat → Act → Prop
  | [], _, _ => True
  | o :: rest, i, a => PStep P ops E W cls Fs w0 us o i a ∧ PGo P ops E W cls Fs w0 us rest (i + 1) (a.put o.dst (us i))

/-- the frame in the text's order -/
def lexAt (ops : Array Oper) (us : Nat → Value) : Nat → Act → Act
  | 0, a => a
  | i + 1, a => (lexAt ops us i a).put ((ops[i]?).bind (·.dst)) (us i)

def dep (b : Array Nat) (i j : Nat) : Bool := (b.getD i 0).testBit j
def writerOk (ops : Array Oper) (b : Array Nat) (i : Nat) (t : Tmp) : Bool :=
  (List.range ops.size).all fun j => ((ops[j]?).bind (·.dst)) != some t || (if j < i then dep b i j else j == i || dep b j i)

/-- what the kernel reckons of a region -/
def killsB (cls bad : List Nat) (d : Nat) : Bool := bad.contains (cls.getD d 0)
def okP (ops : Array Oper) (cls : List Nat) (uses : List (List Nat)) (bad : List (List Nat)) (fin : List Nat) (b : Array Nat) : Bool :=
  (List.range ops.size).all fun i => match ops[i]? with
    | none => false
    | some o =>
      (match o.op with | .select .. => false | _ => true) &&
      (o.after.all fun e => !Region.binds .any e || (decide (e.on < i) && dep b i e.on && (List.range ops.size).all fun k => !dep b e.on k || dep b i k)) &&
      ((List.range ops.size).all fun k => !dep b i k || (o.after.any fun e => Region.binds .any e && (e.on == k || dep b e.on k))) &&
      ((List.range i).all fun j => o.dst == none || ((ops[j]?).bind (·.dst)) != o.dst) &&
      ((o.looksAt ops).all fun t => writerOk ops b i t) &&
      ((uses.getD i []).all fun j => dep b i j && decide (j < ops.size) && (List.range ops.size).all fun d => !killsB cls (bad.getD j []) d || d == i || dep b d i || dep b j d || d == j) &&
      (!fin.contains i || (List.range ops.size).all fun d => !killsB cls (bad.getD i []) d || dep b i d || d == i)

theorem put_size (a : Act) (d : Option Tmp) (v : Value) : (a.put d v).tmps.size = a.tmps.size := by cases d <;> simp [Act.put]
theorem put_defers (a : Act) (d : Option Tmp) (v : Value) : (a.put d v).defers = a.defers := by cases d <;> rfl
theorem put_get (a : Act) (d : Option Tmp) (v : Value) (t : Tmp) (h : d ≠ some t) : (a.put d v).tmps[t]? = a.tmps[t]? := by
  cases d with
  | none => rfl
  | some e =>
    have : e ≠ t := fun he => h (by rw [he])
    simp [Act.put, Array.getElem?_setIfInBounds_ne this]
theorem put_got (a : Act) (v : Value) (t : Tmp) (h : t < a.tmps.size) : (a.put (some t) v).tmps[t]? = some v := by
  simp [Act.put, h]

section
variable {P : Program} {ops : Array Oper} {E : Nat → World → World → Prop} {W : World → World → Prop} {cls : List Nat} {Fs : List PSpec} {fin : List Nat} {b : Array Nat} {a0 : Act} {w0 : World} {us : Nat → Value}

theorem lexAt_size (n : Nat) : (lexAt ops us n a0).tmps.size = a0.tmps.size := by
  induction n with
  | zero => rfl
  | succ n ih => rw [lexAt, put_size, ih]
theorem lexAt_defers (n : Nat) : (lexAt ops us n a0).defers = a0.defers := by
  induction n with
  | zero => rfl
  | succ n ih => rw [lexAt, put_defers, ih]
theorem lexAt_un (n : Nat) (t : Tmp) (h : ∀ j, j < n → ((ops[j]?).bind (·.dst)) ≠ some t) : (lexAt ops us n a0).tmps[t]? = a0.tmps[t]? := by
  induction n with
  | zero => rfl
  | succ n ih => rw [lexAt, put_get _ _ _ _ (h n (by omega)), ih fun j hj => h j (by omega)]
theorem lexAt_set (n j : Nat) (t : Tmp) (hj : j < n) (hw : ((ops[j]?).bind (·.dst)) = some t) (ht : t < a0.tmps.size) (hu : ∀ k, k < n → k ≠ j → ((ops[k]?).bind (·.dst)) ≠ some t) :
    (lexAt ops us n a0).tmps[t]? = some (us j) := by
  induction n with
  | zero => omega
  | succ n ih =>
    rw [lexAt]
    by_cases h : j = n
    · subst h; rw [hw, put_got _ _ _ (by rw [lexAt_size]; exact ht)]
    · rw [put_get _ _ _ _ (hu n (by omega) (by omega)), ih (by omega) fun k hk => hu k (by omega)]

theorem getD_of_get {xs ys : Array Value} {t : Nat} (h : xs[t]? = ys[t]?) : xs.getD t undef = ys.getD t undef := by
  simp only [Array.getD_eq_getD_getElem?, h]

/-- an operation's outcome hangs on its operands alone -/
theorem upon_transfer {o : Oper} {a a' : Act} {K K' : Act → World → Prop} {Q : Exit → Act → World → Prop} (r : Result Next) (hd : ∀ v w, K (a.put o.dst v) w → K' (a'.put o.dst v) w)
    (hdef : ∀ d w, ¬ K ({ a with defers := d :: a.defers }.put o.dst undef) w) (h : o.upon P a K (fun _ _ _ => False) r) : o.upon P a' K' Q r := by
  cases r with
  | ok n w =>
    cases n <;> simp only [Oper.upon] at h ⊢
    case value v => exact hd _ _ h
    case skip => exact hd _ _ h
    case defer d => exact absurd h (hdef _ _)
    case enter f args =>
      refine Calls.mono h fun e w'' he => ?_
      cases e with
      | returned v => exact hd _ _ he
      | panicked c => exact he.elim
      | outgrown => obtain ⟨_, _, hf⟩ := he; exact hf.elim
    case row row args => exact Rows.mono h fun v w'' he => hd _ _ he
  | halt x w =>
    cases x <;> simp only [Oper.upon] at h

theorem lex_eval {us : Nat → Value} {a : Act} {L : Nat → Bool} {i : Nat} {o : Oper} (_hi : ops[i]? = some o) (hLi : L i = false)
    (hset : ∀ (j : Nat) (t : Tmp), L j = true → ((ops[j]?).bind (·.dst)) = some t → t < a0.tmps.size → a.tmps[t]? = some (us j))
    (hun : ∀ t : Tmp, (∀ j : Nat, L j = true → ((ops[j]?).bind (·.dst)) ≠ some t) → a.tmps[t]? = a0.tmps[t]?) (hsz : a.tmps.size = a0.tmps.size)
    (hcl : ∀ j k, L j = true → dep b j k = true → L k = true) (hdeps : ∀ j, dep b i j = true → L j = true)
    (huniq : ∀ (j k : Nat) (t : Tmp), ((ops[j]?).bind (·.dst)) = some t → ((ops[k]?).bind (·.dst)) = some t → j = k)
    {t : Tmp} (hw : writerOk ops b i t = true) : a.tmps[t]? = (lexAt ops us i a0).tmps[t]? := by
  simp only [writerOk, List.all_eq_true, List.mem_range, Bool.or_eq_true, bne_iff_ne, ne_eq] at hw
  by_cases hex : ∃ j : Nat, ((ops[j]?).bind (·.dst)) = some t
  · obtain ⟨j, hj⟩ := hex
    have hjs : j < ops.size := by
      rcases Nat.lt_or_ge j ops.size with h | h
      · exact h
      · rw [Array.getElem?_eq_none h] at hj; simp at hj
    have hjw := (hw j hjs).resolve_left (by simp [hj])
    by_cases hts : t < a0.tmps.size
    · by_cases hji : j < i
      · rw [if_pos hji] at hjw
        rw [hset j t (hdeps j hjw) hj hts, lexAt_set i j t hji hj hts fun k _ hkj hk => hkj (huniq k j t hk hj)]
      · rw [if_neg hji] at hjw
        have hnl : L j = false := by
          simp only [Bool.or_eq_true, beq_iff_eq] at hjw
          rcases hjw with h | h
          · rw [h]; exact hLi
          · cases hL : L j with
            | false => rfl
            | true => have := hcl j i hL h; rw [hLi] at this; cases this
        have h1 := hun t (fun k hk hkt => by rw [huniq k j t hkt hj, hnl] at hk; cases hk)
        have h2 := lexAt_un (ops := ops) (us := us) (a0 := a0) i t (fun k hk hkt => by have := huniq k j t hkt hj; omega)
        rw [h1, h2]
    · rw [Array.getElem?_eq_none (by rw [hsz]; exact Nat.not_lt.1 hts), Array.getElem?_eq_none (by rw [lexAt_size]; exact Nat.not_lt.1 hts)]
  · have h1 := hun t (fun k _ hk => hex ⟨k, hk⟩)
    have h2 := lexAt_un (ops := ops) (us := us) (a0 := a0) i t (fun k _ hk => hex ⟨k, hk⟩)
    rw [h1, h2]

/-- the state behind some of the operations -/
structure PInv (ops : Array Oper) (W : World → World → Prop) (cls : List Nat) (Fs : List PSpec) (b : Array Nat) (a0 : Act) (w0 : World) (us : Nat → Value) (L : Nat → Bool) (a : Act) (w : World) : Prop where
  size : a.tmps.size = a0.tmps.size
  defers : a.defers = a0.defers
  set : ∀ (j : Nat) (t : Tmp), L j = true → ((ops[j]?).bind (·.dst)) = some t → t < a0.tmps.size → a.tmps[t]? = some (us j)
  un : ∀ t : Tmp, (∀ j : Nat, L j = true → ((ops[j]?).bind (·.dst)) ≠ some t) → a.tmps[t]? = a0.tmps[t]?
  world : W w0 w
  facts : ∀ (j : Nat) (s : PSpec), Fs[j]? = some s → L j = true → (∀ d, killsB cls s.bad d = true → L d = true → dep b j d = true ∨ d = j) → s.F us (us j) w
  closed : ∀ j k, L j = true → dep b j k = true → L k = true
  bound : ∀ j, L j = true → j < ops.size

structure POk (ops : Array Oper) (cls : List Nat) (Fs : List PSpec) (fin : List Nat) (b : Array Nat) : Prop where
  sel : ∀ (i : Nat) (o : Oper), ops[i]? = some o → ∀ cs bl, o.op ≠ .select cs bl
  back : ∀ (i : Nat) (o : Oper), ops[i]? = some o → ∀ e ∈ o.after, Region.binds .any e = true → e.on < i ∧ dep b i e.on = true
  clo : ∀ (i : Nat) (o : Oper), ops[i]? = some o → ∀ k, k < ops.size → dep b i k = true → ∃ e ∈ o.after, Region.binds .any e = true ∧ (e.on = k ∨ dep b e.on k = true)
  uniq : ∀ (j k : Nat) (t : Tmp), ((ops[j]?).bind (·.dst)) = some t → ((ops[k]?).bind (·.dst)) = some t → j = k
  look : ∀ (i : Nat) (o : Oper), ops[i]? = some o → ∀ t ∈ o.looksAt ops, writerOk ops b i t = true
  uses : ∀ (i : Nat) (s : PSpec), i < ops.size → Fs[i]? = some s → ∀ j ∈ s.uses, dep b i j = true ∧ j < ops.size ∧ ∀ s', Fs[j]? = some s' → ∀ d, d < ops.size → killsB cls s'.bad d = true → d = i ∨ dep b d i = true ∨ dep b j d = true ∨ d = j
  last : ∀ i ∈ fin, ∀ s, Fs[i]? = some s → ∀ d, d < ops.size → killsB cls s.bad d = true → dep b i d = true ∨ d = i
  fins : ∀ i ∈ fin, i < ops.size
  trans : ∀ (i : Nat) (o : Oper), ops[i]? = some o → ∀ e ∈ o.after, Region.binds .any e = true → ∀ k, k < ops.size → dep b e.on k = true → dep b i k = true
  small : ∀ i k, i < ops.size → dep b i k = true → k < ops.size

theorem all_at {n : Nat} {p : Nat → Bool} (h : (List.range n).all p = true) {i : Nat} (hi : i < n) : p i = true := List.all_eq_true.1 h i (List.mem_range.2 hi)

theorem pok_of (h : okP ops cls (Fs.map (·.uses)) (Fs.map (·.bad)) fin b = true) (hf : fin.all (fun i => decide (i < ops.size)) = true) (hb : (List.range ops.size).all (fun i => decide (b.getD i 0 < 2 ^ ops.size)) = true) : POk ops cls Fs fin b := by
  have lt : ∀ {i : Nat} {o : Oper}, ops[i]? = some o → i < ops.size := fun {i o} hi => (Array.getElem?_eq_some_iff.1 hi).1
  have at_ : ∀ {i : Nat} {o : Oper}, ops[i]? = some o → _ := fun {i o} hi => by
    have := all_at h (lt hi)
    simp only [hi] at this
    exact this
  simp only [Bool.and_eq_true] at at_
  refine ⟨?_, ?_, ?_, ?_, ?_, ?_, ?_, ?_, ?_, ?_⟩
  · intro i o hi cs bl he
    have := (at_ hi).1.1.1.1.1.1
    rw [he] at this
    cases this
  · intro i o hi e he hbd
    have := Array.all_eq_true_iff_forall_mem.1 (at_ hi).1.1.1.1.1.2 e he
    simp only [Bool.and_eq_true, decide_eq_true_eq, Bool.or_eq_true, Bool.not_eq_true'] at this
    rcases this with h2 | h2
    · rw [hbd] at h2; cases h2
    · exact h2.1
  · intro i o hi k hk hd
    have := all_at (at_ hi).1.1.1.1.2 hk
    simp only [Bool.or_eq_true, Bool.not_eq_true', hd] at this
    have := this.resolve_left (by simp)
    obtain ⟨e, he, h2⟩ := Array.any_eq_true'.1 this
    simp only [Bool.and_eq_true, Bool.or_eq_true, beq_iff_eq] at h2
    exact ⟨e, he, h2.1, h2.2⟩
  · have key : ∀ (j k : Nat) (t : Tmp), j < k → ((ops[j]?).bind (·.dst)) = some t → ((ops[k]?).bind (·.dst)) = some t → False := by
      intro j k t hjk hj hk
      cases ho : ops[k]? with
      | none => rw [ho] at hk; cases hk
      | some o =>
        have := all_at (at_ ho).1.1.1.2 hjk
        rw [ho] at hk
        have hk' : o.dst = some t := hk
        simp [hk', hj] at this
    intro j k t hj hk
    rcases Nat.lt_trichotomy j k with h1 | h1 | h1
    · exact (key j k t h1 hj hk).elim
    · exact h1
    · exact (key k j t h1 hk hj).elim
  · intro i o hi t ht
    exact List.all_eq_true.1 (at_ hi).1.1.2 t ht
  · intro i s hi hs j hj
    obtain ⟨o, ho⟩ : ∃ o, ops[i]? = some o := ⟨ops[i], Array.getElem?_eq_getElem hi⟩
    have hu : (Fs.map (·.uses)).getD i [] = s.uses := by simp [hs]
    have := (at_ ho).1.2
    rw [hu] at this
    have := List.all_eq_true.1 this j hj
    simp only [Bool.and_eq_true, decide_eq_true_eq] at this
    refine ⟨this.1.1, this.1.2, fun s' hs' d hds hkd => ?_⟩
    have e2 : (Fs.map (·.bad)).getD j [] = s'.bad := by simp [hs']
    have h3 := all_at this.2 hds
    rw [e2, hkd] at h3
    simp only [Bool.or_eq_true, beq_iff_eq, Bool.not_true, Bool.false_eq_true, false_or] at h3
    rcases h3 with ((h4 | h4) | h4) | h4
    · exact .inl h4
    · exact .inr (.inl h4)
    · exact .inr (.inr (.inl h4))
    · exact .inr (.inr (.inr h4))
  · intro i hi s hs
    have hib : i < ops.size := by simpa using List.all_eq_true.1 hf i hi
    obtain ⟨o, ho⟩ : ∃ o, ops[i]? = some o := ⟨ops[i], Array.getElem?_eq_getElem hib⟩
    have := (at_ ho).2
    have e2 : (Fs.map (·.bad)).getD i [] = s.bad := by simp [hs]
    intro d hds hkd
    simp only [Bool.or_eq_true, Bool.not_eq_true'] at this
    rcases this with h3 | h3
    · rw [List.contains_iff_mem.2 hi] at h3; cases h3
    · have h3 := all_at h3 hds
      rw [e2, hkd] at h3
      simpa using h3
  · intro i hi
    simpa using List.all_eq_true.1 hf i hi
  · intro i o hi e he hbd k hk hd
    have := Array.all_eq_true_iff_forall_mem.1 (at_ hi).1.1.1.1.1.2 e he
    simp only [Bool.and_eq_true, decide_eq_true_eq, Bool.or_eq_true, Bool.not_eq_true'] at this
    rcases this with h2 | h2
    · rw [hbd] at h2; cases h2
    · have := all_at h2.2 hk
      simpa [hd] using this
  · intro i k hi hd
    have h1 := all_at hb hi
    rcases Nat.lt_or_ge k ops.size with h2 | h2
    · exact h2
    · exfalso
      have h3 : b.getD i 0 < 2 ^ k := Nat.lt_of_lt_of_le (by simpa using h1) (Nat.pow_le_pow_right (by omega) h2)
      unfold dep at hd
      rw [Nat.testBit_lt_two_pow h3] at hd
      cases hd

theorem wanted_congr {o : Oper} {a a' : Act} (h : ∀ t ∈ o.looksAt ops, a.tmps[t]? = a'.tmps[t]?) : Region.wanted o (yielded ops a.tmps) = Region.wanted o (yielded ops a'.tmps) := by
  unfold Region.wanted
  cases hg : o.guard with
  | none => rfl
  | some p =>
    obtain ⟨g, want⟩ := p
    have : yielded ops a.tmps g = yielded ops a'.tmps g := by
      unfold yielded
      cases hd : (ops[g]?).bind (·.dst) with
      | none => rfl
      | some t =>
        have := h t (by unfold Oper.looksAt; rw [hg]; simp [hd])
        simp only [Option.bind_some, this]
    simp only [this]
theorem eval_congr {o : Oper} {a a' : Act} (h : ∀ t ∈ o.looksAt ops, a.tmps[t]? = a'.tmps[t]?) : ∀ x ∈ o.op.operands, a.eval x = a'.eval x := by
  intro x hx
  cases x with
  | tmp t =>
    have := h t (by unfold Oper.looksAt; exact List.mem_append_left _ (List.mem_filterMap.2 ⟨.tmp t, by simpa using hx, rfl⟩))
    exact getD_of_get this
  | const v => rfl
  | global g => rfl
  | func f => rfl

theorem PHold_of {w : World} {l : List Nat} (h : ∀ j ∈ l, ∀ s, Fs[j]? = some s → s.F us (us j) w) : PHold Fs us w l := by
  induction l with
  | nil => trivial
  | cons j r ih =>
    refine ⟨?_, ih fun k hk => h k (List.mem_cons_of_mem _ hk)⟩
    cases hs : Fs[j]? with
    | none => trivial
    | some s => exact h j (List.mem_cons_self ..) s hs

theorem step_inv (hok : POk ops cls Fs fin b) (hW : ∀ a b c, W a b → W b c → W a c) (hRW : ∀ c a b, E c a b → W a b) (hR : ∀ c a, E c a a)
    (hst : ∀ s ∈ Fs, ∀ c, s.bad.contains c = false → ∀ us v w w', E c w w' → s.F us v w → s.F us v w')
    (hcg : ∀ s ∈ Fs, ∀ us us', (∀ j ∈ s.uses, us j = us' j) → ∀ v w, s.F us v w → s.F us' v w)
    {i : Nat} {o : Oper} {L : Nat → Bool} {a : Act} {w : World} {Q : Exit → Act → World → Prop} (hi : ops[i]? = some o) (hLi : L i = false) (hready : ∀ e ∈ o.after, Region.binds .any e = true → L e.on = true)
    (hinv : PInv ops W cls Fs b a0 w0 us L a w) (hstep : PStep P ops E W cls Fs w0 us o i (lexAt ops us i a0)) :
    wpOp P ops Q i (fun a' w' => ∃ us', PInv ops W cls Fs b a0 w0 us' (fun k => k == i || L k) a' w') a w := by
  have hib : i < ops.size := (Array.getElem?_eq_some_iff.1 hi).1
  have hdeps : ∀ j, dep b i j = true → L j = true := by
    intro j hj
    obtain ⟨e, he, hbd, h⟩ := hok.clo i o hi j (hok.small i j hib hj) hj
    rcases h with h | h
    · rw [← h]; exact hready e he hbd
    · exact hinv.closed _ _ (hready e he hbd) h
  have hlook : ∀ t ∈ o.looksAt ops, a.tmps[t]? = (lexAt ops us i a0).tmps[t]? := fun t ht =>
    lex_eval hi hLi hinv.set hinv.un hinv.size hinv.closed hdeps hok.uniq (hok.look i o hi t ht)
  have hexec : execOp a.eval o = execOp (lexAt ops us i a0).eval o := execOp_congr o (hok.sel i o hi) (eval_congr hlook)
  -- the new state
  have next : ∀ (s : PSpec) (v : Value) (w' : World), Fs[i]? = some s → E (cls.getD i 0) w w' → s.F us v w' →
      ∃ us', PInv ops W cls Fs b a0 w0 us' (fun k => k == i || L k) (a.put o.dst v) w' := by
    intro s v w' hs hww hF
    have hw' : W w w' := hRW _ _ _ hww
    have hne : ∀ j, L j = true → j ≠ i := fun j hj e => by rw [e, hLi] at hj; cases hj
    have hdi : (ops[i]?).bind (·.dst) = o.dst := by rw [hi]; rfl
    refine ⟨fun k => if k = i then v else us k, ?_, ?_, ?_, ?_, hW _ _ _ hinv.world hw', ?_, ?_, ?_⟩
    · rw [put_size, hinv.size]
    · rw [put_defers, hinv.defers]
    · intro j t hj hjt hts
      by_cases hji : j = i
      · subst hji
        rw [hdi] at hjt
        rw [hjt, put_got _ _ _ (by rw [hinv.size]; exact hts), if_pos rfl]
      · have hLj : L j = true := by simpa [hji] using hj
        rw [put_get _ _ _ _ (fun e => hji (hok.uniq j i t hjt (by rw [hdi]; exact e))), hinv.set j t hLj hjt hts, if_neg hji]
    · intro t ht
      rw [put_get _ _ _ _ (fun e => ht i (by simp) (by rw [hdi]; exact e)), hinv.un t fun j hj => ht j (by simp [hj])]
    · intro j s' hs' hj hcond
      have hmem : s' ∈ Fs := List.mem_of_getElem? hs'
      by_cases hji : j = i
      · subst hji
        rw [if_pos rfl]
        refine hcg s' hmem us _ (fun k hk => ?_) _ _ ?_
        · have hkL := hdeps k (hok.uses j s' hib hs' k hk).1
          rw [if_neg (hne k hkL)]
        · rw [hs] at hs'; injection hs' with hs'; subst hs'; exact hF
      · have hLj : L j = true := by simpa [hji] using hj
        rw [if_neg hji]
        refine hcg s' hmem us _ (fun k hk => ?_) _ _ ?_
        · have hkL := hinv.closed j k hLj (hok.uses j s' (hinv.bound j hLj) hs' k hk).1
          rw [if_neg (hne k hkL)]
        · cases hk : killsB cls s'.bad i with
          | true =>
            rcases hcond i hk (by simp) with h2 | h2
            · have := hinv.closed j i hLj h2; rw [hLi] at this; cases this
            · exact absurd h2.symm hji
          | false => exact hst s' hmem _ hk _ _ _ _ hww (hinv.facts j s' hs' hLj (fun d hd hLd => hcond d hd (by simp [hLd])))
    · intro j k hj hjk
      by_cases hji : j = i
      · subst hji; simp [hdeps k hjk]
      · have hLj : L j = true := by simpa [hji] using hj
        simp [hinv.closed j k hLj hjk]
    · intro j hj
      by_cases hji : j = i
      · subst hji; exact hib
      · exact hinv.bound j (by simpa [hji] using hj)
  unfold PStep at hstep
  cases hs : Fs[i]? with
  | none => rw [hs] at hstep; exact hstep.elim
  | some s =>
    rw [hs] at hstep
    have hh := hstep w hinv.world (PHold_of fun j hj s' hs' => by
      obtain ⟨h1, h2, h3⟩ := hok.uses i s hib hs j hj
      refine hinv.facts j s' hs' (hdeps j h1) (fun d hd hLd => ?_)
      rcases h3 s' hs' d (hinv.bound d hLd) hd with h4 | h4 | h4 | h4
      · rw [h4, hLi] at hLd; cases hLd
      · have := hinv.closed d i hLd h4; rw [hLi] at this; cases this
      · exact .inl h4
      · exact .inr h4)
    rw [← wanted_congr hlook] at hh
    unfold wpOp
    simp only [hi]
    by_cases hw : Region.wanted o (yielded ops a.tmps) = true
    · rw [if_pos hw] at hh ⊢
      refine .inl ?_
      unfold Oper.wp at hh ⊢
      rw [hexec]
      refine upon_transfer _ (fun v w' hk => ?_) (fun d w' hk => ?_) hh
      · obtain ⟨u, hu, hE, hF⟩ := hk
        by_cases hd : o.dst = none
        · -- nothing is written: the value is the fact's own
          rw [show a.put o.dst v = a.put o.dst u by rw [hd]; rfl]
          exact next s u w' hs hE hF
        · obtain ⟨t, ht⟩ := Option.ne_none_iff_exists'.1 hd
          by_cases hts : t < a0.tmps.size
          · have e1 := put_got (lexAt ops us i a0) v t (by rw [lexAt_size]; exact hts)
            have e2 := put_got (lexAt ops us i a0) u t (by rw [lexAt_size]; exact hts)
            rw [ht] at hu
            rw [hu, e2] at e1
            injection e1 with e1
            subst e1
            exact next s u w' hs hE hF
          · have e3 : ∀ x : Value, a.put o.dst x = a := fun x => by
              rw [ht]; unfold Act.put
              simp only
              rw [Array.setIfInBounds_eq_of_size_le (by rw [hinv.size]; exact Nat.not_lt.1 hts)]
            rw [e3 v, ← e3 u]
            exact next s u w' hs hE hF
      · obtain ⟨u, hu, _, _⟩ := hk
        have := congrArg Act.defers hu
        rw [put_defers, put_defers] at this
        have := congrArg List.length this
        simp at this
    · rw [if_neg hw] at hh ⊢
      exact next s undef w hs (hR _ w) hh

theorem PGo_at {l : List Oper} {k : Nat} {a : Act} (h : PGo P ops E W cls Fs w0 us l k a) : ∀ (d : Nat) (o : Oper), l[d]? = some o → ∃ a', a' = (List.range d).foldl (fun x j => x.put ((l[j]?).bind (·.dst)) (us (k + j))) a ∧ PStep P ops E W cls Fs w0 us o (k + d) a' := by
  induction l generalizing k a with
  | nil => intro d o hd; simp at hd
  | cons x r ih =>
    intro d o hd
    cases d with
    | zero =>
      simp only [List.getElem?_cons_zero, Option.some.injEq] at hd
      subst hd
      exact ⟨a, rfl, h.1⟩
    | succ d =>
      obtain ⟨a', ha', hs⟩ := ih h.2 d o (by simpa using hd)
      refine ⟨a', ?_, by rw [← Nat.add_assoc, Nat.add_right_comm]; exact hs⟩
      rw [ha', List.range_succ_eq_map, List.foldl_cons, List.foldl_map]
      simp only [List.getElem?_cons_zero, Option.bind_some, Nat.add_zero, List.getElem?_cons_succ, Nat.add_succ, Nat.succ_add]
theorem lexAt_fold (n : Nat) (a : Act) : lexAt ops us n a = (List.range n).foldl (fun x j => x.put ((ops.toList[j]?).bind (·.dst)) (us (0 + j))) a := by
  induction n with
  | zero => rfl
  | succ n ih => rw [lexAt, ih, List.range_succ, List.foldl_append]; simp
theorem PGo_lex (h : PGo P ops E W cls Fs w0 us ops.toList 0 a0) {i : Nat} {o : Oper} (hi : ops[i]? = some o) : PStep P ops E W cls Fs w0 us o i (lexAt ops us i a0) := by
  obtain ⟨a', ha', hs⟩ := PGo_at h i o (by simpa using hi)
  rw [lexAt_fold, ← ha']
  simpa using hs

def getB (listed : Array Bool) (k : Nat) : Bool := listed.getD k false

theorem getB_no (n j : Nat) : getB (Array.replicate n false) j = false := by
  unfold getB
  simp only [Array.getD_eq_getD_getElem?, Array.getElem?_replicate]
  split <;> rfl
theorem any_inv (hok : POk ops cls Fs fin b) (hW : ∀ a b c, W a b → W b c → W a c) (hRW : ∀ c a b, E c a b → W a b) (hR : ∀ c a, E c a a)
    (hst : ∀ s ∈ Fs, ∀ c, s.bad.contains c = false → ∀ us v w w', E c w w' → s.F us v w → s.F us v w')
    (hcg : ∀ s ∈ Fs, ∀ us us', (∀ j ∈ s.uses, us j = us' j) → ∀ v w, s.F us v w → s.F us' v w) {Q : Exit → Act → World → Prop}
    (hgo : ∀ us, PGo P ops E W cls Fs w0 us ops.toList 0 a0)
    (hfin : ∀ us w, W w0 w → PHold Fs us w fin → Q .normal (lexAt ops us ops.size a0) w) :
    ∀ (fuel : Nat) (listed : Array Bool) (a : Act) (w : World), listed.size = ops.size → listed.toList.count false ≤ fuel →
      (∃ us, PInv ops W cls Fs b a0 w0 us (getB listed) a w) → wpAny P .any ops Q fuel listed a w := by
  -- where nothing is ready all is done
  have done : ∀ (listed : Array Bool) (a : Act) (w : World), listed.size = ops.size → Region.ready .any ops listed = [] → (∃ us, PInv ops W cls Fs b a0 w0 us (getB listed) a w) → Q .normal a w := by
    intro listed a w hsz hr ⟨us, hinv⟩
    have hall : ∀ i, i < ops.size → getB listed i = true := by
      intro i
      induction i using Nat.strongRecOn with
      | _ i ih =>
        intro hi
        cases hL : getB listed i with
        | true => rfl
        | false =>
          exfalso
          have : i ∈ Region.ready .any ops listed := by
            unfold Region.ready
            rw [List.mem_filter]
            refine ⟨List.mem_range.2 hi, ?_⟩
            have e1 : listed.getD i true = false := by
              unfold getB at hL
              simp only [Array.getD_eq_getD_getElem?] at hL ⊢
              rw [Array.getElem?_eq_getElem (by omega)] at hL ⊢
              exact hL
            simp only [e1, Bool.not_false, Bool.true_and, Array.getElem?_eq_getElem hi, Option.map_some, Option.getD_some]
            rw [Array.all_eq_true_iff_forall_mem]
            intro e he
            cases hbd : Region.binds .any e with
            | false => rfl
            | true =>
              obtain ⟨h1, _⟩ := hok.back i _ (Array.getElem?_eq_getElem hi) e he hbd
              have := ih e.on h1 (by omega)
              unfold getB at this
              rw [this]; simp
          rw [hr] at this
          cases this
    have ha : a = lexAt ops us ops.size a0 := by
      have h1 : a.tmps = (lexAt ops us ops.size a0).tmps := by
        refine Array.ext_getElem? fun t => ?_
        by_cases hex : ∃ j : Nat, ((ops[j]?).bind (·.dst)) = some t
        · obtain ⟨j, hj⟩ := hex
          have hjs : j < ops.size := by
            rcases Nat.lt_or_ge j ops.size with h | h
            · exact h
            · rw [Array.getElem?_eq_none h] at hj; simp at hj
          by_cases hts : t < a0.tmps.size
          · rw [hinv.set j t (hall j hjs) hj hts, lexAt_set ops.size j t hjs hj hts fun k _ hkj hk => hkj (hok.uniq k j t hk hj)]
          · rw [Array.getElem?_eq_none (by rw [hinv.size]; exact Nat.not_lt.1 hts), Array.getElem?_eq_none (by rw [lexAt_size]; exact Nat.not_lt.1 hts)]
        · have h1 := hinv.un t (fun k _ hk => hex ⟨k, hk⟩)
          have h2 := lexAt_un (ops := ops) (us := us) (a0 := a0) ops.size t (fun k _ hk => hex ⟨k, hk⟩)
          rw [h1, h2]
      have h2 : a.defers = (lexAt ops us ops.size a0).defers := by rw [hinv.defers, lexAt_defers]
      cases a
      cases hq : lexAt ops us ops.size a0
      rw [hq] at h1 h2
      simp only at h1 h2
      rw [h1, h2]
    rw [ha]
    refine hfin us w hinv.world (PHold_of fun j hj s hs => ?_)
    refine hinv.facts j s hs (hall j (hok.fins j hj)) (fun d hd hLd => hok.last j hj s hs d (hinv.bound d hLd) hd)
  intro fuel
  induction fuel with
  | zero =>
    intro listed a w hsz hc hinv
    have hr : Region.ready .any ops listed = [] := by
      unfold Region.ready
      rw [List.filter_eq_nil_iff]
      intro i hi
      have hi := List.mem_range.1 hi
      have : listed.getD i true = true := by
        cases h : listed.getD i true with
        | true => rfl
        | false =>
          exfalso
          have hm : false ∈ listed.toList := by
            simp only [Array.getD_eq_getD_getElem?] at h
            rw [Array.getElem?_eq_getElem (by omega)] at h
            simp only [Option.getD_some] at h
            rw [← h]; exact Array.getElem_mem_toList _
          have := List.count_pos_iff.2 hm
          omega
      rw [this]; simp
    exact ⟨hr, done listed a w hsz hr hinv⟩
  | succ fuel ih =>
    intro listed a w hsz hc hinv
    refine ⟨fun hr => done listed a w hsz hr hinv, fun i hi => ?_⟩
    obtain ⟨us, hinv⟩ := hinv
    unfold Region.ready at hi
    rw [List.mem_filter] at hi
    obtain ⟨hib, hr⟩ := hi
    have hib := List.mem_range.1 hib
    rw [Array.getElem?_eq_getElem hib] at hr
    simp only [Option.map_some, Option.getD_some, Bool.and_eq_true, Bool.not_eq_true'] at hr
    obtain ⟨hu, hedges⟩ := hr
    have hLi : getB listed i = false := by
      unfold getB
      simp only [Array.getD_eq_getD_getElem?] at hu ⊢
      rw [Array.getElem?_eq_getElem (by omega)] at hu ⊢
      exact hu
    refine wpOp_mono (fun a' w' h' => ?_) (step_inv hok hW hRW hR hst hcg (Array.getElem?_eq_getElem hib) hLi (fun e he hbd => ?_) hinv (PGo_lex (hgo us) (Array.getElem?_eq_getElem hib)))
    · refine ih _ a' w' (by simpa using hsz) ?_ ?_
      · have hlt : i < listed.toList.length := by simpa using (show i < listed.size by omega)
        have e1 : listed.toList[i] = false := by
          unfold getB at hLi
          simp only [Array.getD_eq_getD_getElem?] at hLi
          rw [Array.getElem?_eq_getElem (by omega)] at hLi
          simpa using hLi
        have : (listed.setIfInBounds i true).toList = listed.toList.set i true := by simp
        rw [this, List.count_set hlt]
        rw [e1]
        show listed.toList.count false - 1 + 0 ≤ fuel
        omega
      · obtain ⟨us', h'⟩ := h'
        refine ⟨us', ?_⟩
        have : getB (listed.setIfInBounds i true) = fun k => k == i || getB listed k := by
          funext k
          unfold getB
          simp only [Array.getD_eq_getD_getElem?, Array.getElem?_setIfInBounds]
          by_cases hk : i = k
          · subst hk; simp [show i < listed.size by omega]
          · simp [hk, Ne.symm hk]
        rw [this]; exact h'
    · have := Array.all_eq_true_iff_forall_mem.1 hedges e he
      simpa [hbd, getB] using this

/-- A region that draws its order: one obligation for each operation. -/
theorem wp_region_p {id : Nat} {l : List Oper} {Q : Exit → Act → World → Prop} {a0 : Act} {w : World} (E : Nat → World → World → Prop) (W : World → World → Prop) (cls : List Nat) (Fs : List PSpec) (fin : List Nat) (b : Array Nat)
    (hm : P.follows .mixedOrders = true)
    (hok : (okP l.toArray cls (Fs.map (·.uses)) (Fs.map (·.bad)) fin b && fin.all (fun i => decide (i < l.toArray.size)) && (List.range l.toArray.size).all (fun i => decide (b.getD i 0 < 2 ^ l.toArray.size))) = true)
    (hW : ∀ a b c, W a b → W b c → W a c) (hRW : ∀ c a b, E c a b → W a b) (hR : ∀ c a, E c a a)
    (hst : ∀ s ∈ Fs, ∀ c, s.bad.contains c = false → ∀ us v w w', E c w w' → s.F us v w → s.F us v w')
    (hcg : ∀ s ∈ Fs, ∀ us us', (∀ j ∈ s.uses, us j = us' j) → ∀ v w, s.F us v w → s.F us' v w)
    (hgo : ∀ us, PGo P l.toArray E W cls Fs w.drew us l 0 a0)
    (hfin : ∀ us w', W w.drew w' → PHold Fs us w' fin → Q .normal (lexAt l.toArray us l.toArray.size a0) w') : (Code.region id l.toArray true).wp P Q a0 w := by
  simp only [Bool.and_eq_true] at hok
  refine wp_region_any hm (any_inv (b := b) (pok_of hok.1.1 hok.1.2 hok.2) hW hRW hR hst hcg (by simpa using hgo) hfin _ _ _ _ (by simp) (by simp) ⟨fun _ => undef, rfl, rfl, ?_, fun _ _ => rfl, hRW 0 _ _ (hR 0 _), ?_, ?_, ?_⟩)
  · intro j t hj; rw [getB_no] at hj; cases hj
  · intro j s _ hj; rw [getB_no] at hj; cases hj
  · intro j k hj; rw [getB_no] at hj; cases hj
  · intro j hj; rw [getB_no] at hj; cases hj
end
end Go.Proofs.YtnjikhhegebkiaaDoor
