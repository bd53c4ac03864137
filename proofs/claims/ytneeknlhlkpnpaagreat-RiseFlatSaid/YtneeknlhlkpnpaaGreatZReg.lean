import Derived.Test.YtneeknlhlkpnpaaGreatZMem
import Derived.Deep.RegionHeld3
import Derived.Test.YtneeknlhlkpnpaaGreatZReach
/-
 append onto a row of the call's own, the source whatever reads as cells (nil let in): in a plain region, and as a step of a region that draws its order. After the kit's page of words for memory, turned to 'Cells'.
-/
namespace Go.Proofs.YtneeknlhlkpnpaaGreat
open Go.RowKit
section
variable {P : Program} {w : World} {t e : TypeId} {z : Value} {size bytes : Nat}
theorem run_append_of_nil {i : TypeInfo} (ty : TypeId) (ht : P.underlying t = some (.slice e)) (hi : P.info? e = some i)
  {base n : Nat} {v : Value} {xs : List Value} (hown : w.ownsRow base e size v n xs) (A : Option Addr) (c : Nat) (hA : A = none) : (Builtin.append_ #[t, t] ty #[v, .slice A 0 c]).run P w = .ok v w := by
 subst hA
 rcases hown.2 with ⟨rfl, rfl⟩ | ⟨g, cap, cur, rfl, _, _, hnc, _⟩
 ·simp [Builtin.append_, run_underlying ht, sizeOf, typeInfo, hi, Builtin.lenOf, Builtin.firstCells]
 ·simp [Builtin.append_, run_underlying ht, sizeOf, typeInfo, hi, Builtin.lenOf, Builtin.firstCells, hnc, storeCells]
theorem run_app_any (hE : Elem P t e z size bytes) (ty : TypeId)
  {base n : Nat} {v : Value} {xs : List Value} (hown : w.ownsRow base e size v n xs)
  {B m : Nat} {A : Option Addr} (c : Nat) {news : List Value} (hr : Cells w B A news) (hl : news.length = m * size) (h1 : news.all (fun u => u.oneCell') = true)
  (hbytes : (n + m) * bytes ≤ 140737488355328) (h63 : n + m ≤ 9223372036854775807) (hbase : base ≤ w.heap.size) :
  ∃ v' w', (Builtin.append_ #[t, t] ty #[v, .slice A m c]).run P w = .ok v' w' ∧ w'.ownsRow base e size v' (n + m) (xs ++ news) ∧ w.grownBy w' v.ownBlock ∧
   (v'.ownBlock = v.ownBlock ∨ v'.ownBlock = some w.heap.size) := by
 obtain ⟨i, ht, hi, hz, hsize, hby, hzs, hsz⟩ := hE
 rcases A with _ | ad
 ·have hm : m = 0 := by
   rcases Nat.eq_zero_or_pos m with h0 | h0
   ·exact h0
   ·obtain ⟨b, off, h, _⟩ := hr (by rw [hl]; exact Nat.mul_pos h0 hsz)
    cases h
  subst hm
  have hn : news = [] := List.eq_nil_of_length_eq_zero (by simpa using hl)
  subst hn
  exact ⟨v, w, run_append_of_nil ty ht hi hown none c rfl, by simpa using hown, World.grownBy.refl w _, .inl rfl⟩
 ·have hcells : ∀ j u, news[j]? = some u → w.cell? (ad.add j) = some u := by
   intro j u hu
   have hpos : 0 < news.length := by
    rcases Nat.eq_zero_or_pos news.length with h0 | h0
    ·rw [List.length_eq_zero_iff.1 h0] at hu; simp at hu
    ·exact h0
   obtain ⟨b, off, h, _, hc⟩ := hr hpos
   injection h with h
   subst h
   have e1 : (⟨b, off, none⟩ : Addr).add j = ⟨b, off + j, none⟩ := by unfold Addr.add; split <;> simp_all
   rw [e1]
   exact hc j u hu
  obtain ⟨v', w', hrun, h2, h3, _, h5⟩ := run_append_own_at (P := P) w base t ty e i z size bytes ht hi hz hsize hby hzs hsz v n xs hown ad m c news hl hcells (fun u hu => List.all_eq_true.1 h1 u hu) (by unfold maxLen; omega) hbytes hbase
  exact ⟨v', w', hrun, h2, h3, h5⟩
theorem wpo_app_any {o : Oper} {a : Act} {K : Act → World → Prop} {Q : Exit → Act → World → Prop} (hE : Elem P t e z size bytes) (s x : Operand)
  (ho : o.op = .call { callee := .builtin .append, args := #[s, x], argTypes := #[t, t] })
  {base n : Nat} {v : Value} {xs : List Value} (hs : a.eval s = v) (hown : w.ownsRow base e size v n xs)
  {B m : Nat} {A : Option Addr} {c : Nat} {news : List Value} (hx : a.eval x = .slice A m c) (hr : Cells w B A news) (hl : news.length = m * size) (h1 : news.all (fun u => u.oneCell') = true)
  (hbytes : (n + m) * bytes ≤ 140737488355328) (h63 : n + m ≤ 9223372036854775807) (hbase : base ≤ w.heap.size)
  (h : ∀ v' w', w'.ownsRow base e size v' (n + m) (xs ++ news) → w.grownBy w' v.ownBlock → (v'.ownBlock = v.ownBlock ∨ v'.ownBlock = some w.heap.size) → K (a.put o.dst v') w') : o.wp P a w K Q := by
 obtain ⟨v', w', hrun, h2, h3, h4⟩ := run_app_any hE o.type hown c hr hl h1 hbytes h63 hbase
 unfold Oper.wp execOp
 simp only [ho, resolve, invoke, builtin, Sem.run_bind, Sem.run_pure, Result.andThen_ok, List.map_toArray, List.map_cons, List.map_nil, hs, hx, hrun]
 exact h v' w' h2 h3 h4
theorem wp_app_any {ops : Array Oper} {rest : List Oper} {o : Oper} {a : Act} {Q : Exit → Act → World → Prop} (hE : Elem P t e z size bytes) (hgd : o.guard = none) (s x : Operand)
  (ho : o.op = .call { callee := .builtin .append, args := #[s, x], argTypes := #[t, t] })
  {base n : Nat} {v : Value} {xs : List Value} (hs : a.eval s = v) (hown : w.ownsRow base e size v n xs)
  {B m : Nat} {A : Option Addr} {c : Nat} {news : List Value} (hx : a.eval x = .slice A m c) (hr : Cells w B A news) (hl : news.length = m * size) (h1 : news.all (fun u => u.oneCell') = true)
  (hbytes : (n + m) * bytes ≤ 140737488355328) (h63 : n + m ≤ 9223372036854775807) (hbase : base ≤ w.heap.size)
  (h : ∀ v' w', w'.ownsRow base e size v' (n + m) (xs ++ news) → w.grownBy w' v.ownBlock → (v'.ownBlock = v.ownBlock ∨ v'.ownBlock = some w.heap.size) → wpList P ops Q rest (a.put o.dst v') w') : wpList P ops Q (o :: rest) a w :=
 wpList_plain hgd fun _ hK => wpo_app_any hE s x ho hs hown hx hr hl h1 hbytes h63 hbase fun v' w' h2 h3 h4 => hK _ _ (h v' w' h2 h3 h4)
end
theorem edgeCells_one (es : List (Int × Int)) : (edgeCells es).all (fun u => u.oneCell') = true := by
 rw [List.all_eq_true]
 intro u hu
 simp only [edgeCells, List.mem_flatMap] at hu
 obtain ⟨e, _, hu⟩ := hu
 simp only [List.mem_cons, List.not_mem_nil, or_false] at hu
 rcases hu with rfl | rfl <;> rfl
theorem elemEdge : Elem Tryz.prog 22 66 (.agg #[.int .i64 0, .int .i64 0]) 2 16 := Elem.mk' Tryz.underlying22 (by kernel_rfl) rfl (by omega)
end Go.Proofs.YtneeknlhlkpnpaaGreat
namespace Go.Proofs.YtneeknlhlkpnpaaGreat
open Go.RowKit
structure PSpec where
 uses : List Nat
 bad : List Nat
 F : (Nat → Value) → Value → World → Prop
def PHold (Fs : List PSpec) (us : Nat → Value) (w : World) : List Nat → Prop
 | [] => True
 | j :: r => (match Fs[j]? with | some s => s.F us (us j) w | none => True) ∧ PHold Fs us w r
def PYields (E : World → World → Prop) (F : Value → World → Prop) (dst : Option Tmp) (a : Act) (w : World) (a' : Act) (w' : World) : Prop := ∃ v, a' = a.put dst v ∧ E w w' ∧ F v w'
def PStep (P : Program) (ops : Array Oper) (E : Nat → World → World → Prop) (W : World → World → Prop) (cls : List Nat) (Fs : List PSpec) (w0 : World) (us : Nat → Value) (o : Oper) (i : Nat) (a : Act) : Prop :=
 match Fs[i]? with
 | none => False
 | some s => ∀ w, W w0 w → PHold Fs us w s.uses →
  if Region.wanted o (yielded ops a.tmps) = true then o.wp P a w (PYields (E (cls.getD i 0)) (s.F us) o.dst a w) (fun _ _ _ => False) else s.F us undef w
def PGo (P : Program) (ops : Array Oper) (E : Nat → World → World → Prop) (W : World → World → Prop) (cls : List Nat) (Fs : List PSpec) (w0 : World) (us : Nat → Value) : List Oper → Nat → Act → Prop
 | [], _, _ => True
 | o :: rest, i, a => PStep P ops E W cls Fs w0 us o i a ∧ PGo P ops E W cls Fs w0 us rest (i + 1) (a.put o.dst (us i))
def lexAt (ops : Array Oper) (us : Nat → Value) : Nat → Act → Act
 | 0, a => a
 | i + 1, a => (lexAt ops us i a).put ((ops[i]?).bind (·.dst)) (us i)
def dep (b : Array Nat) (i j : Nat) : Bool := (b.getD i 0).testBit j
def writerOk (ops : Array Oper) (b : Array Nat) (i : Nat) (t : Tmp) : Bool :=
 (List.range ops.size).all fun j => ((ops[j]?).bind (·.dst)) != some t || (if j < i then dep b i j else j == i || dep b j i)
def killsB (cls bad : List Nat) (d : Nat) : Bool := bad.contains (cls.getD d 0)
def okP (ops : Array Oper) (cls : List Nat) (uses : List (List Nat)) (bad : List (List Nat)) (fin : List Nat) (b : Array Nat) : Bool :=
 (List.range ops.size).all fun i => match ops[i]? with
  | none => false
  | some o =>
   (match o.op with | .select .. => false | _ => true) &&
   (o.after.all fun e => !Region.binds .any e || (decide (e.on < i) && dep b i e.on && (List.range ops.size).all fun k => !dep b e.on k || dep b i k)) &&
   ((List.range ops.size).all fun k => !dep b i k || (o.after.any fun e => Region.binds .any e && (e.on == k || dep b e.on k))) &&
   ((List.range i).all fun j => o.dst == none || ((ops[j]?).bind (·.dst)) != o.dst) &&
   ((o.looksAt ops).all fun t => writerOk ops b i t) &&
   ((uses.getD i []).all fun j => dep b i j && decide (j < ops.size) && (List.range ops.size).all fun d => !killsB cls (bad.getD j []) d || d == i || dep b d i || dep b j d || d == j) &&
   (!fin.contains i || (List.range ops.size).all fun d => !killsB cls (bad.getD i []) d || dep b i d || d == i)
theorem put_size (a : Act) (d : Option Tmp) (v : Value) : (a.put d v).tmps.size = a.tmps.size := by cases d <;> simp [Act.put]
theorem put_defers (a : Act) (d : Option Tmp) (v : Value) : (a.put d v).defers = a.defers := by cases d <;> rfl
theorem put_get (a : Act) (d : Option Tmp) (v : Value) (t : Tmp) (h : d ≠ some t) : (a.put d v).tmps[t]? = a.tmps[t]? := by
 cases d with
 | none => rfl
 | some e =>
  have : e ≠ t := fun he => h (by rw [he])
  simp [Act.put, Array.getElem?_setIfInBounds_ne this]
theorem put_got (a : Act) (v : Value) (t : Tmp) (h : t < a.tmps.size) : (a.put (some t) v).tmps[t]? = some v := by
 simp [Act.put, h]
section
variable {P : Program} {ops : Array Oper} {E : Nat → World → World → Prop} {W : World → World → Prop} {cls : List Nat} {Fs : List PSpec} {fin : List Nat} {b : Array Nat} {a0 : Act} {w0 : World} {us : Nat → Value}
theorem lexAt_size (n : Nat) : (lexAt ops us n a0).tmps.size = a0.tmps.size := by
 induction n with
 | zero => rfl
 | succ n ih => rw [lexAt, put_size, ih]
theorem lexAt_defers (n : Nat) : (lexAt ops us n a0).defers = a0.defers := by
 induction n with
 | zero => rfl
 | succ n ih => rw [lexAt, put_defers, ih]
theorem lexAt_un (n : Nat) (t : Tmp) (h : ∀ j, j < n → ((ops[j]?).bind (·.dst)) ≠ some t) : (lexAt ops us n a0).tmps[t]? = a0.tmps[t]? := by
 induction n with
 | zero => rfl
 | succ n ih => rw [lexAt, put_get _ _ _ _ (h n (by omega)), ih fun j hj => h j (by omega)]
theorem lexAt_set (n j : Nat) (t : Tmp) (hj : j < n) (hw : ((ops[j]?).bind (·.dst)) = some t) (ht : t < a0.tmps.size) (hu : ∀ k, k < n → k ≠ j → ((ops[k]?).bind (·.dst)) ≠ some t) :
  (lexAt ops us n a0).tmps[t]? = some (us j) := by
 induction n with
 | zero => omega
 | succ n ih =>
  rw [lexAt]
  by_cases h : j = n
  ·subst h; rw [hw, put_got _ _ _ (by rw [lexAt_size]; exact ht)]
  ·rw [put_get _ _ _ _ (hu n (by omega) (by omega)), ih (by omega) fun k hk => hu k (by omega)]
theorem getD_of_get {xs ys : Array Value} {t : Nat} (h : xs[t]? = ys[t]?) : xs.getD t undef = ys.getD t undef := by
 simp only [Array.getD_eq_getD_getElem?, h]
theorem upon_transfer {o : Oper} {a a' : Act} {K K' : Act → World → Prop} {Q : Exit → Act → World → Prop} (r : Result Next) (hd : ∀ v w, K (a.put o.dst v) w → K' (a'.put o.dst v) w)
  (hdef : ∀ d w, ¬ K ({ a with defers := d :: a.defers }.put o.dst undef) w) (h : o.upon P a K (fun _ _ _ => False) r) : o.upon P a' K' Q r := by
 cases r with
 | ok n w =>
  cases n <;> simp only [Oper.upon] at h ⊢
  case value v => exact hd _ _ h
  case skip => exact hd _ _ h
  case defer d => exact absurd h (hdef _ _)
  case enter f args =>
   refine Calls.mono h fun e w'' he => ?_
   cases e with
   | returned v => exact hd _ _ he
   | panicked c => exact he.elim
   | outgrown => obtain ⟨_, _, hf⟩ := he; exact hf.elim
  case row row args => exact Rows.mono h fun v w'' he => hd _ _ he
 | halt x w =>
  cases x <;> simp only [Oper.upon] at h
theorem lex_eval {us : Nat → Value} {a : Act} {L : Nat → Bool} {i : Nat} {o : Oper} (_hi : ops[i]? = some o) (hLi : L i = false)
  (hset : ∀ (j : Nat) (t : Tmp), L j = true → ((ops[j]?).bind (·.dst)) = some t → t < a0.tmps.size → a.tmps[t]? = some (us j))
  (hun : ∀ t : Tmp, (∀ j : Nat, L j = true → ((ops[j]?).bind (·.dst)) ≠ some t) → a.tmps[t]? = a0.tmps[t]?) (hsz : a.tmps.size = a0.tmps.size)
  (hcl : ∀ j k, L j = true → dep b j k = true → L k = true) (hdeps : ∀ j, dep b i j = true → L j = true)
  (huniq : ∀ (j k : Nat) (t : Tmp), ((ops[j]?).bind (·.dst)) = some t → ((ops[k]?).bind (·.dst)) = some t → j = k)
  {t : Tmp} (hw : writerOk ops b i t = true) : a.tmps[t]? = (lexAt ops us i a0).tmps[t]? := by
 simp only [writerOk, List.all_eq_true, List.mem_range, Bool.or_eq_true, bne_iff_ne, ne_eq] at hw
 by_cases hex : ∃ j : Nat, ((ops[j]?).bind (·.dst)) = some t
 ·obtain ⟨j, hj⟩ := hex
  have hjs : j < ops.size := by
   rcases Nat.lt_or_ge j ops.size with h | h
   ·exact h
   ·rw [Array.getElem?_eq_none h] at hj; simp at hj
  have hjw := (hw j hjs).resolve_left (by simp [hj])
  by_cases hts : t < a0.tmps.size
  ·by_cases hji : j < i
   ·rw [if_pos hji] at hjw
    rw [hset j t (hdeps j hjw) hj hts, lexAt_set i j t hji hj hts fun k _ hkj hk => hkj (huniq k j t hk hj)]
   ·rw [if_neg hji] at hjw
    have hnl : L j = false := by
     simp only [Bool.or_eq_true, beq_iff_eq] at hjw
     rcases hjw with h | h
     ·rw [h]; exact hLi
     ·cases hL : L j with
      | false => rfl
      | true => have := hcl j i hL h; rw [hLi] at this; cases this
    have h1 := hun t (fun k hk hkt => by rw [huniq k j t hkt hj, hnl] at hk; cases hk)
    have h2 := lexAt_un (ops := ops) (us := us) (a0 := a0) i t (fun k hk hkt => by have := huniq k j t hkt hj; omega)
    rw [h1, h2]
  ·rw [Array.getElem?_eq_none (by rw [hsz]; exact Nat.not_lt.1 hts), Array.getElem?_eq_none (by rw [lexAt_size]; exact Nat.not_lt.1 hts)]
 ·have h1 := hun t (fun k _ hk => hex ⟨k, hk⟩)
  have h2 := lexAt_un (ops := ops) (us := us) (a0 := a0) i t (fun k _ hk => hex ⟨k, hk⟩)
  rw [h1, h2]
structure PInv (ops : Array Oper) (W : World → World → Prop) (cls : List Nat) (Fs : List PSpec) (b : Array Nat) (a0 : Act) (w0 : World) (us : Nat → Value) (L : Nat → Bool) (a : Act) (w : World) : Prop where
 size : a.tmps.size = a0.tmps.size
 defers : a.defers = a0.defers
 set : ∀ (j : Nat) (t : Tmp), L j = true → ((ops[j]?).bind (·.dst)) = some t → t < a0.tmps.size → a.tmps[t]? = some (us j)
 un : ∀ t : Tmp, (∀ j : Nat, L j = true → ((ops[j]?).bind (·.dst)) ≠ some t) → a.tmps[t]? = a0.tmps[t]?
 world : W w0 w
 facts : ∀ (j : Nat) (s : PSpec), Fs[j]? = some s → L j = true → (∀ d, killsB cls s.bad d = true → L d = true → dep b j d = true ∨ d = j) → s.F us (us j) w
 closed : ∀ j k, L j = true → dep b j k = true → L k = true
 bound : ∀ j, L j = true → j < ops.size
structure POk (ops : Array Oper) (cls : List Nat) (Fs : List PSpec) (fin : List Nat) (b : Array Nat) : Prop where
 sel : ∀ (i : Nat) (o : Oper), ops[i]? = some o → ∀ cs bl, o.op ≠ .select cs bl
 back : ∀ (i : Nat) (o : Oper), ops[i]? = some o → ∀ e ∈ o.after, Region.binds .any e = true → e.on < i ∧ dep b i e.on = true
 clo : ∀ (i : Nat) (o : Oper), ops[i]? = some o → ∀ k, k < ops.size → dep b i k = true → ∃ e ∈ o.after, Region.binds .any e = true ∧ (e.on = k ∨ dep b e.on k = true)
 uniq : ∀ (j k : Nat) (t : Tmp), ((ops[j]?).bind (·.dst)) = some t → ((ops[k]?).bind (·.dst)) = some t → j = k
 look : ∀ (i : Nat) (o : Oper), ops[i]? = some o → ∀ t ∈ o.looksAt ops, writerOk ops b i t = true
 uses : ∀ (i : Nat) (s : PSpec), i < ops.size → Fs[i]? = some s → ∀ j ∈ s.uses, dep b i j = true ∧ j < ops.size ∧ ∀ s', Fs[j]? = some s' → ∀ d, d < ops.size → killsB cls s'.bad d = true → d = i ∨ dep b d i = true ∨ dep b j d = true ∨ d = j
 last : ∀ i ∈ fin, ∀ s, Fs[i]? = some s → ∀ d, d < ops.size → killsB cls s.bad d = true → dep b i d = true ∨ d = i
 fins : ∀ i ∈ fin, i < ops.size
 trans : ∀ (i : Nat) (o : Oper), ops[i]? = some o → ∀ e ∈ o.after, Region.binds .any e = true → ∀ k, k < ops.size → dep b e.on k = true → dep b i k = true
 small : ∀ i k, i < ops.size → dep b i k = true → k < ops.size
theorem all_at {n : Nat} {p : Nat → Bool} (h : (List.range n).all p = true) {i : Nat} (hi : i < n) : p i = true := List.all_eq_true.1 h i (List.mem_range.2 hi)
theorem pok_of (h : okP ops cls (Fs.map (·.uses)) (Fs.map (·.bad)) fin b = true) (hf : fin.all (fun i => decide (i < ops.size)) = true) (hb : (List.range ops.size).all (fun i => decide (b.getD i 0 < 2 ^ ops.size)) = true) : POk ops cls Fs fin b := by
 have lt : ∀ {i : Nat} {o : Oper}, ops[i]? = some o → i < ops.size := fun {i o} hi => (Array.getElem?_eq_some_iff.1 hi).1
 have at_ : ∀ {i : Nat} {o : Oper}, ops[i]? = some o → _ := fun {i o} hi => by
  have := all_at h (lt hi)
  simp only [hi] at this
  exact this
 simp only [Bool.and_eq_true] at at_
 refine ⟨?_, ?_, ?_, ?_, ?_, ?_, ?_, ?_, ?_, ?_⟩
 ·intro i o hi cs bl he
  have := (at_ hi).1.1.1.1.1.1
  rw [he] at this
  cases this
 ·intro i o hi e he hbd
  have := Array.all_eq_true_iff_forall_mem.1 (at_ hi).1.1.1.1.1.2 e he
  simp only [Bool.and_eq_true, decide_eq_true_eq, Bool.or_eq_true, Bool.not_eq_true'] at this
  rcases this with h2 | h2
  ·rw [hbd] at h2; cases h2
  ·exact h2.1
 ·intro i o hi k hk hd
  have := all_at (at_ hi).1.1.1.1.2 hk
  simp only [Bool.or_eq_true, Bool.not_eq_true', hd] at this
  have := this.resolve_left (by simp)
  obtain ⟨e, he, h2⟩ := Array.any_eq_true'.1 this
  simp only [Bool.and_eq_true, Bool.or_eq_true, beq_iff_eq] at h2
  exact ⟨e, he, h2.1, h2.2⟩
 ·have key : ∀ (j k : Nat) (t : Tmp), j < k → ((ops[j]?).bind (·.dst)) = some t → ((ops[k]?).bind (·.dst)) = some t → False := by
   intro j k t hjk hj hk
   cases ho : ops[k]? with
   | none => rw [ho] at hk; cases hk
   | some o =>
    have := all_at (at_ ho).1.1.1.2 hjk
    rw [ho] at hk
    have hk' : o.dst = some t := hk
    simp [hk', hj] at this
  intro j k t hj hk
  rcases Nat.lt_trichotomy j k with h1 | h1 | h1
  ·exact (key j k t h1 hj hk).elim
  ·exact h1
  ·exact (key k j t h1 hk hj).elim
 ·intro i o hi t ht
  exact List.all_eq_true.1 (at_ hi).1.1.2 t ht
 ·intro i s hi hs j hj
  obtain ⟨o, ho⟩ : ∃ o, ops[i]? = some o := ⟨ops[i], Array.getElem?_eq_getElem hi⟩
  have hu : (Fs.map (·.uses)).getD i [] = s.uses := by simp [hs]
  have := (at_ ho).1.2
  rw [hu] at this
  have := List.all_eq_true.1 this j hj
  simp only [Bool.and_eq_true, decide_eq_true_eq] at this
  refine ⟨this.1.1, this.1.2, fun s' hs' d hds hkd => ?_⟩
  have e2 : (Fs.map (·.bad)).getD j [] = s'.bad := by simp [hs']
  have h3 := all_at this.2 hds
  rw [e2, hkd] at h3
  simp only [Bool.or_eq_true, beq_iff_eq, Bool.not_true, Bool.false_eq_true, false_or] at h3
  rcases h3 with ((h4 | h4) | h4) | h4
  ·exact .inl h4
  ·exact .inr (.inl h4)
  ·exact .inr (.inr (.inl h4))
  ·exact .inr (.inr (.inr h4))
 ·intro i hi s hs
  have hib : i < ops.size := by simpa using List.all_eq_true.1 hf i hi
  obtain ⟨o, ho⟩ : ∃ o, ops[i]? = some o := ⟨ops[i], Array.getElem?_eq_getElem hib⟩
  have := (at_ ho).2
  have e2 : (Fs.map (·.bad)).getD i [] = s.bad := by simp [hs]
  intro d hds hkd
  simp only [Bool.or_eq_true, Bool.not_eq_true'] at this
  rcases this with h3 | h3
  ·rw [List.contains_iff_mem.2 hi] at h3; cases h3
  ·have h3 := all_at h3 hds
   rw [e2, hkd] at h3
   simpa using h3
 ·intro i hi
  simpa using List.all_eq_true.1 hf i hi
 ·intro i o hi e he hbd k hk hd
  have := Array.all_eq_true_iff_forall_mem.1 (at_ hi).1.1.1.1.1.2 e he
  simp only [Bool.and_eq_true, decide_eq_true_eq, Bool.or_eq_true, Bool.not_eq_true'] at this
  rcases this with h2 | h2
  ·rw [hbd] at h2; cases h2
  ·have := all_at h2.2 hk
   simpa [hd] using this
 ·intro i k hi hd
  have h1 := all_at hb hi
  rcases Nat.lt_or_ge k ops.size with h2 | h2
  ·exact h2
  ·exfalso
   have h3 : b.getD i 0 < 2 ^ k := Nat.lt_of_lt_of_le (by simpa using h1) (Nat.pow_le_pow_right (by omega) h2)
   unfold dep at hd
   rw [Nat.testBit_lt_two_pow h3] at hd
   cases hd
theorem wanted_congr {o : Oper} {a a' : Act} (h : ∀ t ∈ o.looksAt ops, a.tmps[t]? = a'.tmps[t]?) : Region.wanted o (yielded ops a.tmps) = Region.wanted o (yielded ops a'.tmps) := by
 unfold Region.wanted
 cases hg : o.guard with
 | none => rfl
 | some p =>
  obtain ⟨g, want⟩ := p
  have : yielded ops a.tmps g = yielded ops a'.tmps g := by
   unfold yielded
   cases hd : (ops[g]?).bind (·.dst) with
   | none => rfl
   | some t =>
    have := h t (by unfold Oper.looksAt; rw [hg]; simp [hd])
    simp only [Option.bind_some, this]
  simp only [this]
theorem eval_congr {o : Oper} {a a' : Act} (h : ∀ t ∈ o.looksAt ops, a.tmps[t]? = a'.tmps[t]?) : ∀ x ∈ o.op.operands, a.eval x = a'.eval x := by
 intro x hx
 cases x with
 | tmp t =>
  have := h t (by unfold Oper.looksAt; exact List.mem_append_left _ (List.mem_filterMap.2 ⟨.tmp t, by simpa using hx, rfl⟩))
  exact getD_of_get this
 | const v => rfl
 | global g => rfl
 | func f => rfl
theorem PHold_of {w : World} {l : List Nat} (h : ∀ j ∈ l, ∀ s, Fs[j]? = some s → s.F us (us j) w) : PHold Fs us w l := by
 induction l with
 | nil => trivial
 | cons j r ih =>
  refine ⟨?_, ih fun k hk => h k (List.mem_cons_of_mem _ hk)⟩
  cases hs : Fs[j]? with
  | none => trivial
  | some s => exact h j (List.mem_cons_self ..) s hs
theorem step_inv (hok : POk ops cls Fs fin b) (hW : ∀ a b c, W a b → W b c → W a c) (hRW : ∀ c a b, E c a b → W a b) (hR : ∀ c a, E c a a)
  (hst : ∀ s ∈ Fs, ∀ c, s.bad.contains c = false → ∀ us v w w', E c w w' → s.F us v w → s.F us v w')
  (hcg : ∀ s ∈ Fs, ∀ us us', (∀ j ∈ s.uses, us j = us' j) → ∀ v w, s.F us v w → s.F us' v w)
  {i : Nat} {o : Oper} {L : Nat → Bool} {a : Act} {w : World} {Q : Exit → Act → World → Prop} (hi : ops[i]? = some o) (hLi : L i = false) (hready : ∀ e ∈ o.after, Region.binds .any e = true → L e.on = true)
  (hinv : PInv ops W cls Fs b a0 w0 us L a w) (hstep : PStep P ops E W cls Fs w0 us o i (lexAt ops us i a0)) :
  wpOp P ops Q i (fun a' w' => ∃ us', PInv ops W cls Fs b a0 w0 us' (fun k => k == i || L k) a' w') a w := by
 have hib : i < ops.size := (Array.getElem?_eq_some_iff.1 hi).1
 have hdeps : ∀ j, dep b i j = true → L j = true := by
  intro j hj
  obtain ⟨e, he, hbd, h⟩ := hok.clo i o hi j (hok.small i j hib hj) hj
  rcases h with h | h
  ·rw [← h]; exact hready e he hbd
  ·exact hinv.closed _ _ (hready e he hbd) h
 have hlook : ∀ t ∈ o.looksAt ops, a.tmps[t]? = (lexAt ops us i a0).tmps[t]? := fun t ht =>
  lex_eval hi hLi hinv.set hinv.un hinv.size hinv.closed hdeps hok.uniq (hok.look i o hi t ht)
 have hexec : execOp a.eval o = execOp (lexAt ops us i a0).eval o := execOp_congr o (hok.sel i o hi) (eval_congr hlook)
 have next : ∀ (s : PSpec) (v : Value) (w' : World), Fs[i]? = some s → E (cls.getD i 0) w w' → s.F us v w' →
   ∃ us', PInv ops W cls Fs b a0 w0 us' (fun k => k == i || L k) (a.put o.dst v) w' := by
  intro s v w' hs hww hF
  have hw' : W w w' := hRW _ _ _ hww
  have hne : ∀ j, L j = true → j ≠ i := fun j hj e => by rw [e, hLi] at hj; cases hj
  have hdi : (ops[i]?).bind (·.dst) = o.dst := by rw [hi]; rfl
  refine ⟨fun k => if k = i then v else us k, ?_, ?_, ?_, ?_, hW _ _ _ hinv.world hw', ?_, ?_, ?_⟩
  ·rw [put_size, hinv.size]
  ·rw [put_defers, hinv.defers]
  ·intro j t hj hjt hts
   by_cases hji : j = i
   ·subst hji
    rw [hdi] at hjt
    rw [hjt, put_got _ _ _ (by rw [hinv.size]; exact hts), if_pos rfl]
   ·have hLj : L j = true := by simpa [hji] using hj
    rw [put_get _ _ _ _ (fun e => hji (hok.uniq j i t hjt (by rw [hdi]; exact e))), hinv.set j t hLj hjt hts, if_neg hji]
  ·intro t ht
   rw [put_get _ _ _ _ (fun e => ht i (by simp) (by rw [hdi]; exact e)), hinv.un t fun j hj => ht j (by simp [hj])]
  ·intro j s' hs' hj hcond
   have hmem : s' ∈ Fs := List.mem_of_getElem? hs'
   by_cases hji : j = i
   ·subst hji
    rw [if_pos rfl]
    refine hcg s' hmem us _ (fun k hk => ?_) _ _ ?_
    ·have hkL := hdeps k (hok.uses j s' hib hs' k hk).1
     rw [if_neg (hne k hkL)]
    ·rw [hs] at hs'; injection hs' with hs'; subst hs'; exact hF
   ·have hLj : L j = true := by simpa [hji] using hj
    rw [if_neg hji]
    refine hcg s' hmem us _ (fun k hk => ?_) _ _ ?_
    ·have hkL := hinv.closed j k hLj (hok.uses j s' (hinv.bound j hLj) hs' k hk).1
     rw [if_neg (hne k hkL)]
    ·cases hk : killsB cls s'.bad i with
     | true =>
      rcases hcond i hk (by simp) with h2 | h2
      ·have := hinv.closed j i hLj h2; rw [hLi] at this; cases this
      ·exact absurd h2.symm hji
     | false => exact hst s' hmem _ hk _ _ _ _ hww (hinv.facts j s' hs' hLj (fun d hd hLd => hcond d hd (by simp [hLd])))
  ·intro j k hj hjk
   by_cases hji : j = i
   ·subst hji; simp [hdeps k hjk]
   ·have hLj : L j = true := by simpa [hji] using hj
    simp [hinv.closed j k hLj hjk]
  ·intro j hj
   by_cases hji : j = i
   ·subst hji; exact hib
   ·exact hinv.bound j (by simpa [hji] using hj)
 unfold PStep at hstep
 cases hs : Fs[i]? with
 | none => rw [hs] at hstep; exact hstep.elim
 | some s =>
  rw [hs] at hstep
  have hh := hstep w hinv.world (PHold_of fun j hj s' hs' => by
   obtain ⟨h1, h2, h3⟩ := hok.uses i s hib hs j hj
   refine hinv.facts j s' hs' (hdeps j h1) (fun d hd hLd => ?_)
   rcases h3 s' hs' d (hinv.bound d hLd) hd with h4 | h4 | h4 | h4
   ·rw [h4, hLi] at hLd; cases hLd
   ·have := hinv.closed d i hLd h4; rw [hLi] at this; cases this
   ·exact .inl h4
   ·exact .inr h4)
  rw [← wanted_congr hlook] at hh
  unfold wpOp
  simp only [hi]
  by_cases hw : Region.wanted o (yielded ops a.tmps) = true
  ·rw [if_pos hw] at hh ⊢
   refine .inl ?_
   unfold Oper.wp at hh ⊢
   rw [hexec]
   refine upon_transfer _ (fun v w' hk => ?_) (fun d w' hk => ?_) hh
   ·obtain ⟨u, hu, hE, hF⟩ := hk
    by_cases hd : o.dst = none
    · -- nothing is written: the value is the fact's own
     rw [show a.put o.dst v = a.put o.dst u by rw [hd]; rfl]
     exact next s u w' hs hE hF
    ·obtain ⟨t, ht⟩ := Option.ne_none_iff_exists'.1 hd
     by_cases hts : t < a0.tmps.size
     ·have e1 := put_got (lexAt ops us i a0) v t (by rw [lexAt_size]; exact hts)
      have e2 := put_got (lexAt ops us i a0) u t (by rw [lexAt_size]; exact hts)
      rw [ht] at hu
      rw [hu, e2] at e1
      injection e1 with e1
      subst e1
      exact next s u w' hs hE hF
     ·have e3 : ∀ x : Value, a.put o.dst x = a := fun x => by
       rw [ht]; unfold Act.put
       simp only
       rw [Array.setIfInBounds_eq_of_size_le (by rw [hinv.size]; exact Nat.not_lt.1 hts)]
      rw [e3 v, ← e3 u]
      exact next s u w' hs hE hF
   ·obtain ⟨u, hu, _, _⟩ := hk
    have := congrArg Act.defers hu
    rw [put_defers, put_defers] at this
    have := congrArg List.length this
    simp at this
  ·rw [if_neg hw] at hh ⊢
   exact next s undef w hs (hR _ w) hh
theorem PGo_at {l : List Oper} {k : Nat} {a : Act} (h : PGo P ops E W cls Fs w0 us l k a) : ∀ (d : Nat) (o : Oper), l[d]? = some o → ∃ a', a' = (List.range d).foldl (fun x j => x.put ((l[j]?).bind (·.dst)) (us (k + j))) a ∧ PStep P ops E W cls Fs w0 us o (k + d) a' := by
 induction l generalizing k a with
 | nil => intro d o hd; simp at hd
 | cons x r ih =>
  intro d o hd
  cases d with
  | zero =>
   simp only [List.getElem?_cons_zero, Option.some.injEq] at hd
   subst hd
   exact ⟨a, rfl, h.1⟩
  | succ d =>
   obtain ⟨a', ha', hs⟩ := ih h.2 d o (by simpa using hd)
   refine ⟨a', ?_, by rw [← Nat.add_assoc, Nat.add_right_comm]; exact hs⟩
   rw [ha', List.range_succ_eq_map, List.foldl_cons, List.foldl_map]
   simp only [List.getElem?_cons_zero, Option.bind_some, Nat.add_zero, List.getElem?_cons_succ, Nat.add_succ, Nat.succ_add]
theorem lexAt_fold (n : Nat) (a : Act) : lexAt ops us n a = (List.range n).foldl (fun x j => x.put ((ops.toList[j]?).bind (·.dst)) (us (0 + j))) a := by
 induction n with
 | zero => rfl
 | succ n ih => rw [lexAt, ih, List.range_succ, List.foldl_append]; simp
theorem PGo_lex (h : PGo P ops E W cls Fs w0 us ops.toList 0 a0) {i : Nat} {o : Oper} (hi : ops[i]? = some o) : PStep P ops E W cls Fs w0 us o i (lexAt ops us i a0) := by
 obtain ⟨a', ha', hs⟩ := PGo_at h i o (by simpa using hi)
 rw [lexAt_fold, ← ha']
 simpa using hs
def getB (listed : Array Bool) (k : Nat) : Bool := listed.getD k false
theorem getB_no (n j : Nat) : getB (Array.replicate n false) j = false := by
 unfold getB
 simp only [Array.getD_eq_getD_getElem?, Array.getElem?_replicate]
 split <;> rfl
theorem any_inv (hok : POk ops cls Fs fin b) (hW : ∀ a b c, W a b → W b c → W a c) (hRW : ∀ c a b, E c a b → W a b) (hR : ∀ c a, E c a a)
  (hst : ∀ s ∈ Fs, ∀ c, s.bad.contains c = false → ∀ us v w w', E c w w' → s.F us v w → s.F us v w')
  (hcg : ∀ s ∈ Fs, ∀ us us', (∀ j ∈ s.uses, us j = us' j) → ∀ v w, s.F us v w → s.F us' v w) {Q : Exit → Act → World → Prop}
  (hgo : ∀ us, PGo P ops E W cls Fs w0 us ops.toList 0 a0)
  (hfin : ∀ us w, W w0 w → PHold Fs us w fin → Q .normal (lexAt ops us ops.size a0) w) :
  ∀ (fuel : Nat) (listed : Array Bool) (a : Act) (w : World), listed.size = ops.size → listed.toList.count false ≤ fuel →
   (∃ us, PInv ops W cls Fs b a0 w0 us (getB listed) a w) → wpAny P .any ops Q fuel listed a w := by
 have done : ∀ (listed : Array Bool) (a : Act) (w : World), listed.size = ops.size → Region.ready .any ops listed = [] → (∃ us, PInv ops W cls Fs b a0 w0 us (getB listed) a w) → Q .normal a w := by
  intro listed a w hsz hr ⟨us, hinv⟩
  have hall : ∀ i, i < ops.size → getB listed i = true := by
   intro i
   induction i using Nat.strongRecOn with
   | _ i ih =>
    intro hi
    cases hL : getB listed i with
    | true => rfl
    | false =>
     exfalso
     have : i ∈ Region.ready .any ops listed := by
      unfold Region.ready
      rw [List.mem_filter]
      refine ⟨List.mem_range.2 hi, ?_⟩
      have e1 : listed.getD i true = false := by
       unfold getB at hL
       simp only [Array.getD_eq_getD_getElem?] at hL ⊢
       rw [Array.getElem?_eq_getElem (by omega)] at hL ⊢
       exact hL
      simp only [e1, Bool.not_false, Bool.true_and, Array.getElem?_eq_getElem hi, Option.map_some, Option.getD_some]
      rw [Array.all_eq_true_iff_forall_mem]
      intro e he
      cases hbd : Region.binds .any e with
      | false => rfl
      | true =>
       obtain ⟨h1, _⟩ := hok.back i _ (Array.getElem?_eq_getElem hi) e he hbd
       have := ih e.on h1 (by omega)
       unfold getB at this
       rw [this]; simp
     rw [hr] at this
     cases this
  have ha : a = lexAt ops us ops.size a0 := by
   have h1 : a.tmps = (lexAt ops us ops.size a0).tmps := by
    refine Array.ext_getElem? fun t => ?_
    by_cases hex : ∃ j : Nat, ((ops[j]?).bind (·.dst)) = some t
    ·obtain ⟨j, hj⟩ := hex
     have hjs : j < ops.size := by
      rcases Nat.lt_or_ge j ops.size with h | h
      ·exact h
      ·rw [Array.getElem?_eq_none h] at hj; simp at hj
     by_cases hts : t < a0.tmps.size
     ·rw [hinv.set j t (hall j hjs) hj hts, lexAt_set ops.size j t hjs hj hts fun k _ hkj hk => hkj (hok.uniq k j t hk hj)]
     ·rw [Array.getElem?_eq_none (by rw [hinv.size]; exact Nat.not_lt.1 hts), Array.getElem?_eq_none (by rw [lexAt_size]; exact Nat.not_lt.1 hts)]
    ·have h1 := hinv.un t (fun k _ hk => hex ⟨k, hk⟩)
     have h2 := lexAt_un (ops := ops) (us := us) (a0 := a0) ops.size t (fun k _ hk => hex ⟨k, hk⟩)
     rw [h1, h2]
   have h2 : a.defers = (lexAt ops us ops.size a0).defers := by rw [hinv.defers, lexAt_defers]
   cases a
   cases hq : lexAt ops us ops.size a0
   rw [hq] at h1 h2
   simp only at h1 h2
   rw [h1, h2]
  rw [ha]
  refine hfin us w hinv.world (PHold_of fun j hj s hs => ?_)
  refine hinv.facts j s hs (hall j (hok.fins j hj)) (fun d hd hLd => hok.last j hj s hs d (hinv.bound d hLd) hd)
 intro fuel
 induction fuel with
 | zero =>
  intro listed a w hsz hc hinv
  have hr : Region.ready .any ops listed = [] := by
   unfold Region.ready
   rw [List.filter_eq_nil_iff]
   intro i hi
   have hi := List.mem_range.1 hi
   have : listed.getD i true = true := by
    cases h : listed.getD i true with
    | true => rfl
    | false =>
     exfalso
     have hm : false ∈ listed.toList := by
      simp only [Array.getD_eq_getD_getElem?] at h
      rw [Array.getElem?_eq_getElem (by omega)] at h
      simp only [Option.getD_some] at h
      rw [← h]; exact Array.getElem_mem_toList _
     have := List.count_pos_iff.2 hm
     omega
   rw [this]; simp
  exact ⟨hr, done listed a w hsz hr hinv⟩
 | succ fuel ih =>
  intro listed a w hsz hc hinv
  refine ⟨fun hr => done listed a w hsz hr hinv, fun i hi => ?_⟩
  obtain ⟨us, hinv⟩ := hinv
  unfold Region.ready at hi
  rw [List.mem_filter] at hi
  obtain ⟨hib, hr⟩ := hi
  have hib := List.mem_range.1 hib
  rw [Array.getElem?_eq_getElem hib] at hr
  simp only [Option.map_some, Option.getD_some, Bool.and_eq_true, Bool.not_eq_true'] at hr
  obtain ⟨hu, hedges⟩ := hr
  have hLi : getB listed i = false := by
   unfold getB
   simp only [Array.getD_eq_getD_getElem?] at hu ⊢
   rw [Array.getElem?_eq_getElem (by omega)] at hu ⊢
   exact hu
  refine wpOp_mono (fun a' w' h' => ?_) (step_inv hok hW hRW hR hst hcg (Array.getElem?_eq_getElem hib) hLi (fun e he hbd => ?_) hinv (PGo_lex (hgo us) (Array.getElem?_eq_getElem hib)))
  ·refine ih _ a' w' (by simpa using hsz) ?_ ?_
   ·have hlt : i < listed.toList.length := by simpa using (show i < listed.size by omega)
    have e1 : listed.toList[i] = false := by
     unfold getB at hLi
     simp only [Array.getD_eq_getD_getElem?] at hLi
     rw [Array.getElem?_eq_getElem (by omega)] at hLi
     simpa using hLi
    have : (listed.setIfInBounds i true).toList = listed.toList.set i true := by simp
    rw [this, List.count_set hlt]
    rw [e1]
    show listed.toList.count false - 1 + 0 ≤ fuel
    omega
   ·obtain ⟨us', h'⟩ := h'
    refine ⟨us', ?_⟩
    have : getB (listed.setIfInBounds i true) = fun k => k == i || getB listed k := by
     funext k
     unfold getB
     simp only [Array.getD_eq_getD_getElem?, Array.getElem?_setIfInBounds]
     by_cases hk : i = k
     ·subst hk; simp [show i < listed.size by omega]
     ·simp [hk, Ne.symm hk]
    rw [this]; exact h'
  ·have := Array.all_eq_true_iff_forall_mem.1 hedges e he
   simpa [hbd, getB] using this
theorem wp_region_p {id : Nat} {l : List Oper} {Q : Exit → Act → World → Prop} {a0 : Act} {w : World} (E : Nat → World → World → Prop) (W : World → World → Prop) (cls : List Nat) (Fs : List PSpec) (fin : List Nat) (b : Array Nat)
  (hm : P.follows .mixedOrders = true)
  (hok : (okP l.toArray cls (Fs.map (·.uses)) (Fs.map (·.bad)) fin b && fin.all (fun i => decide (i < l.toArray.size)) && (List.range l.toArray.size).all (fun i => decide (b.getD i 0 < 2 ^ l.toArray.size))) = true)
  (hW : ∀ a b c, W a b → W b c → W a c) (hRW : ∀ c a b, E c a b → W a b) (hR : ∀ c a, E c a a)
  (hst : ∀ s ∈ Fs, ∀ c, s.bad.contains c = false → ∀ us v w w', E c w w' → s.F us v w → s.F us v w')
  (hcg : ∀ s ∈ Fs, ∀ us us', (∀ j ∈ s.uses, us j = us' j) → ∀ v w, s.F us v w → s.F us' v w)
  (hgo : ∀ us, PGo P l.toArray E W cls Fs w.drew us l 0 a0)
  (hfin : ∀ us w', W w.drew w' → PHold Fs us w' fin → Q .normal (lexAt l.toArray us l.toArray.size a0) w') : (Code.region id l.toArray true).wp P Q a0 w := by
 simp only [Bool.and_eq_true] at hok
 refine wp_region_any hm (any_inv (b := b) (pok_of hok.1.1 hok.1.2 hok.2) hW hRW hR hst hcg (by simpa using hgo) hfin _ _ _ _ (by simp) (by simp) ⟨fun _ => undef, rfl, rfl, ?_, fun _ _ => rfl, hRW 0 _ _ (hR 0 _), ?_, ?_, ?_⟩)
 ·intro j t hj; rw [getB_no] at hj; cases hj
 ·intro j s _ hj; rw [getB_no] at hj; cases hj
 ·intro j k hj; rw [getB_no] at hj; cases hj
 ·intro j hj; rw [getB_no] at hj; cases hj
end
end Go.Proofs.YtneeknlhlkpnpaaGreat
namespace Go.Proofs.YtneeknlhlkpnpaaGreat
open Go.RowKit
structure Evo (B : Nat) (T : List TypeId) (w w' : World) : Prop where
 os : w'.os = w.os
 tape : w'.tape = w.tape
 output : w'.output = w.output
 size : w.heap.size ≤ w'.heap.size
 keep : ∀ k, k < w.heap.size → (k < B ∨ ∀ cs t fr, w.heap[k]? = some (.cells cs t fr) → t ∉ T) → w'.heap[k]? = w.heap[k]?
section
variable {B : Nat} {T T' : List TypeId} {w w' w'' : World}
theorem Evo.refl (B : Nat) (T : List TypeId) (w : World) : Evo B T w w := ⟨rfl, rfl, rfl, Nat.le_refl _, fun _ _ _ => rfl⟩
theorem Evo.trans (h : Evo B T w w') (k : Evo B T w' w'') : Evo B T w w'' :=
 ⟨k.os.trans h.os, k.tape.trans h.tape, k.output.trans h.output, Nat.le_trans h.size k.size, fun i hi hk => by
  have e := h.keep i hi hk
  rw [← e]
  exact k.keep i (Nat.lt_of_lt_of_le hi h.size) (hk.imp id fun h2 => by rw [e]; exact h2)⟩
theorem Evo.mono (h : Evo B T w w') (hT : ∀ t ∈ T, t ∈ T') : Evo B T' w w' :=
 ⟨h.os, h.tape, h.output, h.size, fun k hk hc => h.keep k hk (hc.imp id fun h2 cs t fr e ht => h2 cs t fr e (hT t ht))⟩
theorem Evo.of_below (h : Below w.heap.size w w') : Evo B T w w' := ⟨h.os, h.tape, h.output, h.size, fun k hk _ => h.block k hk⟩
theorem Evo.below (h : Evo B T w w') (hB : B ≤ w.heap.size) : Below B w w' := ⟨h.os, h.tape, h.output, h.size, fun k hk => h.keep k (by omega) (.inl hk)⟩
theorem Evo.of_grown {base size n : Nat} {e : TypeId} {v : Value} {xs : List Value} (hown : w.ownsRow base e size v n xs) (hg : w.grownBy w' v.ownBlock) (he : e ∈ T) (hb : B ≤ base) : Evo B T w w' := by
 refine ⟨hg.os, hg.tape, hg.output, hg.size, fun k hk hc => ?_⟩
 by_cases hkk : some k = v.ownBlock
 ·exfalso
  obtain ⟨hl1, _⟩ := hown.lt k hkk.symm
  rcases hc with h | h
  ·omega
  ·rcases hown.2 with ⟨rfl, _⟩ | ⟨g, cap, cur, rfl, hbg, hh, _⟩
   ·simp [Value.ownBlock] at hkk
   ·simp [Value.ownBlock] at hkk
    subst hkk
    exact h _ _ _ hh he
 ·exact hg.block k hk hkk
theorem Evo.set_ {g : Nat} {t : TypeId} {cs : Array Value} (h : Blk w g t cs) (ht : t ∈ T) (hb : B ≤ g) (i : Nat) (u : Value) : Evo B T w (w.setCell ⟨g, i, none⟩ u) := by
 refine ⟨rfl, rfl, rfl, by simp [World.setCell], fun k hk hc => ?_⟩
 by_cases hkg : k = g
 ·subst hkg
  rcases hc with h1 | h1
  ·omega
  ·exact absurd ht (h1 _ _ _ h)
 ·exact Below.heap_setCell _ _ _ _ (by simpa using hkg)
theorem Blk.evo {g : Nat} {t : TypeId} {cs : Array Value} (h : Blk w g t cs) (he : Evo B T w w') (ht : g < B ∨ t ∉ T) : Blk w' g t cs := by
 unfold Blk
 rw [he.keep g h.lt (ht.imp id fun h2 cs' t' fr e => by unfold Blk at h; rw [h] at e; injection e with e; injection e with _ e; rw [← e]; exact h2)]
 exact h
theorem own_evo {base size n : Nat} {e : TypeId} {v : Value} {xs : List Value} (h : w.ownsRow base e size v n xs) (he : Evo B T w w') (ht : e ∉ T) : w'.ownsRow base e size v n xs := by
 obtain ⟨h1, h2⟩ := h
 refine ⟨h1, ?_⟩
 rcases h2 with h2 | ⟨g, cap, cur, hv, hg, hh, r⟩
 ·exact Or.inl h2
 ·exact Or.inr ⟨g, cap, cur, hv, hg, Blk.evo (cs := cur) hh he (.inr ht), r⟩
end
structure PFact (B : Nat) where
 U : List TypeId
 reads : List Nat
 F : (Nat → Value) → Value → World → Prop
 st : ∀ T : List TypeId, (∀ t ∈ U, t ∉ T) → ∀ us v w w', Evo B T w w' → F us v w → F us v w'
 cg : ∀ us us', (∀ j ∈ reads, us j = us' j) → ∀ v w, F us v w → F us' v w
def PFact.val {B : Nat} (u : Value) : PFact B := ⟨[], [], fun _ v _ => v = u, fun _ _ _ _ _ _ _ h => h, fun _ _ _ _ _ h => h⟩
def PFact.row {B : Nat} (t : TypeId) (D : Array Value) (n c : Nat) : PFact B :=
 ⟨[t], [], fun _ v w => ∃ g, v = .slice (some ⟨g, 0, none⟩) n c ∧ B ≤ g ∧ Blk w g t D, fun _ hT _ _ _ _ he ⟨g, hv, hg, hb⟩ => ⟨g, hv, hg, hb.evo he (.inr (hT t (by simp)))⟩, fun _ _ _ _ _ h => h⟩
def PFact.own {B : Nat} (e : TypeId) (size n : Nat) (xs : List Value) : PFact B :=
 ⟨[e], [], fun _ v w => ∃ A c, v = .slice A n c ∧ w.ownsRow B e size v n xs, fun _ hT _ _ _ _ he ⟨A, c, hv, ho⟩ => ⟨A, c, hv, own_evo ho he (hT e (by simp))⟩, fun _ _ _ _ _ h => h⟩
def badOf (Ts : List (List TypeId)) (U : List TypeId) : List Nat := (List.range Ts.length).filter fun c => U.any fun t => (Ts.getD c []).contains t
theorem badOf_no {Ts : List (List TypeId)} {U : List TypeId} {c : Nat} (h : (badOf Ts U).contains c = false) : ∀ t ∈ U, t ∉ Ts.getD c [] := by
 intro t ht hc
 rcases Nat.lt_or_ge c Ts.length with hl | hl
 ·have : c ∈ badOf Ts U := by
   unfold badOf
   rw [List.mem_filter]
   exact ⟨List.mem_range.2 hl, List.any_eq_true.2 ⟨t, ht, List.contains_iff_mem.2 hc⟩⟩
  rw [List.contains_iff_mem.2 this] at h
  cases h
 ·rw [List.getD_eq_getElem?_getD, List.getElem?_eq_none hl] at hc
  simp at hc
def lexL (us : Nat → Value) : List Oper → Nat → Act → Act
 | [], _, a => a
 | o :: r, i, a => lexL us r (i + 1) (a.put o.dst (us i))
theorem lexL_fold (us : Nat → Value) (l : List Oper) (k : Nat) (a : Act) : lexL us l k a = (List.range l.length).foldl (fun x j => x.put ((l[j]?).bind (·.dst)) (us (k + j))) a := by
 induction l generalizing k a with
 | nil => rfl
 | cons o r ih =>
  rw [lexL, ih, List.length_cons, List.range_succ_eq_map, List.foldl_cons, List.foldl_map]
  simp only [List.getElem?_cons_zero, Option.bind_some, Nat.add_zero, List.getElem?_cons_succ, Nat.add_succ, Nat.succ_add]
theorem lexAt_lexL (us : Nat → Value) (l : List Oper) (a : Act) : lexAt l.toArray us l.toArray.size a = lexL us l 0 a := by
 rw [lexAt_fold, lexL_fold]; simp
def specOf {B : Nat} (Ts : List (List TypeId)) (p : List Nat × PFact B) : PSpec := ⟨p.1 ++ p.2.reads, badOf Ts p.2.U, p.2.F⟩
theorem pgo_op {P : Program} {ops : Array Oper} {E : Nat → World → World → Prop} {W : World → World → Prop} {cls : List Nat} {Fs : List PSpec} {w0 : World} {us : Nat → Value} {o : Oper} {rest : List Oper} {i : Nat} {a : Act} (s : PSpec)
  (hg : o.guard = none) (hs : Fs[i]? = some s)
  (h : ∀ (K : Act → World → Prop) (w : World), W w0 w → PHold Fs us w s.uses → (∀ v w', E (cls.getD i 0) w w' → s.F us v w' → K (a.put o.dst v) w') → o.wp P a w K (fun _ _ _ => False))
  (hr : PGo P ops E W cls Fs w0 us rest (i + 1) (a.put o.dst (us i))) : PGo P ops E W cls Fs w0 us (o :: rest) i a := by
 refine ⟨?_, hr⟩
 unfold PStep
 rw [hs]
 intro w hw hu
 rw [if_pos (by simp [Region.wanted, hg])]
 exact h _ w hw hu fun v w' hE hF => ⟨v, rfl, hE, hF⟩
theorem wpo_value {P : Program} {o : Oper} {a : Act} {w w' : World} {K : Act → World → Prop} {Q : Exit → Act → World → Prop} {v : Value} (h : (execOp a.eval o).run P w = .ok (.value v) w') (hK : K (a.put o.dst v) w') : o.wp P a w K Q := by
 unfold Oper.wp; rw [h]; exact hK
theorem wpo_skip {P : Program} {o : Oper} {a : Act} {w w' : World} {K : Act → World → Prop} {Q : Exit → Act → World → Prop} (h : (execOp a.eval o).run P w = .ok .skip w') (hK : K (a.put o.dst undef) w') : o.wp P a w K Q := by
 unfold Oper.wp; rw [h]; exact hK
theorem pgo_val {P : Program} {ops : Array Oper} {E : Nat → World → World → Prop} {W : World → World → Prop} {cls : List Nat} {Fs : List PSpec} {w0 : World} {us : Nat → Value} {o : Oper} {rest : List Oper} {i : Nat} {a : Act} (s : PSpec)
  (hg : o.guard = none) (hs : Fs[i]? = some s)
  (h : ∀ (w : World), W w0 w → PHold Fs us w s.uses → ∃ v w', (execOp a.eval o).run P w = .ok (.value v) w' ∧ E (cls.getD i 0) w w' ∧ s.F us v w')
  (hr : PGo P ops E W cls Fs w0 us rest (i + 1) (a.put o.dst (us i))) : PGo P ops E W cls Fs w0 us (o :: rest) i a :=
 pgo_op s hg hs (fun _ w hw hu hK => by
  obtain ⟨v, w', h1, h2, h3⟩ := h w hw hu
  exact wpo_value h1 (hK v w' h2 h3)) hr
theorem pgo_pure {P : Program} {ops : Array Oper} {B : Nat} {Ts : List (List TypeId)} {W : World → World → Prop} {cls : List Nat} {Fs : List PSpec} {w0 : World} {us : Nat → Value} {o : Oper} {rest : List Oper} {i : Nat} {a : Act} (s : PSpec)
  (hg : o.guard = none) (hs : Fs[i]? = some s)
  (h : ∀ (w : World), W w0 w → PHold Fs us w s.uses → ∃ v, (execOp a.eval o).run P w = .ok (.value v) w ∧ s.F us v w)
  (hr : PGo P ops (fun c => Evo B (Ts.getD c [])) W cls Fs w0 us rest (i + 1) (a.put o.dst (us i))) : PGo P ops (fun c => Evo B (Ts.getD c [])) W cls Fs w0 us (o :: rest) i a :=
 pgo_val s hg hs (fun w hw hu => by
  obtain ⟨v, h1, h2⟩ := h w hw hu
  exact ⟨v, w, h1, Evo.refl _ _ _, h2⟩) hr
theorem pgo_skip {P : Program} {ops : Array Oper} {E : Nat → World → World → Prop} {W : World → World → Prop} {cls : List Nat} {Fs : List PSpec} {w0 : World} {us : Nat → Value} {o : Oper} {rest : List Oper} {i : Nat} {a : Act} (s : PSpec)
  (hg : o.guard = none) (hs : Fs[i]? = some s)
  (h : ∀ (w : World), W w0 w → PHold Fs us w s.uses → ∃ w', (execOp a.eval o).run P w = .ok .skip w' ∧ E (cls.getD i 0) w w' ∧ s.F us undef w')
  (hr : PGo P ops E W cls Fs w0 us rest (i + 1) (a.put o.dst (us i))) : PGo P ops E W cls Fs w0 us (o :: rest) i a :=
 pgo_op s hg hs (fun _ w hw hu hK => by
  obtain ⟨w', h1, h2, h3⟩ := h w hw hu
  exact wpo_skip h1 (hK undef w' h2 h3)) hr
theorem own_set {w : World} {base size n g : Nat} {e t : TypeId} {v : Value} {xs : List Value} {cs : Array Value} (h : w.ownsRow base e size v n xs) (hb : Blk w g t cs) (ht : e ≠ t) (i : Nat) (u : Value) : (w.setCell ⟨g, i, none⟩ u).ownsRow base e size v n xs := by
 obtain ⟨h1, h2⟩ := h
 refine ⟨h1, ?_⟩
 rcases h2 with h2 | ⟨k, cap, cur, hv, hg, hh, r⟩
 ·exact Or.inl h2
 ·refine Or.inr ⟨k, cap, cur, hv, hg, ?_, r⟩
  rw [Below.heap_setCell _ _ _ _ (fun hk => ?_)]
  ·exact hh
  ·simp only at hk
   subst hk
   unfold Blk at hb
   rw [hh] at hb
   injection hb with hb
   injection hb with _ hb
   exact ht hb
theorem put_eval (a : Act) (d t : Tmp) (v u : Value) (hd : d ≠ t) (h : a.eval (.tmp t) = u) : (a.put (some d) v).eval (.tmp t) = u := by
 rw [← h]
 show (a.tmps.setIfInBounds d v).getD t undef = a.tmps.getD t undef
 exact getD_of_get (Array.getElem?_setIfInBounds_ne hd)
theorem put_eval_same (a : Act) (d : Tmp) (v : Value) (hd : d < a.tmps.size) : (a.put (some d) v).eval (.tmp d) = v := by
 show (a.tmps.setIfInBounds d v).getD d undef = v
 simp [Array.getD_eq_getD_getElem?, hd]
end Go.Proofs.YtneeknlhlkpnpaaGreat
namespace Go.Proofs.YtneeknlhlkpnpaaGreat.R3
open Go.RowKit
def ahead (n : Nat) (cls : List Nat) (b : Array Nat) (i : Nat) : List Nat := ((List.range n).filter fun d => d != i && !dep b d i).map fun d => cls.getD d 0
def allC (n : Nat) (cls : List Nat) : List Nat := (List.range n).map fun d => cls.getD d 0
def PStep (P : Program) (ops : Array Oper) (E : Nat → World → World → Prop) (W : List Nat → World → World → Prop) (b : Array Nat) (cls : List Nat) (Fs : List PSpec) (w0 : World) (us : Nat → Value) (o : Oper) (i : Nat) (a : Act) : Prop :=
 match Fs[i]? with
 | none => False
 | some s => ∀ w, W (ahead ops.size cls b i) w0 w → PHold Fs us w s.uses →
  if Region.wanted o (yielded ops a.tmps) = true then o.wp P a w (PYields (E (cls.getD i 0)) (s.F us) o.dst a w) (fun _ _ _ => False) else s.F us undef w
def PGo (P : Program) (ops : Array Oper) (E : Nat → World → World → Prop) (W : List Nat → World → World → Prop) (b : Array Nat) (cls : List Nat) (Fs : List PSpec) (w0 : World) (us : Nat → Value) : List Oper → Nat → Act → Prop
 | [], _, _ => True
 | o :: rest, i, a => PStep P ops E W b cls Fs w0 us o i a ∧ PGo P ops E W b cls Fs w0 us rest (i + 1) (a.put o.dst (us i))
section
variable {P : Program} {ops : Array Oper} {E : Nat → World → World → Prop} {W : List Nat → World → World → Prop} {cls : List Nat} {Fs : List PSpec} {fin : List Nat} {b : Array Nat} {a0 : Act} {w0 : World} {us : Nat → Value}
structure PInv (ops : Array Oper) (W : List Nat → World → World → Prop) (cls : List Nat) (Fs : List PSpec) (b : Array Nat) (a0 : Act) (w0 : World) (us : Nat → Value) (L : Nat → Bool) (a : Act) (w : World) : Prop where
 size : a.tmps.size = a0.tmps.size
 defers : a.defers = a0.defers
 set : ∀ (j : Nat) (t : Tmp), L j = true → ((ops[j]?).bind (·.dst)) = some t → t < a0.tmps.size → a.tmps[t]? = some (us j)
 un : ∀ t : Tmp, (∀ j : Nat, L j = true → ((ops[j]?).bind (·.dst)) ≠ some t) → a.tmps[t]? = a0.tmps[t]?
 world : ∀ C, (∀ d, L d = true → cls.getD d 0 ∈ C) → W C w0 w
 facts : ∀ (j : Nat) (s : PSpec), Fs[j]? = some s → L j = true → (∀ d, killsB cls s.bad d = true → L d = true → dep b j d = true ∨ d = j) → s.F us (us j) w
 closed : ∀ j k, L j = true → dep b j k = true → L k = true
 bound : ∀ j, L j = true → j < ops.size
theorem step_inv (hok : POk ops cls Fs fin b) (hW : ∀ C a b c, W C a b → W C b c → W C a c) (hRW : ∀ C c a b, c ∈ C → E c a b → W C a b) (hR : ∀ c a, E c a a)
  (hst : ∀ s ∈ Fs, ∀ c, s.bad.contains c = false → ∀ us v w w', E c w w' → s.F us v w → s.F us v w')
  (hcg : ∀ s ∈ Fs, ∀ us us', (∀ j ∈ s.uses, us j = us' j) → ∀ v w, s.F us v w → s.F us' v w)
  {i : Nat} {o : Oper} {L : Nat → Bool} {a : Act} {w : World} {Q : Exit → Act → World → Prop} (hi : ops[i]? = some o) (hLi : L i = false) (hready : ∀ e ∈ o.after, Region.binds .any e = true → L e.on = true)
  (hinv : PInv ops W cls Fs b a0 w0 us L a w) (hstep : PStep P ops E W b cls Fs w0 us o i (lexAt ops us i a0)) :
  wpOp P ops Q i (fun a' w' => ∃ us', PInv ops W cls Fs b a0 w0 us' (fun k => k == i || L k) a' w') a w := by
 have hib : i < ops.size := (Array.getElem?_eq_some_iff.1 hi).1
 have hdeps : ∀ j, dep b i j = true → L j = true := by
  intro j hj
  obtain ⟨e, he, hbd, h⟩ := hok.clo i o hi j (hok.small i j hib hj) hj
  rcases h with h | h
  ·rw [← h]; exact hready e he hbd
  ·exact hinv.closed _ _ (hready e he hbd) h
 have hlook : ∀ t ∈ o.looksAt ops, a.tmps[t]? = (lexAt ops us i a0).tmps[t]? := fun t ht =>
  lex_eval hi hLi hinv.set hinv.un hinv.size hinv.closed hdeps hok.uniq (hok.look i o hi t ht)
 have hexec : execOp a.eval o = execOp (lexAt ops us i a0).eval o := execOp_congr o (hok.sel i o hi) (eval_congr hlook)
 have next : ∀ (s : PSpec) (v : Value) (w' : World), Fs[i]? = some s → E (cls.getD i 0) w w' → s.F us v w' →
   ∃ us', PInv ops W cls Fs b a0 w0 us' (fun k => k == i || L k) (a.put o.dst v) w' := by
  intro s v w' hs hww hF
  have hne : ∀ j, L j = true → j ≠ i := fun j hj e => by rw [e, hLi] at hj; cases hj
  have hdi : (ops[i]?).bind (·.dst) = o.dst := by rw [hi]; rfl
  refine ⟨fun k => if k = i then v else us k, ?_, ?_, ?_, ?_, fun C hC => hW C _ _ _ (hinv.world C fun d hd => hC d (by simp [hd])) (hRW C _ _ _ (hC i (by simp)) hww), ?_, ?_, ?_⟩
  ·rw [put_size, hinv.size]
  ·rw [put_defers, hinv.defers]
  ·intro j t hj hjt hts
   by_cases hji : j = i
   ·subst hji
    rw [hdi] at hjt
    rw [hjt, put_got _ _ _ (by rw [hinv.size]; exact hts), if_pos rfl]
   ·have hLj : L j = true := by simpa [hji] using hj
    rw [put_get _ _ _ _ (fun e => hji (hok.uniq j i t hjt (by rw [hdi]; exact e))), hinv.set j t hLj hjt hts, if_neg hji]
  ·intro t ht
   rw [put_get _ _ _ _ (fun e => ht i (by simp) (by rw [hdi]; exact e)), hinv.un t fun j hj => ht j (by simp [hj])]
  ·intro j s' hs' hj hcond
   have hmem : s' ∈ Fs := List.mem_of_getElem? hs'
   by_cases hji : j = i
   ·subst hji
    rw [if_pos rfl]
    refine hcg s' hmem us _ (fun k hk => ?_) _ _ ?_
    ·have hkL := hdeps k (hok.uses j s' hib hs' k hk).1
     rw [if_neg (hne k hkL)]
    ·rw [hs] at hs'; injection hs' with hs'; subst hs'; exact hF
   ·have hLj : L j = true := by simpa [hji] using hj
    rw [if_neg hji]
    refine hcg s' hmem us _ (fun k hk => ?_) _ _ ?_
    ·have hkL := hinv.closed j k hLj (hok.uses j s' (hinv.bound j hLj) hs' k hk).1
     rw [if_neg (hne k hkL)]
    ·cases hk : killsB cls s'.bad i with
     | true =>
      rcases hcond i hk (by simp) with h2 | h2
      ·have := hinv.closed j i hLj h2; rw [hLi] at this; cases this
      ·exact absurd h2.symm hji
     | false => exact hst s' hmem _ hk _ _ _ _ hww (hinv.facts j s' hs' hLj (fun d hd hLd => hcond d hd (by simp [hLd])))
  ·intro j k hj hjk
   by_cases hji : j = i
   ·subst hji; simp [hdeps k hjk]
   ·have hLj : L j = true := by simpa [hji] using hj
    simp [hinv.closed j k hLj hjk]
  ·intro j hj
   by_cases hji : j = i
   ·subst hji; exact hib
   ·exact hinv.bound j (by simpa [hji] using hj)
 unfold PStep at hstep
 cases hs : Fs[i]? with
 | none => rw [hs] at hstep; exact hstep.elim
 | some s =>
  rw [hs] at hstep
  have hh := hstep w (hinv.world _ fun d hd => List.mem_map.2 ⟨d, List.mem_filter.2 ⟨List.mem_range.2 (hinv.bound d hd), by
   have h1 : d ≠ i := fun e => by rw [e, hLi] at hd; cases hd
   have h2 : dep b d i = false := by
    cases h : dep b d i with
    | false => rfl
    | true => have := hinv.closed d i hd h; rw [hLi] at this; cases this
   simp [h1, h2]⟩, rfl⟩) (PHold_of fun j hj s' hs' => by
   obtain ⟨h1, h2, h3⟩ := hok.uses i s hib hs j hj
   refine hinv.facts j s' hs' (hdeps j h1) (fun d hd hLd => ?_)
   rcases h3 s' hs' d (hinv.bound d hLd) hd with h4 | h4 | h4 | h4
   ·rw [h4, hLi] at hLd; cases hLd
   ·have := hinv.closed d i hLd h4; rw [hLi] at this; cases this
   ·exact .inl h4
   ·exact .inr h4)
  rw [← wanted_congr hlook] at hh
  unfold wpOp
  simp only [hi]
  by_cases hw : Region.wanted o (yielded ops a.tmps) = true
  ·rw [if_pos hw] at hh ⊢
   refine .inl ?_
   unfold Oper.wp at hh ⊢
   rw [hexec]
   refine upon_transfer _ (fun v w' hk => ?_) (fun d w' hk => ?_) hh
   ·obtain ⟨u, hu, hE, hF⟩ := hk
    by_cases hd : o.dst = none
    · -- nothing is written: the value is the fact's own
     rw [show a.put o.dst v = a.put o.dst u by rw [hd]; rfl]
     exact next s u w' hs hE hF
    ·obtain ⟨t, ht⟩ := Option.ne_none_iff_exists'.1 hd
     by_cases hts : t < a0.tmps.size
     ·have e1 := put_got (lexAt ops us i a0) v t (by rw [lexAt_size]; exact hts)
      have e2 := put_got (lexAt ops us i a0) u t (by rw [lexAt_size]; exact hts)
      rw [ht] at hu
      rw [hu, e2] at e1
      injection e1 with e1
      subst e1
      exact next s u w' hs hE hF
     ·have e3 : ∀ x : Value, a.put o.dst x = a := fun x => by
       rw [ht]; unfold Act.put
       simp only
       rw [Array.setIfInBounds_eq_of_size_le (by rw [hinv.size]; exact Nat.not_lt.1 hts)]
      rw [e3 v, ← e3 u]
      exact next s u w' hs hE hF
   ·obtain ⟨u, hu, _, _⟩ := hk
    have := congrArg Act.defers hu
    rw [put_defers, put_defers] at this
    have := congrArg List.length this
    simp at this
  ·rw [if_neg hw] at hh ⊢
   exact next s undef w hs (hR _ w) hh
theorem PGo_at {l : List Oper} {k : Nat} {a : Act} (h : PGo P ops E W b cls Fs w0 us l k a) : ∀ (d : Nat) (o : Oper), l[d]? = some o → ∃ a', a' = (List.range d).foldl (fun x j => x.put ((l[j]?).bind (·.dst)) (us (k + j))) a ∧ PStep P ops E W b cls Fs w0 us o (k + d) a' := by
 induction l generalizing k a with
 | nil => intro d o hd; simp at hd
 | cons x r ih =>
  intro d o hd
  cases d with
  | zero =>
   simp only [List.getElem?_cons_zero, Option.some.injEq] at hd
   subst hd
   exact ⟨a, rfl, h.1⟩
  | succ d =>
   obtain ⟨a', ha', hs⟩ := ih h.2 d o (by simpa using hd)
   refine ⟨a', ?_, by rw [← Nat.add_assoc, Nat.add_right_comm]; exact hs⟩
   rw [ha', List.range_succ_eq_map, List.foldl_cons, List.foldl_map]
   simp only [List.getElem?_cons_zero, Option.bind_some, Nat.add_zero, List.getElem?_cons_succ, Nat.add_succ, Nat.succ_add]
theorem PGo_lex (h : PGo P ops E W b cls Fs w0 us ops.toList 0 a0) {i : Nat} {o : Oper} (hi : ops[i]? = some o) : PStep P ops E W b cls Fs w0 us o i (lexAt ops us i a0) := by
 obtain ⟨a', ha', hs⟩ := PGo_at h i o (by simpa using hi)
 rw [lexAt_fold, ← ha']
 simpa using hs
theorem any_inv (hok : POk ops cls Fs fin b) (hW : ∀ C a b c, W C a b → W C b c → W C a c) (hRW : ∀ C c a b, c ∈ C → E c a b → W C a b) (hR : ∀ c a, E c a a)
  (hst : ∀ s ∈ Fs, ∀ c, s.bad.contains c = false → ∀ us v w w', E c w w' → s.F us v w → s.F us v w')
  (hcg : ∀ s ∈ Fs, ∀ us us', (∀ j ∈ s.uses, us j = us' j) → ∀ v w, s.F us v w → s.F us' v w) {Q : Exit → Act → World → Prop}
  (hgo : ∀ us, PGo P ops E W b cls Fs w0 us ops.toList 0 a0)
  (hfin : ∀ us w, W (allC ops.size cls) w0 w → PHold Fs us w fin → Q .normal (lexAt ops us ops.size a0) w) :
  ∀ (fuel : Nat) (listed : Array Bool) (a : Act) (w : World), listed.size = ops.size → listed.toList.count false ≤ fuel →
   (∃ us, PInv ops W cls Fs b a0 w0 us (getB listed) a w) → wpAny P .any ops Q fuel listed a w := by
 have done : ∀ (listed : Array Bool) (a : Act) (w : World), listed.size = ops.size → Region.ready .any ops listed = [] → (∃ us, PInv ops W cls Fs b a0 w0 us (getB listed) a w) → Q .normal a w := by
  intro listed a w hsz hr ⟨us, hinv⟩
  have hall : ∀ i, i < ops.size → getB listed i = true := by
   intro i
   induction i using Nat.strongRecOn with
   | _ i ih =>
    intro hi
    cases hL : getB listed i with
    | true => rfl
    | false =>
     exfalso
     have : i ∈ Region.ready .any ops listed := by
      unfold Region.ready
      rw [List.mem_filter]
      refine ⟨List.mem_range.2 hi, ?_⟩
      have e1 : listed.getD i true = false := by
       unfold getB at hL
       simp only [Array.getD_eq_getD_getElem?] at hL ⊢
       rw [Array.getElem?_eq_getElem (by omega)] at hL ⊢
       exact hL
      simp only [e1, Bool.not_false, Bool.true_and, Array.getElem?_eq_getElem hi, Option.map_some, Option.getD_some]
      rw [Array.all_eq_true_iff_forall_mem]
      intro e he
      cases hbd : Region.binds .any e with
      | false => rfl
      | true =>
       obtain ⟨h1, _⟩ := hok.back i _ (Array.getElem?_eq_getElem hi) e he hbd
       have := ih e.on h1 (by omega)
       unfold getB at this
       rw [this]; simp
     rw [hr] at this
     cases this
  have ha : a = lexAt ops us ops.size a0 := by
   have h1 : a.tmps = (lexAt ops us ops.size a0).tmps := by
    refine Array.ext_getElem? fun t => ?_
    by_cases hex : ∃ j : Nat, ((ops[j]?).bind (·.dst)) = some t
    ·obtain ⟨j, hj⟩ := hex
     have hjs : j < ops.size := by
      rcases Nat.lt_or_ge j ops.size with h | h
      ·exact h
      ·rw [Array.getElem?_eq_none h] at hj; simp at hj
     by_cases hts : t < a0.tmps.size
     ·rw [hinv.set j t (hall j hjs) hj hts, lexAt_set ops.size j t hjs hj hts fun k _ hkj hk => hkj (hok.uniq k j t hk hj)]
     ·rw [Array.getElem?_eq_none (by rw [hinv.size]; exact Nat.not_lt.1 hts), Array.getElem?_eq_none (by rw [lexAt_size]; exact Nat.not_lt.1 hts)]
    ·have h1 := hinv.un t (fun k _ hk => hex ⟨k, hk⟩)
     have h2 := lexAt_un (ops := ops) (us := us) (a0 := a0) ops.size t (fun k _ hk => hex ⟨k, hk⟩)
     rw [h1, h2]
   have h2 : a.defers = (lexAt ops us ops.size a0).defers := by rw [hinv.defers, lexAt_defers]
   cases a
   cases hq : lexAt ops us ops.size a0
   rw [hq] at h1 h2
   simp only at h1 h2
   rw [h1, h2]
  rw [ha]
  refine hfin us w (hinv.world _ fun d hd => List.mem_map.2 ⟨d, List.mem_range.2 (hinv.bound d hd), rfl⟩) (PHold_of fun j hj s hs => ?_)
  refine hinv.facts j s hs (hall j (hok.fins j hj)) (fun d hd hLd => hok.last j hj s hs d (hinv.bound d hLd) hd)
 intro fuel
 induction fuel with
 | zero =>
  intro listed a w hsz hc hinv
  have hr : Region.ready .any ops listed = [] := by
   unfold Region.ready
   rw [List.filter_eq_nil_iff]
   intro i hi
   have hi := List.mem_range.1 hi
   have : listed.getD i true = true := by
    cases h : listed.getD i true with
    | true => rfl
    | false =>
     exfalso
     have hm : false ∈ listed.toList := by
      simp only [Array.getD_eq_getD_getElem?] at h
      rw [Array.getElem?_eq_getElem (by omega)] at h
      simp only [Option.getD_some] at h
      rw [← h]; exact Array.getElem_mem_toList _
     have := List.count_pos_iff.2 hm
     omega
   rw [this]; simp
  exact ⟨hr, done listed a w hsz hr hinv⟩
 | succ fuel ih =>
  intro listed a w hsz hc hinv
  refine ⟨fun hr => done listed a w hsz hr hinv, fun i hi => ?_⟩
  obtain ⟨us, hinv⟩ := hinv
  unfold Region.ready at hi
  rw [List.mem_filter] at hi
  obtain ⟨hib, hr⟩ := hi
  have hib := List.mem_range.1 hib
  rw [Array.getElem?_eq_getElem hib] at hr
  simp only [Option.map_some, Option.getD_some, Bool.and_eq_true, Bool.not_eq_true'] at hr
  obtain ⟨hu, hedges⟩ := hr
  have hLi : getB listed i = false := by
   unfold getB
   simp only [Array.getD_eq_getD_getElem?] at hu ⊢
   rw [Array.getElem?_eq_getElem (by omega)] at hu ⊢
   exact hu
  refine wpOp_mono (fun a' w' h' => ?_) (step_inv hok hW hRW hR hst hcg (Array.getElem?_eq_getElem hib) hLi (fun e he hbd => ?_) hinv (PGo_lex (hgo us) (Array.getElem?_eq_getElem hib)))
  ·refine ih _ a' w' (by simpa using hsz) ?_ ?_
   ·have hlt : i < listed.toList.length := by simpa using (show i < listed.size by omega)
    have e1 : listed.toList[i] = false := by
     unfold getB at hLi
     simp only [Array.getD_eq_getD_getElem?] at hLi
     rw [Array.getElem?_eq_getElem (by omega)] at hLi
     simpa using hLi
    have : (listed.setIfInBounds i true).toList = listed.toList.set i true := by simp
    rw [this, List.count_set hlt]
    rw [e1]
    show listed.toList.count false - 1 + 0 ≤ fuel
    omega
   ·obtain ⟨us', h'⟩ := h'
    refine ⟨us', ?_⟩
    have : getB (listed.setIfInBounds i true) = fun k => k == i || getB listed k := by
     funext k
     unfold getB
     simp only [Array.getD_eq_getD_getElem?, Array.getElem?_setIfInBounds]
     by_cases hk : i = k
     ·subst hk; simp [show i < listed.size by omega]
     ·simp [hk, Ne.symm hk]
    rw [this]; exact h'
  ·have := Array.all_eq_true_iff_forall_mem.1 hedges e he
   simpa [hbd, getB] using this
theorem wp_region_p {id : Nat} {l : List Oper} {Q : Exit → Act → World → Prop} {a0 : Act} {w : World} (E : Nat → World → World → Prop) (W : List Nat → World → World → Prop) (cls : List Nat) (Fs : List PSpec) (fin : List Nat) (b : Array Nat)
  (hm : P.follows .mixedOrders = true)
  (hok : (okP l.toArray cls (Fs.map (·.uses)) (Fs.map (·.bad)) fin b && fin.all (fun i => decide (i < l.toArray.size)) && (List.range l.toArray.size).all (fun i => decide (b.getD i 0 < 2 ^ l.toArray.size))) = true)
  (hWr : ∀ C a, W C a a) (hW : ∀ C a b c, W C a b → W C b c → W C a c) (hRW : ∀ C c a b, c ∈ C → E c a b → W C a b) (hR : ∀ c a, E c a a)
  (hst : ∀ s ∈ Fs, ∀ c, s.bad.contains c = false → ∀ us v w w', E c w w' → s.F us v w → s.F us v w')
  (hcg : ∀ s ∈ Fs, ∀ us us', (∀ j ∈ s.uses, us j = us' j) → ∀ v w, s.F us v w → s.F us' v w)
  (hgo : ∀ us, PGo P l.toArray E W b cls Fs w.drew us l 0 a0)
  (hfin : ∀ us w', W (allC l.toArray.size cls) w.drew w' → PHold Fs us w' fin → Q .normal (lexAt l.toArray us l.toArray.size a0) w') : (Code.region id l.toArray true).wp P Q a0 w := by
 simp only [Bool.and_eq_true] at hok
 refine wp_region_any hm (any_inv (b := b) (pok_of hok.1.1 hok.1.2 hok.2) hW hRW hR hst hcg (by simpa using hgo) hfin _ _ _ _ (by simp) (by simp) ⟨fun _ => undef, rfl, rfl, ?_, fun _ _ => rfl, fun C _ => hWr C _, ?_, ?_, ?_⟩)
 ·intro j t hj; rw [getB_no] at hj; cases hj
 ·intro j s _ hj; rw [getB_no] at hj; cases hj
 ·intro j k hj; rw [getB_no] at hj; cases hj
 ·intro j hj; rw [getB_no] at hj; cases hj
end
def typesOf (Ts : List (List TypeId)) (C : List Nat) : List TypeId := C.flatMap fun c => Ts.getD c []
theorem wp_region_i {P : Program} {id : Nat} {l : List Oper} {Q : Exit → Act → World → Prop} {a0 : Act} {w : World} (B : Nat) (Ts : List (List TypeId)) (cls : List Nat) (Fs : List (List Nat × PFact B)) (fin : List Nat)
  (hm : P.follows .mixedOrders = true)
  (hok : (okP l.toArray cls (Fs.map (fun p => p.1 ++ p.2.reads)) (Fs.map (fun p => badOf Ts p.2.U)) fin (Region.before l.toArray) && fin.all (fun i => decide (i < l.toArray.size)) && (List.range l.toArray.size).all (fun i => decide ((Region.before l.toArray).getD i 0 < 2 ^ l.toArray.size))) = true)
  (hgo : ∀ us, PGo P l.toArray (fun c => Evo B (Ts.getD c [])) (fun C => Evo B (typesOf Ts C)) (Region.before l.toArray) cls (Fs.map (specOf Ts)) w.drew us l 0 a0)
  (hfin : ∀ us w', Evo B (typesOf Ts (allC l.toArray.size cls)) w.drew w' → PHold (Fs.map (specOf Ts)) us w' fin → Q .normal (lexL us l 0 a0) w') : (Code.region id l.toArray true).wp P Q a0 w := by
 refine wp_region_p (fun c => Evo B (Ts.getD c [])) (fun C => Evo B (typesOf Ts C)) cls (Fs.map (specOf Ts)) fin (Region.before l.toArray) hm (by simpa [List.map_map, Function.comp_def, specOf] using hok) (fun _ a => Evo.refl _ _ a) (fun _ _ _ _ h k => h.trans k)
  (fun C c a b hc h => h.mono fun t ht => List.mem_flatMap.2 ⟨c, hc, ht⟩) (fun _ a => Evo.refl _ _ a) ?_ ?_ hgo (fun us w' h1 h2 => by rw [lexAt_lexL]; exact hfin us w' h1 h2)
 ·intro s hs c hc us v w w' he hF
  obtain ⟨p, hp, rfl⟩ := List.mem_map.1 hs
  exact p.2.st _ (badOf_no hc) us v w w' he hF
 ·intro s hs us us' h v w hF
  obtain ⟨p, hp, rfl⟩ := List.mem_map.1 hs
  exact p.2.cg us us' (fun j hj => h j (List.mem_append_right _ hj)) v w hF
theorem pgo_op {P : Program} {ops : Array Oper} {E : Nat → World → World → Prop} {W : List Nat → World → World → Prop} {b : Array Nat} {cls : List Nat} {Fs : List PSpec} {w0 : World} {us : Nat → Value} {o : Oper} {rest : List Oper} {i : Nat} {a : Act} (s : PSpec)
  (hg : o.guard = none) (hs : Fs[i]? = some s)
  (h : ∀ (K : Act → World → Prop) (w : World), W (ahead ops.size cls b i) w0 w → PHold Fs us w s.uses → (∀ v w', E (cls.getD i 0) w w' → s.F us v w' → K (a.put o.dst v) w') → o.wp P a w K (fun _ _ _ => False))
  (hr : PGo P ops E W b cls Fs w0 us rest (i + 1) (a.put o.dst (us i))) : PGo P ops E W b cls Fs w0 us (o :: rest) i a := by
 refine ⟨?_, hr⟩
 unfold PStep
 rw [hs]
 intro w hw hu
 rw [if_pos (by simp [Region.wanted, hg])]
 exact h _ w hw hu fun v w' hE hF => ⟨v, rfl, hE, hF⟩
theorem pgo_val {P : Program} {ops : Array Oper} {E : Nat → World → World → Prop} {W : List Nat → World → World → Prop} {b : Array Nat} {cls : List Nat} {Fs : List PSpec} {w0 : World} {us : Nat → Value} {o : Oper} {rest : List Oper} {i : Nat} {a : Act} (s : PSpec)
  (hg : o.guard = none) (hs : Fs[i]? = some s)
  (h : ∀ (w : World), W (ahead ops.size cls b i) w0 w → PHold Fs us w s.uses → ∃ v w', (execOp a.eval o).run P w = .ok (.value v) w' ∧ E (cls.getD i 0) w w' ∧ s.F us v w')
  (hr : PGo P ops E W b cls Fs w0 us rest (i + 1) (a.put o.dst (us i))) : PGo P ops E W b cls Fs w0 us (o :: rest) i a :=
 pgo_op s hg hs (fun _ w hw hu hK => by
  obtain ⟨v, w', h1, h2, h3⟩ := h w hw hu
  exact wpo_value h1 (hK v w' h2 h3)) hr
theorem pgo_pure {P : Program} {ops : Array Oper} {B : Nat} {Ts : List (List TypeId)} {W : List Nat → World → World → Prop} {b : Array Nat} {cls : List Nat} {Fs : List PSpec} {w0 : World} {us : Nat → Value} {o : Oper} {rest : List Oper} {i : Nat} {a : Act} (s : PSpec)
  (hg : o.guard = none) (hs : Fs[i]? = some s)
  (h : ∀ (w : World), W (ahead ops.size cls b i) w0 w → PHold Fs us w s.uses → ∃ v, (execOp a.eval o).run P w = .ok (.value v) w ∧ s.F us v w)
  (hr : PGo P ops (fun c => Evo B (Ts.getD c [])) W b cls Fs w0 us rest (i + 1) (a.put o.dst (us i))) : PGo P ops (fun c => Evo B (Ts.getD c [])) W b cls Fs w0 us (o :: rest) i a :=
 pgo_val s hg hs (fun w hw hu => by
  obtain ⟨v, h1, h2⟩ := h w hw hu
  exact ⟨v, w, h1, Evo.refl _ _ _, h2⟩) hr
theorem pgo_skip {P : Program} {ops : Array Oper} {E : Nat → World → World → Prop} {W : List Nat → World → World → Prop} {b : Array Nat} {cls : List Nat} {Fs : List PSpec} {w0 : World} {us : Nat → Value} {o : Oper} {rest : List Oper} {i : Nat} {a : Act} (s : PSpec)
  (hg : o.guard = none) (hs : Fs[i]? = some s)
  (h : ∀ (w : World), W (ahead ops.size cls b i) w0 w → PHold Fs us w s.uses → ∃ w', (execOp a.eval o).run P w = .ok .skip w' ∧ E (cls.getD i 0) w w' ∧ s.F us undef w')
  (hr : PGo P ops E W b cls Fs w0 us rest (i + 1) (a.put o.dst (us i))) : PGo P ops E W b cls Fs w0 us (o :: rest) i a :=
 pgo_op s hg hs (fun _ w hw hu hK => by
  obtain ⟨w', h1, h2, h3⟩ := h w hw hu
  exact wpo_skip h1 (hK undef w' h2 h3)) hr
end Go.Proofs.YtneeknlhlkpnpaaGreat.R3
namespace Go.Proofs.YtneeknlhlkpnpaaGreat
open Go.RowKit
def swp (a b x : Nat) : Nat := if x = a then b else if x = b then a else x
def swpL (l : List Int) (i k : Nat) : List Int := (l.set i (l.getD k 0)).set k (l.getD i 0)
theorem swpL_length (l : List Int) (i k : Nat) : (swpL l i k).length = l.length := by simp [swpL]
theorem swp_l (a b : Nat) : swp a b a = b := by unfold swp; rw [if_pos rfl]
theorem swp_r (a b : Nat) : swp a b b = a := by
 unfold swp
 by_cases h : b = a
 ·rw [if_pos h, h]
 ·rw [if_neg h, if_pos rfl]
theorem swp_o {a b x : Nat} (h1 : x ≠ a) (h2 : x ≠ b) : swp a b x = x := by unfold swp; rw [if_neg h1, if_neg h2]
theorem swpL_getD {l : List Int} {i k : Nat} (hi : i < l.length) (hk : k < l.length) {t : Nat} (ht : t < l.length) : (swpL l i k).getD t 0 = l.getD (swp i k t) 0 := by
 unfold swpL swp
 rw [List.getD_eq_getElem?_getD, List.getElem?_set, List.getElem?_set]
 by_cases h1 : k = t
 ·subst h1
  by_cases h2 : k = i
  ·subst h2; simp [hk]
  ·simp [hk, h2, hi]
 ·by_cases h2 : i = t
  ·subst h2; simp [h1, hi]
  ·simp [h1, h2, Ne.symm h1, Ne.symm h2]
theorem Blk.setIntR {w : World} {g : Nat} {t : TypeId} {l : List Int} {R : Array Value} (h : Blk w g t ((intCells l).toArray ++ R)) (k : Nat) (b : Int) (hk : k < l.length) : Blk (w.setCell ⟨g, k, none⟩ (.int .i64 b)) g t ((intCells (l.set k b)).toArray ++ R) := by
 have := h.set_ k (.int .i64 b)
 rw [Array.setIfInBounds_append_left (by simpa [intCells] using hk)] at this
 simpa [intCells, List.map_set] using this
theorem Blk.intR {w : World} {g : Nat} {t : TypeId} {l : List Int} {R : Array Value} (h : Blk w g t ((intCells l).toArray ++ R)) {k : Nat} (hk : k < l.length) : w.cell? ⟨g, k, none⟩ = some (.int .i64 (l.getD k 0)) := by
 rw [h.cell k, Array.getElem?_append_left (by simpa [intCells] using hk)]; simp [intCells, hk]
theorem own_slice {w : World} {base size n : Nat} {t : TypeId} {v : Value} {xs : List Value} (h : w.ownsRow base t size v n xs) : ∃ A c, v = .slice A n c := by
 rcases h.2 with ⟨rfl, h0⟩ | ⟨g, cap, cur, rfl, _⟩
 ·exact ⟨none, 0, by rw [h0]⟩
 ·exact ⟨_, _, rfl⟩
theorem eql_nil (w : World) (a : Option Addr) (n c : Nat) : (binOp .eql 25 (.slice a n c) (.slice none 0 0)).run Tryz.prog w = .ok (.bool a.isNone) w := by
 simp only [binOp]
 simp [Op.equal, Op.maxDepth, Lib.run_equalIn_slice_nil w 9999 25 3 a n c 0 0 Tryz.underlying25]
theorem intCells_one (l : List Int) : (intCells l).all (fun u => u.oneCell') = true := by
 rw [List.all_eq_true]
 intro u hu
 obtain ⟨z, _, rfl⟩ := List.mem_map.1 hu
 rfl
set_option maxRecDepth 20000 in
theorem clone_any (A : Option Addr) (c : Nat) (l : List Int) (w : World) (h : Cells w w.heap.size A (intCells l)) (hl : l.length ≤ 1000) :
  Calls Tryz.prog 48 #[.slice A l.length c] w (fun e w' => ∃ v, e = .returned v ∧ Below w.heap.size w w' ∧ w'.ownsRow w.heap.size 3 1 v l.length (intCells l)) := by
 cases A with
 | none =>
  have hl0 : l = [] := by
   cases l with
   | nil => rfl
   | cons a r =>
    obtain ⟨b, off, e, _⟩ := h (by simp [intCells])
    cases e
  subst hl0
  have heq := fun (wx : World) => eql_nil wx none 0 c
  go_enter Tryz.func48, Tryz.ntmps48
  go_wp2_with fail
  go_ret
  exact ⟨_, rfl, Below.refl _ _, World.ownsRow_nil _ _ _ _⟩
 | some ad =>
  have H := Lib.hid h
  have ho0 : (w.alloc (.cells #[] 3)).ownsRow w.heap.size 3 1 (.slice (some ⟨w.heap.size, 0, none⟩) 0 0) 0 [] :=
   blk_own (R := #[]) (Nat.le_refl _) (by simpa using Blk.new w 3 #[]) (by simp) (Nat.le_refl _) (by unfold maxLen; omega) (by simp)
  have hba := (Below.refl w.heap.size w).alloc (Nat.le_refl _) (.cells #[] 3)
  have hCa := h.below hba
  have hsa : w.heap.size ≤ (w.alloc (.cells #[] 3)).heap.size := by simp
  clear h
  have heq := fun (wx : World) => eql_nil wx (some ad) l.length c
  go_enter Tryz.func48, Tryz.ntmps48
  go_wp2_with (at_builtin; refine wp_app_any elemInt rfl _ _ rfl rfl ho0 rfl hCa (show (intCells l).length = l.length * 1 by simp [intCells]) (intCells_one l) ?h2 ?h3 ?h4 ?_)
  case h2 => omega
  case h3 => omega
  try (case h4 => omega)
  intro v5 w5 ho5 hg5 _
  have hb5 : Below w.heap.size w w5 := below_app hba ho0 hg5 hsa (Nat.le_refl _)
  have HX := Lib.hid (And.intro hb5 (show w5.ownsRow w.heap.size 3 1 v5 l.length (intCells l) by simpa using ho5))
  clear ho5 hg5 hb5 ho0 hba hCa
  go_wp2_with fail
  go_ret
  exact ⟨_, rfl, HX.out.1, HX.out.2⟩
def revN (l : List Int) : Nat → List Int
 | 0 => l
 | i + 1 => swpL (revN l i) i (l.length - 1 - i)
theorem revN_length (l : List Int) : ∀ i, (revN l i).length = l.length
 | 0 => rfl
 | i + 1 => by rw [revN, swpL_length, revN_length l i]
theorem revN_getD (l : List Int) : ∀ i, 2 * i ≤ l.length → ∀ k, k < l.length → (revN l i).getD k 0 = if k < i ∨ l.length - 1 - k < i then l.getD (l.length - 1 - k) 0 else l.getD k 0
 | 0, _, k, hk => by rw [if_neg (by omega)]; rfl
 | i + 1, hi, k, hk => by
  have hj : l.length - 1 - i < l.length := by omega
  rw [revN, swpL_getD (by rw [revN_length]; omega) (by rw [revN_length]; exact hj) (by rw [revN_length]; exact hk)]
  have ih := revN_getD l i (by omega)
  by_cases h1 : k = i
  ·subst h1
   rw [swp_l, ih _ hj, if_neg (by omega), if_pos (by omega)]
  by_cases h2 : k = l.length - 1 - i
  ·rw [h2, swp_r, ih _ (by omega), if_neg (by omega), if_pos (by omega)]
   congr 1
   omega
  ·rw [swp_o h1 h2, ih _ hk]
   by_cases h3 : k < i ∨ l.length - 1 - k < i
   ·rw [if_pos h3, if_pos (by omega)]
   ·rw [if_neg h3, if_neg (by omega)]
theorem revN_all {l : List Int} {i : Nat} (h1 : 2 * i ≤ l.length) (h2 : l.length ≤ 2 * i + 1) : revN l i = l.reverse := by
 apply List.ext_getElem
 ·rw [revN_length, List.length_reverse]
 ·intro k k1 k2
  rw [revN_length] at k1
  have e := revN_getD l i h1 k k1
  rw [List.getD_eq_getElem?_getD, List.getElem?_eq_getElem (by rw [revN_length]; exact k1), Option.getD_some] at e
  rw [e, List.getElem_reverse]
  by_cases h3 : k < i ∨ l.length - 1 - k < i
  ·rw [if_pos h3, List.getD_eq_getElem?_getD, List.getElem?_eq_getElem (by omega), Option.getD_some]
  ·rw [if_neg h3, List.getD_eq_getElem?_getD, List.getElem?_eq_getElem (by omega), Option.getD_some]
   congr 1
   omega
theorem below_undrew' {B : Nat} {w w' : World} (h : Below B w.drew w') : Below B w w' := ⟨h.os, h.tape, h.output, h.size, h.block⟩
def pfB {B : Nat} (g : Nat) (t : TypeId) (D : Array Value) : PFact B := ⟨[t], [], fun _ _ w => Blk w g t D, fun _ hT _ _ _ _ he hb => hb.evo he (.inr (hT t (by simp))), fun _ _ _ _ _ h => h⟩
set_option maxRecDepth 20000 in
set_option maxHeartbeats 4000000 in
theorem reverse_any (v : Value) (l : List Int) (base : Nat) (w : World) (h : w.ownsRow base 3 1 v l.length (intCells l)) (hl : l.length ≤ 1000) :
  Calls Tryz.prog 69 #[v] w (fun e w' => e = .returned (.tuple #[]) ∧ Below base w w' ∧ w'.ownsRow base 3 1 v l.length (intCells l.reverse)) := by
 by_cases hs : l.length ≤ 1
 ·obtain ⟨A, c, rfl⟩ := own_slice h
  have hr : l.reverse = l := by
   cases l with
   | nil => rfl
   | cons a r =>
    cases r with
    | nil => rfl
    | cons b r => simp at hs
  rw [hr]
  have H := Lib.hid h
  have hlt : ¬ (0 : Int) < (l.length : Int) - 1 := by omega
  clear h hr
  go_enter Tryz.func69, Tryz.ntmps69
  go_wp2_with fail
  refine wp_loop_rounds 1 ?_
  rw [rounds_succ]
  go_wp2_with fail
  refine bodyPost_end (results_none rfl _ _ _) rfl ?_
  exact ⟨rfl, Below.refl _ _, H.out⟩
 ·obtain ⟨g, cap, R, rfl, hg, hb, hR, hcap, hcm, hxl⟩ := own_blk h (by omega)
  have HB := Lib.hid hb
  have hgw := hb.lt
  clear h hb
  go_enter Tryz.func69, Tryz.ntmps69
  go_wp2_with fail
  go_loopg [2, 3] l.length (fun k s2 s3 wr => ∃ i : Nat, s2 = .int .i64 i ∧ s3 = .int .i64 ((l.length : Int) - 1 - i) ∧ 2 * i ≤ l.length ∧ k = l.length - i ∧ Below g w wr ∧ Blk wr g 3 ((intCells (revN l i)).toArray ++ R))
  case atStart => exact ⟨0, rfl, by simp, by omega, rfl, Below.refl _ _, HB.out⟩
  case round =>
   obtain ⟨i, rfl, rfl, hi, hk, hbl, hb⟩ := hrel
   by_cases hlt : i + 1 < l.length - i
   ·obtain ⟨j, hj⟩ : ∃ j, j = l.length - 1 - i := ⟨_, rfl⟩
    have hji : (l.length : Int) - 1 - i = (j : Int) := by omega
    have hlt' : (i : Int) < (j : Int) := by omega
    have hjl : j < l.length := by omega
    have hil : i < l.length := by omega
    have hjl' : (j : Int) < l.length := by omega
    have hil' : (i : Int) < l.length := by omega
    rw [hji]
    have HJ := Lib.hid hj
    have Hk := Lib.hid hk
    have HB := Lib.hid hb
    have HBL := Lib.hid hbl
    obtain ⟨li, hli⟩ : ∃ z, z = (revN l i).getD i 0 := ⟨_, rfl⟩
    obtain ⟨lj, hlj⟩ : ∃ z, z = (revN l i).getD j 0 := ⟨_, rfl⟩
    have ci := hb.intR (k := i) (by rw [revN_length]; exact hil)
    have cj := hb.intR (k := j) (by rw [revN_length]; exact hjl)
    rw [← hli] at ci
    rw [← hlj] at cj
    have Hci := Lib.hid ((hb.cell i).symm.trans ci)
    have Hcj := Lib.hid ((hb.cell j).symm.trans cj)
    have hsD : l.length ≤ ((intCells (revN l i)).toArray ++ R).size := by simp [intCells, revN_length]
    have HsD := Lib.hid hsD
    obtain ⟨D0, hD0⟩ : ∃ D, D = (intCells (revN l i)).toArray ++ R := ⟨_, rfl⟩
    obtain ⟨D1, hD1⟩ : ∃ D, D = (intCells ((revN l i).set i lj)).toArray ++ R := ⟨_, rfl⟩
    obtain ⟨D2, hD2⟩ : ∃ D, D = (intCells (((revN l i).set i lj).set j li)).toArray ++ R := ⟨_, rfl⟩
    have HsD1 := Lib.hid (show l.length ≤ D1.size by rw [hD1]; simp [intCells, revN_length])
    have HD1 := Lib.hid (fun (wv : World) (h : Blk wv g 3 ((intCells (revN l i)).toArray ++ R)) => (by rw [hD1]; exact h.setIntR i lj (by rw [revN_length]; exact hil) : Blk (wv.setCell ⟨g, i, none⟩ (.int .i64 lj)) g 3 D1))
    have HD2 := Lib.hid (fun (wv : World) (h : Blk wv g 3 D1) => (by rw [hD2]; rw [hD1] at h; exact h.setIntR j li (by rw [List.length_set, revN_length]; exact hjl) : Blk (wv.setCell ⟨g, j, none⟩ (.int .i64 li)) g 3 D2))
    have HR2 := Lib.hid (show D2 = (intCells (revN l (i + 1))).toArray ++ R by rw [hD2, revN, swpL, ← HJ.out, ← hli, ← hlj])
    have hsz := hbl.size
    clear hb hbl hk hj hsD hD0 hD1 hD2 ci cj hli hlj
    go_upto_region 3 with fail
    refine R3.wp_region_i g [[], [3]] [0, 0, 0, 0, 0, 0, 0, 0, 0, 0, 0, 0, 0, 1, 0, 1]
     [([], .val (.slice (some ⟨g, 0, none⟩) l.length cap)), ([], .val (.int .i64 i)), ([], .val (.slice (some ⟨g, 0, none⟩) l.length cap)), ([], .val (.int .i64 j)), ([], .val (.slice (some ⟨g, 0, none⟩) l.length cap)), ([], .val (.int .i64 j)), ([4, 5], .val (.pointer (some ⟨g, j, none⟩))), ([6], .val (.int .i64 lj)), ([], .val (.slice (some ⟨g, 0, none⟩) l.length cap)), ([], .val (.int .i64 i)), ([8, 9], .val (.pointer (some ⟨g, i, none⟩))), ([10], .val (.int .i64 li)), ([0, 1], .val (.pointer (some ⟨g, i, none⟩))), ([12, 7], pfB g 3 D1), ([2, 3], .val (.pointer (some ⟨g, j, none⟩))), ([14, 11, 13], pfB g 3 D2)] [15] (by kernel_rfl) (by kernel_rfl) (fun us => ?_) ?_
    ·refine R3.pgo_pure _ rfl rfl (fun wv hw hu => ⟨.slice (some ⟨g, 0, none⟩) l.length cap, ?_, rfl⟩) ?_
     ·have tok := True.intro
      clear hw hu
      go_simp
     refine R3.pgo_pure _ rfl rfl (fun wv hw hu => ⟨.int .i64 i, ?_, rfl⟩) ?_
     ·have tok := True.intro
      clear hw hu
      go_simp
     refine R3.pgo_pure _ rfl rfl (fun wv hw hu => ⟨.slice (some ⟨g, 0, none⟩) l.length cap, ?_, rfl⟩) ?_
     ·have tok := True.intro
      clear hw hu
      go_simp
     refine R3.pgo_pure _ rfl rfl (fun wv hw hu => ⟨.int .i64 j, ?_, rfl⟩) ?_
     ·have tok := True.intro
      clear hw hu
      go_simp
     refine R3.pgo_pure _ rfl rfl (fun wv hw hu => ⟨.slice (some ⟨g, 0, none⟩) l.length cap, ?_, rfl⟩) ?_
     ·have tok := True.intro
      clear hw hu
      go_simp
     refine R3.pgo_pure _ rfl rfl (fun wv hw hu => ⟨.int .i64 j, ?_, rfl⟩) ?_
     ·have tok := True.intro
      clear hw hu
      go_simp
     refine R3.pgo_pure _ rfl rfl (fun wv hw hu => ⟨.pointer (some ⟨g, j, none⟩), ?_, rfl⟩) ?_
     ·have tok := True.intro
      have h4 : us 4 = .slice (some ⟨g, 0, none⟩) l.length cap := hu.1
      have h5 : us 5 = .int .i64 j := hu.2.1
      clear hw hu
      go_simp
     refine R3.pgo_pure _ rfl rfl (fun wv hw hu => ⟨.int .i64 lj, ?_, rfl⟩) ?_
     ·have tok := True.intro
      have h6 : us 6 = .pointer (some ⟨g, j, none⟩) := hu.1
      have zy : wv.cell? ⟨g, j, none⟩ = some (.int .i64 lj) := ((HB.out.drew.evo hw (.inr (of_decide_eq_true (by kernel_rfl)))).cell j).trans Hcj.out
      clear hw hu
      go_simp
     refine R3.pgo_pure _ rfl rfl (fun wv hw hu => ⟨.slice (some ⟨g, 0, none⟩) l.length cap, ?_, rfl⟩) ?_
     ·have tok := True.intro
      clear hw hu
      go_simp
     refine R3.pgo_pure _ rfl rfl (fun wv hw hu => ⟨.int .i64 i, ?_, rfl⟩) ?_
     ·have tok := True.intro
      clear hw hu
      go_simp
     refine R3.pgo_pure _ rfl rfl (fun wv hw hu => ⟨.pointer (some ⟨g, i, none⟩), ?_, rfl⟩) ?_
     ·have tok := True.intro
      have h8 : us 8 = .slice (some ⟨g, 0, none⟩) l.length cap := hu.1
      have h9 : us 9 = .int .i64 i := hu.2.1
      clear hw hu
      go_simp
     refine R3.pgo_pure _ rfl rfl (fun wv hw hu => ⟨.int .i64 li, ?_, rfl⟩) ?_
     ·have tok := True.intro
      have h10 : us 10 = .pointer (some ⟨g, i, none⟩) := hu.1
      have zy : wv.cell? ⟨g, i, none⟩ = some (.int .i64 li) := ((HB.out.drew.evo hw (.inr (of_decide_eq_true (by kernel_rfl)))).cell i).trans Hci.out
      clear hw hu
      go_simp
     refine R3.pgo_pure _ rfl rfl (fun wv hw hu => ⟨.pointer (some ⟨g, i, none⟩), ?_, rfl⟩) ?_
     ·have tok := True.intro
      have h0 : us 0 = .slice (some ⟨g, 0, none⟩) l.length cap := hu.1
      have h1 : us 1 = .int .i64 i := hu.2.1
      clear hw hu
      go_simp
     refine R3.pgo_skip _ rfl rfl (fun wv hw hu => ?_) ?_
     ·have h12 : us 12 = .pointer (some ⟨g, i, none⟩) := hu.1
      have h7 : us 7 = .int .i64 lj := hu.2.1
      have hbv := HB.out.drew.evo hw (.inr (of_decide_eq_true (by kernel_rfl)))
      have fy := hbv.frozen i
      obtain ⟨zq, zy⟩ : ∃ z, wv.cell? ⟨g, i, none⟩ = some z := ⟨_, (hbv.cell i).trans (Array.getElem?_eq_getElem (by have := HsD.out; omega))⟩
      refine ⟨wv.setCell ⟨g, i, none⟩ (.int .i64 lj), ?_, Evo.set_ hbv (by simp) (Nat.le_refl _) i _, HD1.out wv hbv⟩
      clear hw hu hbv
      go_simp
     refine R3.pgo_pure _ rfl rfl (fun wv hw hu => ⟨.pointer (some ⟨g, j, none⟩), ?_, rfl⟩) ?_
     ·have tok := True.intro
      have h2 : us 2 = .slice (some ⟨g, 0, none⟩) l.length cap := hu.1
      have h3 : us 3 = .int .i64 j := hu.2.1
      clear hw hu
      go_simp
     refine R3.pgo_skip _ rfl rfl (fun wv hw hu => ?_) ?_
     ·have h14 : us 14 = .pointer (some ⟨g, j, none⟩) := hu.1
      have h11 : us 11 = .int .i64 li := hu.2.1
      have hbv := hu.2.2.1
      have fy := hbv.frozen j
      obtain ⟨zq, zy⟩ : ∃ z, wv.cell? ⟨g, j, none⟩ = some z := ⟨_, (hbv.cell j).trans (Array.getElem?_eq_getElem (by have := HsD1.out; omega))⟩
      refine ⟨wv.setCell ⟨g, j, none⟩ (.int .i64 li), ?_, Evo.set_ hbv (by simp) (Nat.le_refl _) j _, HD2.out wv hbv⟩
      clear hw hu hbv
      go_simp
     trivial
    ·intro us w' hw hu
     have hb15 : Blk w' g 3 D2 := hu.1
     rw [HR2.out] at hb15
     have HB15 := Lib.hid hb15
     have HW15 := Lib.hid (HBL.out.trans (below_undrew' (hw.below (Nat.le_of_lt HB.out.lt))))
     clear hw hu hb15
     simp only [lexL]
     go_simp
     go_wp2_with fail
     go_roundg (l.length - (i + 1))
     case measure => rw [Hk.out]; omega
     case rel => exact ⟨i + 1, by go_num, by first | rfl | (congr 1; omega) | (congr 2; have := HJ.out; omega), by omega, rfl, HW15.out, HB15.out⟩
   ·have hlt' : ¬ (i : Int) < (l.length : Int) - 1 - i := by omega
    have HO := Lib.hid (show wr.ownsRow base 3 1 (.slice (some ⟨g, 0, none⟩) l.length cap) l.length (intCells l.reverse) from by
     rw [← revN_all hi (by omega)]
     exact blk_own hg hb (by simp [intCells, revN_length] at hR ⊢; omega) hcap hcm (by simp [intCells, revN_length]))
    have HBL := Lib.hid (hbl.mono hg)
    clear hb hbl
    go_wp2_with fail
    refine bodyPost_end (results_none rfl _ _ _) rfl ?_
    exact ⟨rfl, HBL.out, HO.out⟩
def idxF (l : List Int) (v : Int) : Int := match l.findIdx? (fun a => decide (v = a)) with
 | some i => (i : Int)
 | none => -1
theorem idx_at {l : List Int} {v : Int} {i : Nat} (hi : i < l.length) (h : v = l[i]) (hn : ∀ j (hj : j < i), v ≠ l[j]) : idxF l v = i := by
 unfold idxF
 have : l.findIdx? (fun a => decide (v = a)) = some i := by
  rw [List.findIdx?_eq_some_iff_getElem]
  exact ⟨hi, by simpa using h, fun j hj => by simpa using hn j hj⟩
 rw [this]
theorem idx_none {l : List Int} {v : Int} (hn : ∀ j (hj : j < l.length), v ≠ l[j]) : idxF l v = -1 := by
 unfold idxF
 have : l.findIdx? (fun a => decide (v = a)) = none := by
  rw [List.findIdx?_eq_none_iff]
  intro x hx
  obtain ⟨j, hj, rfl⟩ := List.getElem_of_mem hx
  simpa using hn j hj
 rw [this]
set_option maxRecDepth 20000 in
set_option maxHeartbeats 1000000 in
theorem index_any (A : Option Addr) (c : Nat) (l : List Int) (v : Int) (w : World) (h : Cells w w.heap.size A (intCells l)) (hl : l.length ≤ 100000) :
  Calls Tryz.prog 110 #[.slice A l.length c, .int .i64 v] w (fun e w' => e = .returned (.int .i64 (idxF l v)) ∧ w = w') := by
 have H := Lib.hid h
 clear h
 go_enter Tryz.func110, Tryz.ntmps110
 go_wp2_with fail
 go_loopg [8] l.length (fun k s8 wr => ∃ i : Nat, s8 = .int .i64 i ∧ i ≤ l.length ∧ k = l.length - i ∧ w = wr ∧ ∀ j (hj : j < l.length), j < i → v ≠ l[j])
 case atStart => exact ⟨0, rfl, Nat.zero_le _, rfl, rfl, fun j _ hj => absurd hj (Nat.not_lt_zero j)⟩
 case round =>
  obtain ⟨i, rfl, hi, hk, rfl, hn⟩ := hrel
  have Hk := Lib.hid hk
  have Hn := Lib.hid hn
  clear hk hn
  by_cases hlt : i < l.length
  ·have hlt' : (i : Int) < l.length := by omega
   obtain ⟨b, off, rfl, hb, hc⟩ := H.out.ints (by omega)
   have e0 := hc i hlt
   have HS := Lib.hid (fun (hv : v ≠ l[i]) (j : Nat) (hj : j < l.length) (hji : j < i + 1) => (by
    by_cases e : j = i
    ·subst e; exact hv
    ·exact Hn.out j hj (by omega) : v ≠ l[j]))
   have HF := Lib.hid (fun (hv : v = l[i]) => idx_at hlt hv fun j hj => Hn.out j (by omega) hj)
   clear hc
   generalize l[i] = u at *
   by_cases hv : v = u
   ·have hv' : (v == u) = true := by rw [beq_iff_eq]; exact hv
    have HR := Lib.hid (HF.out hv)
    clear hv
    go_wp2_with fail
    go_ret
    exact ⟨ret_int HR.out.symm, rfl⟩
   ·have hv' : (v == u) = false := by rw [beq_eq_false_iff_ne]; exact hv
    have HR := Lib.hid (HS.out hv)
    clear hv
    go_wp2_with fail
    go_roundg (l.length - (i + 1))
    case measure => rw [Hk.out]; omega
    case rel => exact ⟨i + 1, by go_num, by omega, rfl, rfl, HR.out⟩
  ·have hlt' : ¬ (i : Int) < l.length := by omega
   have HR := Lib.hid (idx_none (l := l) (v := v) fun j hj => Hn.out j hj (by omega))
   go_wp2_with fail
   go_ret
   exact ⟨ret_int HR.out.symm, rfl⟩
end Go.Proofs.YtneeknlhlkpnpaaGreat
namespace Go.Proofs.YtneeknlhlkpnpaaGreat
open Go.RowKit
structure But (S : List Nat) (w w' : World) : Prop where
 os : w'.os = w.os
 tape : w'.tape = w.tape
 output : w'.output = w.output
 size : w.heap.size ≤ w'.heap.size
 block : ∀ k, k < w.heap.size → k ∉ S → w'.heap[k]? = w.heap[k]?
section
variable {S : List Nat} {w w' w'' : World}
theorem But.refl (S : List Nat) (w : World) : But S w w := ⟨rfl, rfl, rfl, Nat.le_refl _, fun _ _ _ => rfl⟩
theorem But.trans (h : But S w w') (k : But S w' w'') : But S w w'' := ⟨k.os.trans h.os, k.tape.trans h.tape, k.output.trans h.output, Nat.le_trans h.size k.size, fun i hi hs => (k.block i (Nat.lt_of_lt_of_le hi h.size) hs).trans (h.block i hi hs)⟩
theorem But.of_below (S : List Nat) {B : Nat} (h : Below B w w') (hB : w.heap.size ≤ B) : But S w w' := ⟨h.os, h.tape, h.output, h.size, fun k hk _ => h.block k (by omega)⟩
theorem But.set_ (w : World) {g : Nat} (hg : g ∈ S) (i : Nat) (u : Value) : But S w (w.setCell ⟨g, i, none⟩ u) :=
 ⟨rfl, rfl, rfl, by simp [World.setCell], fun k _ hs => Below.heap_setCell _ _ _ _ (fun e => hs (by rw [e]; exact hg))⟩
theorem But.blk {g : Nat} {t : TypeId} {cs : Array Value} (h : But S w w') (hb : Blk w g t cs) (hg : g ∉ S) : Blk w' g t cs := (h.block g hb.lt hg).trans hb
theorem But.below {B : Nat} (h : But S w w') (hB : B ≤ w.heap.size) (hS : ∀ k ∈ S, B ≤ k) : Below B w w' := ⟨h.os, h.tape, h.output, h.size, fun k hk => h.block k (by omega) (fun hs => by have := hS k hs; omega)⟩
theorem But.drewN (h : But S w w') (k : Nat) : But S w (w'.drewN k) := ⟨h.os, h.tape, h.output, h.size, h.block⟩
theorem But.undrew (h : But S w.drew w') : But S w w' := ⟨h.os, h.tape, h.output, h.size, h.block⟩
end
theorem But.mono {S S' : List Nat} {w w' : World} (h : But S w w') (hs : ∀ k ∈ S, k ∈ S') : But S' w w' := ⟨h.os, h.tape, h.output, h.size, fun k hk hn => h.block k hk fun h2 => hn (hs k h2)⟩
namespace R5
structure BFact (Ss : List (List Nat)) where
 bad : List Nat
 F : Value → World → Prop
 st : ∀ c, bad.contains c = false → ∀ v w w', But (Ss.getD c []) w w' → F v w → F v w'
def BFact.val {Ss : List (List Nat)} (u : Value) : BFact Ss := ⟨[], fun v _ => v = u, fun _ _ _ _ _ _ h => h⟩
def BFact.row {Ss : List (List Nat)} (t : TypeId) (D : Array Value) (n c : Nat) : BFact Ss := ⟨[], fun v w => ∃ g, v = .slice (some ⟨g, 0, none⟩) n c ∧ g ∉ Ss.flatten ∧ Blk w g t D,
 fun c _ v w w' h ⟨g, hv, hg, hb⟩ => ⟨g, hv, hg, h.blk hb fun hm => hg (by
  rcases Nat.lt_or_ge c Ss.length with hl | hl
  ·rw [List.getD_eq_getElem?_getD, List.getElem?_eq_getElem hl] at hm
   exact List.mem_flatten.2 ⟨_, List.getElem_mem hl, hm⟩
  ·rw [List.getD_eq_getElem?_getD, List.getElem?_eq_none hl] at hm
   simp at hm)⟩⟩
def bspec {Ss : List (List Nat)} (p : List Nat × BFact Ss) : PSpec := ⟨p.1, p.2.bad, fun _ v w => p.2.F v w⟩
def BW (Ss : List (List Nat)) (C : List Nat) : World → World → Prop := But (C.flatMap fun c => Ss.getD c [])
theorem BW.in_ {Ss : List (List Nat)} {C : List Nat} {w w' : World} (h : BW Ss C w w') (cs : List Nat) (h0 : Ss.getD 0 [] = []) (hC : C.all (fun c => c == 0 || cs.contains c) = true) : But (cs.flatMap fun c => Ss.getD c []) w w' := by
 refine But.mono h fun k hk => ?_
 obtain ⟨c, hc, hk⟩ := List.mem_flatMap.1 hk
 have := List.all_eq_true.1 hC c hc
 simp only [Bool.or_eq_true, beq_iff_eq, List.contains_iff_mem] at this
 rcases this with rfl | h2
 ·rw [h0] at hk; cases hk
 ·exact List.mem_flatMap.2 ⟨c, h2, hk⟩
theorem wp_region_b {P : Program} {id : Nat} {l : List Oper} {Q : Exit → Act → World → Prop} {a0 : Act} {w : World} (Ss : List (List Nat)) (cls : List Nat) (Fs : List (List Nat × BFact Ss)) (fin : List Nat)
  (hm : P.follows .mixedOrders = true)
  (hok : (okP l.toArray cls (Fs.map (fun p => p.1)) (Fs.map (fun p => p.2.bad)) fin (Region.before l.toArray) && fin.all (fun i => decide (i < l.toArray.size)) && (List.range l.toArray.size).all (fun i => decide ((Region.before l.toArray).getD i 0 < 2 ^ l.toArray.size))) = true)
  (hgo : ∀ us, R3.PGo P l.toArray (fun c => But (Ss.getD c [])) (BW Ss) (Region.before l.toArray) cls (Fs.map bspec) w.drew us l 0 a0)
  (hfin : ∀ us w', BW Ss (R3.allC l.toArray.size cls) w.drew w' → PHold (Fs.map bspec) us w' fin → Q .normal (lexL us l 0 a0) w') : (Code.region id l.toArray true).wp P Q a0 w := by
 refine R3.wp_region_p (fun c => But (Ss.getD c [])) (BW Ss) cls (Fs.map bspec) fin (Region.before l.toArray) hm (by simpa [List.map_map, Function.comp_def, bspec] using hok) (fun _ a => But.refl _ a) (fun _ _ _ _ h k => But.trans h k)
  (fun C c a b hc h => But.mono h fun t ht => List.mem_flatMap.2 ⟨c, hc, ht⟩) (fun _ a => But.refl _ a) ?_ ?_ hgo (fun us w' h1 h2 => by rw [lexAt_lexL]; exact hfin us w' h1 h2)
 ·intro s hs c hc us v w w' he hF
  obtain ⟨p, hp, rfl⟩ := List.mem_map.1 hs
  exact p.2.st c hc v w w' he hF
 ·intro s hs us us' h v w hF
  obtain ⟨p, hp, rfl⟩ := List.mem_map.1 hs
  exact hF
theorem pgo_pure {P : Program} {ops : Array Oper} {Ss : List (List Nat)} {W : List Nat → World → World → Prop} {b : Array Nat} {cls : List Nat} {Fs : List PSpec} {w0 : World} {us : Nat → Value} {o : Oper} {rest : List Oper} {i : Nat} {a : Act} (s : PSpec)
  (hg : o.guard = none) (hs : Fs[i]? = some s)
  (h : ∀ (w : World), W (R3.ahead ops.size cls b i) w0 w → PHold Fs us w s.uses → ∃ v, (execOp a.eval o).run P w = .ok (.value v) w ∧ s.F us v w)
  (hr : R3.PGo P ops (fun c => But (Ss.getD c [])) W b cls Fs w0 us rest (i + 1) (a.put o.dst (us i))) : R3.PGo P ops (fun c => But (Ss.getD c [])) W b cls Fs w0 us (o :: rest) i a :=
 R3.pgo_val s hg hs (fun w hw hu => by
  obtain ⟨v, h1, h2⟩ := h w hw hu
  exact ⟨v, w, h1, But.refl _ _, h2⟩) hr
end R5
theorem wpo_call {P : Program} {o : Oper} {a : Act} {K : Act → World → Prop} {Q : Exit → Act → World → Prop} {w : World} {f : FuncId} {args : Array Value} (h : (execOp a.eval o).run P w = .ok (.enter f args) w)
  (hc : Calls P f args w fun e w' => ∃ v, e = .returned v ∧ K (a.put o.dst v) w') : o.wp P a w K Q := by
 unfold Oper.wp
 rw [h]
 refine Calls.mono hc (fun e w' ⟨v, hv, hk⟩ => ?_)
 subst hv
 exact hk
end Go.Proofs.YtneeknlhlkpnpaaGreat
