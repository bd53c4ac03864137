/-
  The rule for regions, ready for use: what operations do is told by the types of the blocks that they may write; facts come with the proof that they outlive the others. Written by an AI agent.
-/
import Derived.Test.YtnjikhhegebkiaaDoorRegion
import Derived.Test.YtnjikhhegebkiaaDoorApp
namespace Go.Proofs.YtnjikhhegebkiaaDoor
open Go.RowKit

/-- from w to w' blocks of the types T, from B on, may have been written; all else is as it was -/
structure Evo (B : Nat) (T : List TypeId) (w w' : World) : Prop where
  os : w'.os = w.os
  tape : w'.tape = w.tape
  output : w'.output = w.output
  size : w.heap.size ≤ w'.heap.size
  keep : ∀ k, k < w.heap.size → (k < B ∨ ∀ cs t fr, w.heap[k]? = some (.cells cs t fr) → t ∉ T) → w'.heap[k]? = w.heap[k]?

section
variable {B : Nat} {T T' : List TypeId} {w w' w'' : World}
theorem Evo.refl (B : Nat) (T : List TypeId) (w : World) : Evo B T w w := ⟨rfl, rfl, rfl, Nat.le_refl _, fun _ _ _ => rfl⟩
theorem Evo.trans (h : Evo B T w w') (k : Evo B T w' w'') : Evo B T w w'' :=
  ⟨k.os.trans h.os, k.tape.trans h.tape, k.output.trans h.output, Nat.le_trans h.size k.size, fun i hi hk => by
    have e := h.keep i hi hk
    rw [← e]
    exact k.keep i (Nat.lt_of_lt_of_le hi h.size) (hk.imp id fun h2 => by rw [e]; exact h2)⟩
theorem Evo.mono (h : Evo B T w w') (hT : ∀ t ∈ T, t ∈ T') : Evo B T' w w' :=
  ⟨h.os, h.tape, h.output, h.size, fun k hk hc => h.keep k hk (hc.imp id fun h2 cs t fr e ht => h2 cs t fr e (hT t ht))⟩
theorem Evo.of_below (h : Below w.heap.size w w') : Evo B T w w' := ⟨h.os, h.tape, h.output, h.size, fun k hk _ => h.block k hk⟩
theorem Evo.below (h : Evo B T w w') (hB : B ≤ w.heap.size) : Below B w w' := ⟨h.os, h.tape, h.output, h.size, fun k hk => h.keep k (by omega) (.inl hk)⟩
theorem Evo.of_grown {base size n : Nat} {e : TypeId} {v : Value} {xs : List Value} (hown : w.ownsRow base e size v n xs) (hg : w.grownBy w' v.ownBlock) (he : e ∈ T) (hb : B ≤ base) : Evo B T w w' := by
  refine ⟨hg.os, hg.tape, hg.output, hg.size, fun k hk hc => ?_⟩
  by_cases hkk : some k = v.ownBlock
  · exfalso
    obtain ⟨hl1, _⟩ := hown.lt k hkk.symm
    rcases hc with h | h
    · omega
    · rcases hown.2 with ⟨rfl, _⟩ | ⟨g, cap, cur, rfl, hbg, hh, _⟩
      · simp [Value.ownBlock] at hkk
      · simp [Value.ownBlock] at hkk
        subst hkk
        exact h _ _ _ hh he
  · exact hg.block k hk hkk
theorem Evo.set_ {g : Nat} {t : TypeId} {cs : Array Value} (h : Blk w g t cs) (ht : t ∈ T) (hb : B ≤ g) (i : Nat) (u : Value) : Evo B T w (w.setCell ⟨g, i, none⟩ u) := by
  refine ⟨rfl, rfl, rfl, by simp [World.setCell], fun k hk hc => ?_⟩
  by_cases hkg : k = g
  · subst hkg
    rcases hc with h1 | h1
    · omega
    · exact absurd ht (h1 _ _ _ h)
  · exact Below.heap_setCell _ _ _ _ (by simpa using hkg)
theorem Blk.evo {g : Nat} {t : TypeId} {cs : Array Value} (h : Blk w g t cs) (he : Evo B T w w') (ht : g < B ∨ t ∉ T) : Blk w' g t cs := by
  unfold Blk
  rw [he.keep g h.lt (ht.imp id fun h2 cs' t' fr e => by unfold Blk at h; rw [h] at e; injection e with e; injection e with _ e; rw [← e]; exact h2)]
  exact h
theorem own_evo {base size n : Nat} {e : TypeId} {v : Value} {xs : List Value} (h : w.ownsRow base e size v n xs) (he : Evo B T w w') (ht : e ∉ T) : w'.ownsRow base e size v n xs := by
  obtain ⟨h1, h2⟩ := h
  refine ⟨h1, ?_⟩
  rcases h2 with h2 | ⟨g, cap, cur, hv, hg, hh, r⟩
  · exact Or.inl h2
  · exact Or.inr ⟨g, cap, cur, hv, hg, Blk.evo (cs := cur) hh he (.inr ht), r⟩
end

/-- a fact on a value and a world, with the types of the blocks that it looks at, and the operations whose values it names -/
structure PFact (B : Nat) where
  U : List TypeId
  reads : List Nat
  F : (Nat → Value) → Value → World → Prop
  st : ∀ T : List TypeId, (∀ t ∈ U, t ∉ T) → ∀ us v w w', Evo B T w w' → F us v w → F us v w'
  cg : ∀ us us', (∀ j ∈ reads, us j = us' j) → ∀ v w, F us v w → F us' v w

/-- the value itself -/
def PFact.val {B : Nat} (u : Value) : PFact B := ⟨[], [], fun _ v _ => v = u, fun _ _ _ _ _ _ _ h => h, fun _ _ _ _ _ h => h⟩
/-- nothing is said -/
def PFact.any {B : Nat} : PFact B := ⟨[], [], fun _ _ _ => True, fun _ _ _ _ _ _ _ h => h, fun _ _ _ _ _ h => h⟩
/-- a pointer to a block that is known whole -/
def PFact.blk {B : Nat} (t : TypeId) (D : Array Value) : PFact B :=
  ⟨[t], [], fun _ v w => ∃ g, v = .pointer (some ⟨g, 0, none⟩) ∧ B ≤ g ∧ Blk w g t D, fun _ hT _ _ _ _ he ⟨g, hv, hg, hb⟩ => ⟨g, hv, hg, hb.evo he (.inr (hT t (by simp)))⟩, fun _ _ _ _ _ h => h⟩
/-- a slice over a block that is known whole -/
def PFact.row {B : Nat} (t : TypeId) (D : Array Value) (n c : Nat) : PFact B :=
  ⟨[t], [], fun _ v w => ∃ g, v = .slice (some ⟨g, 0, none⟩) n c ∧ B ≤ g ∧ Blk w g t D, fun _ hT _ _ _ _ he ⟨g, hv, hg, hb⟩ => ⟨g, hv, hg, hb.evo he (.inr (hT t (by simp)))⟩, fun _ _ _ _ _ h => h⟩
/-- a row of the call's own -/
def PFact.own {B : Nat} (e : TypeId) (size n : Nat) (xs : List Value) : PFact B :=
  ⟨[e], [], fun _ v w => ∃ A c, v = .slice A n c ∧ w.ownsRow B e size v n xs, fun _ hT _ _ _ _ he ⟨A, c, hv, ho⟩ => ⟨A, c, hv, own_evo ho he (hT e (by simp))⟩, fun _ _ _ _ _ h => h⟩
/-- a value built of a row of the call's own -/
def PFact.owned {B : Nat} (e : TypeId) (size n : Nat) (xs : List Value) (f : Value → Value) : PFact B :=
  ⟨[e], [], fun _ v w => ∃ A c, v = f (.slice A n c) ∧ w.ownsRow B e size (.slice A n c) n xs, fun _ hT _ _ _ _ he ⟨A, c, hv, ho⟩ => ⟨A, c, hv, own_evo ho he (hT e (by simp))⟩, fun _ _ _ _ _ h => h⟩
/-- the block to which operation j points now holds a value built of a row of the call's own -/
def PFact.stored {B : Nat} (j : Nat) (t e : TypeId) (size n : Nat) (xs : List Value) (f : Value → Array Value) : PFact B :=
  ⟨[t, e], [j], fun us _ w => ∃ g A c, us j = .pointer (some ⟨g, 0, none⟩) ∧ B ≤ g ∧ Blk w g t (f (.slice A n c)) ∧ w.ownsRow B e size (.slice A n c) n xs,
    fun _ hT _ _ _ _ he ⟨g, A, c, hv, hg, hb, ho⟩ => ⟨g, A, c, hv, hg, hb.evo he (.inr (hT t (by simp))), own_evo ho he (hT e (by simp))⟩,
    fun _ _ h _ _ ⟨g, A, c, hv, hg, hb, ho⟩ => ⟨g, A, c, by rw [← h j (by simp)]; exact hv, hg, hb, ho⟩⟩

def badOf (Ts : List (List TypeId)) (U : List TypeId) : List Nat := (List.range Ts.length).filter fun c => U.any fun t => (Ts.getD c []).contains t
theorem badOf_no {Ts : List (List TypeId)} {U : List TypeId} {c : Nat} (h : (badOf Ts U).contains c = false) : ∀ t ∈ U, t ∉ Ts.getD c [] := by
  intro t ht hc
  rcases Nat.lt_or_ge c Ts.length with hl | hl
  · have : c ∈ badOf Ts U := by
      unfold badOf
      rw [List.mem_filter]
      exact ⟨List.mem_range.2 hl, List.any_eq_true.2 ⟨t, ht, List.contains_iff_mem.2 hc⟩⟩
    rw [List.contains_iff_mem.2 this] at h
    cases h
  · rw [List.getD_eq_getElem?_getD, List.getElem?_eq_none hl] at hc
    simp at hc

/-- the frame behind all operations -/
def lexL (us : Nat → Value) : List Oper → Nat → Act → Act
  | [], _, a => a
  | o :: r, i, a => lexL us r (i + 1) (a.put o.dst (us i))
theorem lexL_fold (us : Nat → Value) (l : List Oper) (k : Nat) (a : Act) : lexL us l k a = (List.range l.length).foldl (fun x j => x.put ((l[j]?).bind (·.dst)) (us (k + j))) a := by
  induction l generalizing k a with
  | nil => rfl
  | cons o r ih =>
    rw [lexL, ih, List.length_cons, List.range_succ_eq_map, List.foldl_cons, List.foldl_map]
    simp only [List.getElem?_cons_zero, Option.bind_some, Nat.add_zero, List.getElem?_cons_succ, Nat.add_succ, Nat.succ_add]
theorem lexAt_lexL (us : Nat → Value) (l : List Oper) (a : Act) : lexAt l.toArray us l.toArray.size a = lexL us l 0 a := by
  rw [lexAt_fold, lexL_fold]; simp
def specOf {B : Nat} (Ts : List (List TypeId)) (p : List Nat × PFact B) : PSpec := ⟨p.1 ++ p.2.reads, badOf Ts p.2.U, p.2.F⟩
def allT (Ts : List (List TypeId)) : List TypeId := Ts.flatten

theorem wp_region_q {P : Program} {id : Nat} {l : List Oper} {Q : Exit → Act → World → Prop} {a0 : Act} {w : World} (B : Nat) (Ts : List (List TypeId)) (cls : List Nat) (Fs : List (List Nat × PFact B)) (fin : List Nat)
    (hm : P.follows .mixedOrders = true)
    (hok : (okP l.toArray cls (Fs.map (fun p => p.1 ++ p.2.reads)) (Fs.map (fun p => badOf Ts p.2.U)) fin (Region.before l.toArray) && fin.all (fun i => decide (i < l.toArray.size)) && (List.range l.toArray.size).all (fun i => decide ((Region.before l.toArray).getD i 0 < 2 ^ l.toArray.size))) = true)
    (hgo : ∀ us, PGo P l.toArray (fun c => Evo B (Ts.getD c [])) (Evo B (allT Ts)) cls (Fs.map (specOf Ts)) w.drew us l 0 a0)
    (hfin : ∀ us w', Evo B (allT Ts) w.drew w' → PHold (Fs.map (specOf Ts)) us w' fin → Q .normal (lexL us l 0 a0) w') : (Code.region id l.toArray true).wp P Q a0 w := by
  refine wp_region_p (fun c => Evo B (Ts.getD c [])) (Evo B (allT Ts)) cls (Fs.map (specOf Ts)) fin (Region.before l.toArray) hm (by simpa [List.map_map, Function.comp_def, specOf] using hok) (fun _ _ _ h k => h.trans k)
    (fun c a b h => h.mono fun t ht => ?_) (fun _ a => Evo.refl _ _ a) ?_ ?_ hgo (fun us w' h1 h2 => by rw [lexAt_lexL]; exact hfin us w' h1 h2)
  · unfold allT
    rcases Nat.lt_or_ge c Ts.length with hl | hl
    · rw [List.getD_eq_getElem?_getD, List.getElem?_eq_getElem hl] at ht
      exact List.mem_flatten.2 ⟨_, List.getElem_mem hl, ht⟩
    · rw [List.getD_eq_getElem?_getD, List.getElem?_eq_none hl] at ht
      simp at ht
  · intro s hs c hc us v w w' he hF
    obtain ⟨p, hp, rfl⟩ := List.mem_map.1 hs
    exact p.2.st _ (badOf_no hc) us v w w' he hF
  · intro s hs us us' h v w hF
    obtain ⟨p, hp, rfl⟩ := List.mem_map.1 hs
    exact p.2.cg us us' (fun j hj => h j (List.mem_append_right _ hj)) v w hF

/-- one operation without a guard; what it comes to stands behind a letter -/
theorem pgo_op {P : Program} {ops : Array Oper} {E : Nat → World → World → Prop} {W : World → World → Prop} {cls : List Nat} {Fs : List PSpec} {w0 : World} {us : Nat → Value} {o : Oper} {rest : List Oper} {i : Nat} {a : Act} (s : PSpec)
    (hg : o.guard = none) (hs : Fs[i]? = some s)
    (h : ∀ (K : Act → World → Prop) (w : World), W w0 w → PHold Fs us w s.uses → (∀ v w', E (cls.getD i 0) w w' → s.F us v w' → K (a.put o.dst v) w') → o.wp P a w K (fun _ _ _ => False))
    (hr : PGo P ops E W cls Fs w0 us rest (i + 1) (a.put o.dst (us i))) : PGo P ops E W cls Fs w0 us (o :: rest) i a := by
  refine ⟨?_, hr⟩
  unfold PStep
  rw [hs]
  intro w hw hu
  rw [if_pos (by simp [Region.wanted, hg])]
  exact h _ w hw hu fun v w' hE hF => ⟨v, rfl, hE, hF⟩

/-- append onto an empty row of the call's own without room: nothing that was there turns -/
theorem run_app_fresh {P : Program} {w : World} {t e : TypeId} {z : Value} {size bytes : Nat} (hE : Elem P t e z size bytes) (ty : TypeId)
    {base g : Nat} (hb : Blk w g e #[]) (hbg : base ≤ g) {B m : Nat} {A : Option Addr} (c : Nat) {news : List Value} (hr : Cells w B A news) (hl : news.length = m * size)
    (hbytes : m * bytes ≤ 140737488355328) (h63 : m ≤ 9223372036854775807) (hbase : base ≤ w.heap.size) :
    ∃ A' c' w', (Builtin.append_ #[t, t] ty #[.slice (some ⟨g, 0, none⟩) 0 0, .slice A m c]).run P w = .ok (.slice A' m c') w' ∧ w'.ownsRow base e size (.slice A' m c') m news ∧ Below w.heap.size w w' := by
  obtain ⟨i, ht, hi, hz, hsize, hby, hzs, hsz⟩ := hE
  have hown : w.ownsRow base e size (.slice (some ⟨g, 0, none⟩) 0 0) 0 [] := ⟨by simp, .inr ⟨g, 0, #[], rfl, hbg, hb, Nat.le_refl _, by unfold maxLen; omega, by simp, by simp⟩⟩
  rcases Nat.eq_zero_or_pos m with h0 | h0
  · subst h0
    have hn : news = [] := List.eq_nil_of_length_eq_zero (by simpa using hl)
    subst hn
    refine ⟨some ⟨g, 0, none⟩, 0, w, ?_, hown, Below.refl _ _⟩
    cases A with
    | none => exact run_append_of_nil ty ht hi hown none c rfl
    | some ad => simp [Builtin.append_, run_underlying ht, sizeOf, typeInfo, hi, Builtin.lenOf, Builtin.firstCells, loadCells, loadCellsFrom, storeCells]
  · subst hsize
    subst hby
    obtain ⟨bb, off, rfl, _, hc⟩ := hr (by rw [hl]; exact Nat.mul_pos h0 hsz)
    have hcells : ∀ j u, news[j]? = some u → w.cell? ((⟨bb, off, none⟩ : Addr).add j) = some u := by
      intro j u hu
      have e1 : (⟨bb, off, none⟩ : Addr).add j = ⟨bb, off + j, none⟩ := by unfold Addr.add; split <;> simp_all
      rw [e1]; exact hc j u hu
    have hrun := run_append_grow (P := P) w t ty e i z ht hi hz ⟨g, 0, none⟩ 0 0 [] (by simp) (by intro j v hj; simp at hj) ⟨bb, off, none⟩ m c news hl hcells (by omega) (by omega) (growslice_fits (by omega) (by rw [Nat.zero_add]; exact hbytes))
    simp only [Nat.zero_add] at hrun
    have hge := grownCap_ge w m 0 e
    have hcm : grownCap w m 0 e ≤ maxLen := grownCap_le_maxLen w m 0 e (by unfold maxLen; omega)
    refine ⟨_, _, _, hrun, ⟨hl, .inr ⟨w.heap.size, _, _, rfl, hbase, heap_alloc_new w.drew _, hge, hcm, ?_, ?_⟩⟩, ((Below.refl _ _).drew).alloc (Nat.le_refl _) _⟩
    · simp only [Array.size_append, List.size_toArray, size_zeroCells, hzs, hl, ← Nat.add_mul, List.length_nil, Nat.zero_add]
      congr 1
      omega
    · simp only [Array.toList_append, List.nil_append]
      rw [← hl]
      exact List.take_left

theorem wpo_app_fresh {P : Program} {w : World} {t e : TypeId} {z : Value} {size bytes : Nat} {o : Oper} {a : Act} {K : Act → World → Prop} {Q : Exit → Act → World → Prop} (hE : Elem P t e z size bytes) (s x : Operand)
    (ho : o.op = .call { callee := .builtin .append, args := #[s, x], argTypes := #[t, t] })
    {base g : Nat} (hs : a.eval s = .slice (some ⟨g, 0, none⟩) 0 0) (hb : Blk w g e #[]) (hbg : base ≤ g) {B m : Nat} {A : Option Addr} {c : Nat} {news : List Value} (hx : a.eval x = .slice A m c) (hr : Cells w B A news) (hl : news.length = m * size)
    (hbytes : m * bytes ≤ 140737488355328) (h63 : m ≤ 9223372036854775807) (hbase : base ≤ w.heap.size)
    (h : ∀ A' c' w', w'.ownsRow base e size (.slice A' m c') m news → Below w.heap.size w w' → K (a.put o.dst (.slice A' m c')) w') : o.wp P a w K Q := by
  obtain ⟨A', c', w', hrun, h2, h3⟩ := run_app_fresh hE o.type hb hbg c hr hl hbytes h63 hbase
  unfold Oper.wp execOp
  simp only [ho, resolve, invoke, builtin, Sem.run_bind, Sem.run_pure, Result.andThen_ok, List.map_toArray, List.map_cons, List.map_nil, hs, hx, hrun]
  exact h A' c' w' h2 h3

theorem wpo_value {P : Program} {o : Oper} {a : Act} {w w' : World} {K : Act → World → Prop} {Q : Exit → Act → World → Prop} {v : Value} (h : (execOp a.eval o).run P w = .ok (.value v) w') (hK : K (a.put o.dst v) w') : o.wp P a w K Q := by
  unfold Oper.wp; rw [h]; exact hK
theorem wpo_skip {P : Program} {o : Oper} {a : Act} {w w' : World} {K : Act → World → Prop} {Q : Exit → Act → World → Prop} (h : (execOp a.eval o).run P w = .ok .skip w') (hK : K (a.put o.dst undef) w') : o.wp P a w K Q := by
  unfold Oper.wp; rw [h]; exact hK

/-- an operation that yields a value -/
theorem pgo_val {P : Program} {ops : Array Oper} {E : Nat → World → World → Prop} {W : World → World → Prop} {cls : List Nat} {Fs : List PSpec} {w0 : World} {us : Nat → Value} {o : Oper} {rest : List Oper} {i : Nat} {a : Act} (s : PSpec)
    (hg : o.guard = none) (hs : Fs[i]? = some s)
    (h : ∀ (w : World), W w0 w → PHold Fs us w s.uses → ∃ v w', (execOp a.eval o).run P w = .ok (.value v) w' ∧ E (cls.getD i 0) w w' ∧ s.F us v w')
    (hr : PGo P ops E W cls Fs w0 us rest (i + 1) (a.put o.dst (us i))) : PGo P ops E W cls Fs w0 us (o :: rest) i a :=
  pgo_op s hg hs (fun _ w hw hu hK => by
    obtain ⟨v, w', h1, h2, h3⟩ := h w hw hu
    exact wpo_value h1 (hK v w' h2 h3)) hr
/-- an operation that yields a value that the world does not turn -/
theorem pgo_pure {P : Program} {ops : Array Oper} {B : Nat} {Ts : List (List TypeId)} {W : World → World → Prop} {cls : List Nat} {Fs : List PSpec} {w0 : World} {us : Nat → Value} {o : Oper} {rest : List Oper} {i : Nat} {a : Act} (s : PSpec)
    (hg : o.guard = none) (hs : Fs[i]? = some s)
    (h : ∀ (w : World), W w0 w → PHold Fs us w s.uses → ∃ v, (execOp a.eval o).run P w = .ok (.value v) w ∧ s.F us v w)
    (hr : PGo P ops (fun c => Evo B (Ts.getD c [])) W cls Fs w0 us rest (i + 1) (a.put o.dst (us i))) : PGo P ops (fun c => Evo B (Ts.getD c [])) W cls Fs w0 us (o :: rest) i a :=
  pgo_val s hg hs (fun w hw hu => by
    obtain ⟨v, h1, h2⟩ := h w hw hu
    exact ⟨v, w, h1, Evo.refl _ _ _, h2⟩) hr
/-- an operation that yields nothing (a store) -/
theorem pgo_skip {P : Program} {ops : Array Oper} {E : Nat → World → World → Prop} {W : World → World → Prop} {cls : List Nat} {Fs : List PSpec} {w0 : World} {us : Nat → Value} {o : Oper} {rest : List Oper} {i : Nat} {a : Act} (s : PSpec)
    (hg : o.guard = none) (hs : Fs[i]? = some s)
    (h : ∀ (w : World), W w0 w → PHold Fs us w s.uses → ∃ w', (execOp a.eval o).run P w = .ok .skip w' ∧ E (cls.getD i 0) w w' ∧ s.F us undef w')
    (hr : PGo P ops E W cls Fs w0 us rest (i + 1) (a.put o.dst (us i))) : PGo P ops E W cls Fs w0 us (o :: rest) i a :=
  pgo_op s hg hs (fun _ w hw hu hK => by
    obtain ⟨w', h1, h2, h3⟩ := h w hw hu
    exact wpo_skip h1 (hK undef w' h2 h3)) hr

/-- a row of the call's own stays while a block of another type is written -/
theorem own_set {w : World} {base size n g : Nat} {e t : TypeId} {v : Value} {xs : List Value} {cs : Array Value} (h : w.ownsRow base e size v n xs) (hb : Blk w g t cs) (ht : e ≠ t) (i : Nat) (u : Value) : (w.setCell ⟨g, i, none⟩ u).ownsRow base e size v n xs := by
  obtain ⟨h1, h2⟩ := h
  refine ⟨h1, ?_⟩
  rcases h2 with h2 | ⟨k, cap, cur, hv, hg, hh, r⟩
  · exact Or.inl h2
  · refine Or.inr ⟨k, cap, cur, hv, hg, ?_, r⟩
    rw [Below.heap_setCell _ _ _ _ (fun hk => ?_)]
    · exact hh
    · simp only at hk
      subst hk
      unfold Blk at hb
      rw [hh] at hb
      injection hb with hb
      injection hb with _ hb
      exact ht hb

/-- what a slot holds behind a put -/
theorem put_eval (a : Act) (d t : Tmp) (v u : Value) (hd : d ≠ t) (h : a.eval (.tmp t) = u) : (a.put (some d) v).eval (.tmp t) = u := by
  rw [← h]
  show (a.tmps.setIfInBounds d v).getD t undef = a.tmps.getD t undef
  exact getD_of_get (Array.getElem?_setIfInBounds_ne hd)
theorem put_eval_same (a : Act) (d : Tmp) (v : Value) (hd : d < a.tmps.size) : (a.put (some d) v).eval (.tmp d) = v := by
  show (a.tmps.setIfInBounds d v).getD d undef = v
  simp [Array.getD_eq_getD_getElem?, hd]
end Go.Proofs.YtnjikhhegebkiaaDoor
