/-
  A rule for the region that puts an element behind a list, which lies behind a pointer, in any order: two blocks alone are written. Written by an AI agent.
-/
import Derived.Test.YtmlbjcngboegfaaListW
import Derived.Test.YtmlbjcngboegfaaRegion3
namespace Go.Proofs.Ytmlbjcngboegfaa
open Go.RowKit

/-- what an operation of a class may turn: nothing; nothing old; the row's own block; block gx -/
def TwE (gx : Nat) (ob : Option Nat) (c : Nat) (a b : World) : Prop :=
  if c = 1 then Below a.heap.size a b else if c = 2 then a.grownBy b ob else if c = 3 then Only (fun i => i = gx) a b else a = b
def TwK (gx : Nat) (ob : Option Nat) (C : List Nat) (i : Nat) : Prop := (2 ∈ C ∧ ob = some i) ∨ (3 ∈ C ∧ i = gx)
def TwW (gx : Nat) (ob : Option Nat) (C : List Nat) (a b : World) : Prop := Only (TwK gx ob C) a b
theorem TwE.only {gx : Nat} {ob : Option Nat} {C : List Nat} {c : Nat} {a b : World} (hc : c ∈ C) (h : TwE gx ob c a b) : TwW gx ob C a b := by
  unfold TwE at h
  split at h
  · exact (Only.of_below h).mono fun _ _ h => h.elim
  split at h
  · rename_i _ e
    subst e
    exact (Only.grown h).mono fun i _ hi => .inl ⟨hc, hi⟩
  split at h
  · rename_i _ _ e
    subst e
    exact h.mono fun i _ hi => .inr ⟨hc, hi⟩
  · subst h; exact Only.refl _ _
theorem TwE.refl (gx : Nat) (ob : Option Nat) (c : Nat) (a : World) : TwE gx ob c a a := by
  unfold TwE
  split
  · exact Below.refl _ _
  split
  · exact World.grownBy.refl _ _
  split
  · exact Only.refl _ _
  · rfl
/-- facts: a value · a block that is new · a row of the call's own · the end -/
inductive T2 where
  | v (uses : List Nat) (u : Value)
  | p (uses : List Nat) (e : TypeId) (cs : Array Value) (mk : Nat → Value)
  | own (uses : List Nat) (base : Nat) (e : TypeId) (size n : Nat) (xs : List Value)
  | fin (uses : List Nat) (d : Nat) (base : Nat) (e : TypeId) (size n : Nat) (xs : List Value) (t : TypeId) (cs : Array Value) (o : Nat)
def freshV (ob : Option Nat) (N : Nat) (v : Value) : Prop := v.ownBlock = ob ∨ ∃ k, v.ownBlock = some k ∧ N ≤ k
def T2.spec (gx : Nat) (ob : Option Nat) (N : Nat) : T2 → PSpec
  | .v uses u => ⟨uses, [], fun _ v _ => v = u⟩
  | .p uses e cs mk => ⟨uses, [], fun _ v w => ∃ g, v = mk g ∧ N ≤ g ∧ Blk w g e cs⟩
  | .own uses base e size n xs => ⟨uses, [2], fun _ v w => w.ownsRow base e size v n xs ∧ freshV ob N v⟩
  | .fin uses d base e size n xs t cs o => ⟨d :: uses, [2, 3], fun us _ w => (w.ownsRow base e size (us d) n xs ∧ freshV ob N (us d)) ∧ Blk w gx t (cs.setIfInBounds o (us d))⟩
theorem wp_region_two {P : Program} {id : Nat} {l : List Oper} {Q : Exit → Act → World → Prop} {a0 : Act} {w : World} (gx : Nat) (ob : Option Nat) (b : Array Nat) (cls : List Nat) (Fs0 : List T2) (fin : List Nat)
    (hm : P.follows .mixedOrders = true)
    (hok : (okP l.toArray cls ((Fs0.map (T2.spec gx ob w.heap.size)).map (·.uses)) ((Fs0.map (T2.spec gx ob w.heap.size)).map (·.bad)) fin b && fin.all (fun i => decide (i < l.toArray.size)) && (List.range l.toArray.size).all (fun i => decide (b.getD i 0 < 2 ^ l.toArray.size))) = true)
    (hgx : gx < w.heap.size) (hob : ∀ k, ob = some k → k < w.heap.size ∧ k ≠ gx)
    (hgo : ∀ us, R3.PGo P l.toArray (TwE gx ob) (TwW gx ob) b cls (Fs0.map (T2.spec gx ob w.heap.size)) w.drew us l 0 a0)
    (hfin : ∀ us w', TwW gx ob (R3.allC l.toArray.size cls) w.drew w' → PHold (Fs0.map (T2.spec gx ob w.heap.size)) us w' fin → Q .normal (lexL us l 0 a0) w') : (Code.region id l.toArray true).wp P Q a0 w := by
  refine R3.wp_region_p (TwE gx ob) (TwW gx ob) cls (Fs0.map (T2.spec gx ob w.heap.size)) fin b hm hok (fun _ a => Only.refl _ a) (fun _ _ _ _ h k => h.trans k fun _ _ h => h) (fun _ _ _ _ => TwE.only) (TwE.refl gx ob) ?_ ?_ hgo (fun us w' h1 h2 => by rw [lexAt_lexL]; exact hfin us w' h1 h2)
  · intro s hs c hc us v w1 w2 hE hF
    have hO := TwE.only (List.mem_singleton.2 rfl : c ∈ [c]) hE
    have hO : Only (TwK gx ob [c]) w1 w2 := hO
    have hown : ∀ {v : Value} {base : Nat} {e : TypeId} {size n : Nat} {xs : List Value}, c ≠ 2 → w1.ownsRow base e size v n xs → freshV ob w.heap.size v → w2.ownsRow base e size v n xs := fun h2 ho hf => own_only ho hO fun g hg hk => by
      rcases hk with ⟨hm, hk⟩ | ⟨hm, hk⟩
      · exact h2 (List.mem_singleton.1 hm).symm
      · subst hk
        rcases hf with hf | ⟨k, hf, hk⟩
        · exact (hob g (hf.symm.trans hg)).2 rfl
        · rw [hf] at hg; injection hg with hg; omega
    obtain ⟨o, _, rfl⟩ := List.mem_map.1 hs
    cases o with
    | v uses u => exact hF
    | p uses e cs mk =>
      obtain ⟨g, h1, h2, h3⟩ := hF
      refine ⟨g, h1, h2, h3.only hO fun hk => ?_⟩
      rcases hk with ⟨_, hk⟩ | ⟨_, hk⟩
      · have := (hob g hk).1; omega
      · omega
    | own uses base e size n xs =>
      have hc2 : c ≠ 2 := by
        intro e
        subst e
        simp [T2.spec] at hc
      exact ⟨hown hc2 hF.1 hF.2, hF.2⟩
    | fin uses d base e size n xs t cs o =>
      have hc2 : c ≠ 2 ∧ c ≠ 3 := by
        constructor <;> (intro e; subst e; simp [T2.spec] at hc)
      refine ⟨⟨hown hc2.1 hF.1.1 hF.1.2, hF.1.2⟩, hF.2.only hO fun hk => ?_⟩
      rcases hk with ⟨hm, _⟩ | ⟨hm, _⟩
      · exact hc2.1 (List.mem_singleton.1 hm).symm
      · exact hc2.2 (List.mem_singleton.1 hm).symm
  · intro s hs us us' hu v w1 hF
    obtain ⟨o, _, rfl⟩ := List.mem_map.1 hs
    cases o with
    | v uses u => exact hF
    | p uses e cs mk => exact hF
    | own uses base e size n xs => exact hF
    | fin uses d base e size n xs t cs o =>
      have e := hu d (List.mem_cons_self ..)
      simp only [T2.spec] at hF ⊢
      rw [← e]; exact hF
/-- an operation that turns nothing -/
theorem pgo_two {P : Program} {ops : Array Oper} {gx : Nat} {ob : Option Nat} {W : List Nat → World → World → Prop} {b : Array Nat} {cls : List Nat} {Fs : List PSpec} {w0 : World} {us : Nat → Value} {o : Oper} {rest : List Oper} {i : Nat} {a : Act} (s : PSpec)
    (hg : o.guard = none) (hs : Fs[i]? = some s)
    (h : ∀ (w : World), W (R3.ahead ops.size cls b i) w0 w → PHold Fs us w s.uses → ∃ v, (execOp a.eval o).run P w = .ok (.value v) w ∧ s.F us v w)
    (hr : R3.PGo P ops (TwE gx ob) W b cls Fs w0 us rest (i + 1) (a.put o.dst (us i))) : R3.PGo P ops (TwE gx ob) W b cls Fs w0 us (o :: rest) i a :=
  R3.pgo_val s hg hs (fun w hw hu => by
    obtain ⟨v, h1, h2⟩ := h w hw hu
    exact ⟨v, w, h1, TwE.refl _ _ _ _, h2⟩) hr

theorem Ran.set_ {B gc : Nat} {rd : Bool} {ov : Value} {w w1 : World} {X : Nat → Prop} {s1 : CS} {gx o : Nat} {u : Value} (h : Ran B gc rd ov X w w1 s1) (h1 : gx < w.heap.size) (h2 : gx ≠ gc) (h3 : ov.ownBlock ≠ some gx) (h4 : B ≤ gx) :
    Ran B gc rd ov (fun i => i = gx ∨ X i) w (w1.setCell ⟨gx, o, none⟩ u) s1 := by
  obtain ⟨A, c, ov1, hc, ho, hf⟩ := h
  refine ⟨A, c, ov1, hc.only (Only.set_ w1 gx o u) (fun e => h2 e.symm) (fun g hg e => ?_) (fun i e => by rw [e]; exact h4), ?_, hf⟩
  · subst e; exact h3 (hf g h1 hg)
  · refine (ho.mono fun i _ hi => ?_ : Only (coderK gc ov fun i => i = gx ∨ X i) w w1).trans (Only.set_ w1 gx o u) fun i _ e => .inr (.inr (.inl e))
    exact hi.imp id (Or.imp id .inr)
end Go.Proofs.Ytmlbjcngboegfaa
