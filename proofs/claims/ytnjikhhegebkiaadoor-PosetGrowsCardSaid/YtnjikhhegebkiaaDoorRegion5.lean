/-
  A region that draws its order, and writes known blocks alone. Written by an AI agent.
-/
import Derived.Test.YtnjikhhegebkiaaDoorRegion3
import Derived.Test.YtnjikhhegebkiaaDoorSlices
namespace Go.Proofs.YtnjikhhegebkiaaDoor
open Go.RowKit

/-- the world is as it was, but for these blocks -/
structure But (S : List Nat) (w w' : World) : Prop where
  os : w'.os = w.os
  tape : w'.tape = w.tape
  output : w'.output = w.output
  size : w.heap.size ≤ w'.heap.size
  block : ∀ k, k < w.heap.size → k ∉ S → w'.heap[k]? = w.heap[k]?
section
variable {S : List Nat} {w w' w'' : World}
theorem But.refl (S : List Nat) (w : World) : But S w w := ⟨rfl, rfl, rfl, Nat.le_refl _, fun _ _ _ => rfl⟩
theorem But.trans (h : But S w w') (k : But S w' w'') : But S w w'' := ⟨k.os.trans h.os, k.tape.trans h.tape, k.output.trans h.output, Nat.le_trans h.size k.size, fun i hi hs => (k.block i (Nat.lt_of_lt_of_le hi h.size) hs).trans (h.block i hi hs)⟩
theorem But.of_below (S : List Nat) {B : Nat} (h : Below B w w') (hB : w.heap.size ≤ B) : But S w w' := ⟨h.os, h.tape, h.output, h.size, fun k hk _ => h.block k (by omega)⟩
theorem But.set_ (w : World) {g : Nat} (hg : g ∈ S) (i : Nat) (u : Value) : But S w (w.setCell ⟨g, i, none⟩ u) :=
  ⟨rfl, rfl, rfl, by simp [World.setCell], fun k _ hs => Below.heap_setCell _ _ _ _ (fun e => hs (by rw [e]; exact hg))⟩
theorem But.blk {g : Nat} {t : TypeId} {cs : Array Value} (h : But S w w') (hb : Blk w g t cs) (hg : g ∉ S) : Blk w' g t cs := (h.block g hb.lt hg).trans hb
theorem But.below {B : Nat} (h : But S w w') (hB : B ≤ w.heap.size) (hS : ∀ k ∈ S, B ≤ k) : Below B w w' := ⟨h.os, h.tape, h.output, h.size, fun k hk => h.block k (by omega) (fun hs => by have := hS k hs; omega)⟩
theorem But.drewN (h : But S w w') (k : Nat) : But S w (w'.drewN k) := ⟨h.os, h.tape, h.output, h.size, h.block⟩
theorem But.undrew (h : But S w.drew w') : But S w w' := ⟨h.os, h.tape, h.output, h.size, h.block⟩
end
theorem cells_but {S : List Nat} {w w' : World} {xs : List Value} {g B : Nat} (h : But S w w') (hc : Cells w B (some ⟨g, 0, none⟩) xs) (hg : g ∉ S) (hB : B ≤ w.heap.size) : Cells w' B (some ⟨g, 0, none⟩) xs := fun hn => by
  obtain ⟨b, off, e, hb, hc⟩ := hc hn
  injection e with e
  injection e with e1 e2 _
  subst e1 e2
  refine ⟨g, 0, rfl, hb, fun j u hj => ?_⟩
  rw [← hc j u hj]
  unfold World.cell?
  rw [h.block g (by omega) hg]
theorem But.mono {S S' : List Nat} {w w' : World} (h : But S w w') (hs : ∀ k ∈ S, k ∈ S') : But S' w w' := ⟨h.os, h.tape, h.output, h.size, fun k hk hn => h.block k hk fun h2 => hn (hs k h2)⟩
namespace R5
/-- a fact that stands while blocks of other classes are written -/
structure BFact (Ss : List (List Nat)) where
  bad : List Nat
  F : Value → World → Prop
  st : ∀ c, bad.contains c = false → ∀ v w w', But (Ss.getD c []) w w' → F v w → F v w'
def BFact.val {Ss : List (List Nat)} (u : Value) : BFact Ss := ⟨[], fun v _ => v = u, fun _ _ _ _ _ _ h => h⟩
/-- a slice over a block made here -/
def BFact.row {Ss : List (List Nat)} (t : TypeId) (D : Array Value) (n c : Nat) : BFact Ss := ⟨[], fun v w => ∃ g, v = .slice (some ⟨g, 0, none⟩) n c ∧ g ∉ Ss.flatten ∧ Blk w g t D,
  fun c _ v w w' h ⟨g, hv, hg, hb⟩ => ⟨g, hv, hg, h.blk hb fun hm => hg (by
    rcases Nat.lt_or_ge c Ss.length with hl | hl
    · rw [List.getD_eq_getElem?_getD, List.getElem?_eq_getElem hl] at hm
      exact List.mem_flatten.2 ⟨_, List.getElem_mem hl, hm⟩
    · rw [List.getD_eq_getElem?_getD, List.getElem?_eq_none hl] at hm
      simp at hm)⟩⟩
/-- what a block of class d holds -/
def BFact.blk {Ss : List (List Nat)} (d g : Nat) (t : TypeId) (D : Array Value) (h : ∀ c, c ≠ d → g ∉ Ss.getD c []) : BFact Ss := ⟨[d], fun _ w => Blk w g t D,
  fun c hc v w w' hb hB => hb.blk hB (h c fun e => by subst e; simp at hc)⟩
def bspec {Ss : List (List Nat)} (p : List Nat × BFact Ss) : PSpec := ⟨p.1, p.2.bad, fun _ v w => p.2.F v w⟩
def BW (Ss : List (List Nat)) (C : List Nat) : World → World → Prop := But (C.flatMap fun c => Ss.getD c [])
theorem BW.in_ {Ss : List (List Nat)} {C : List Nat} {w w' : World} (h : BW Ss C w w') (cs : List Nat) (h0 : Ss.getD 0 [] = []) (hC : C.all (fun c => c == 0 || cs.contains c) = true) : But (cs.flatMap fun c => Ss.getD c []) w w' := by
  refine But.mono h fun k hk => ?_
  obtain ⟨c, hc, hk⟩ := List.mem_flatMap.1 hk
  have := List.all_eq_true.1 hC c hc
  simp only [Bool.or_eq_true, beq_iff_eq, List.contains_iff_mem] at this
  rcases this with rfl | h2
  · rw [h0] at hk; cases hk
  · exact List.mem_flatMap.2 ⟨c, h2, hk⟩
theorem wp_region_b {P : Program} {id : Nat} {l : List Oper} {Q : Exit → Act → World → Prop} {a0 : Act} {w : World} (Ss : List (List Nat)) (cls : List Nat) (Fs : List (List Nat × BFact Ss)) (fin : List Nat)
    (hm : P.follows .mixedOrders = true)
    (hok : (okP l.toArray cls (Fs.map (fun p => p.1)) (Fs.map (fun p => p.2.bad)) fin (Region.before l.toArray) && fin.all (fun i => decide (i < l.toArray.size)) && (List.range l.toArray.size).all (fun i => decide ((Region.before l.toArray).getD i 0 < 2 ^ l.toArray.size))) = true)
    (hgo : ∀ us, R3.PGo P l.toArray (fun c => But (Ss.getD c [])) (BW Ss) (Region.before l.toArray) cls (Fs.map bspec) w.drew us l 0 a0)
    (hfin : ∀ us w', BW Ss (R3.allC l.toArray.size cls) w.drew w' → PHold (Fs.map bspec) us w' fin → Q .normal (lexL us l 0 a0) w') : (Code.region id l.toArray true).wp P Q a0 w := by
  refine R3.wp_region_p (fun c => But (Ss.getD c [])) (BW Ss) cls (Fs.map bspec) fin (Region.before l.toArray) hm (by simpa [List.map_map, Function.comp_def, bspec] using hok) (fun _ a => But.refl _ a) (fun _ _ _ _ h k => But.trans h k)
    (fun C c a b hc h => But.mono h fun t ht => List.mem_flatMap.2 ⟨c, hc, ht⟩) (fun _ a => But.refl _ a) ?_ ?_ hgo (fun us w' h1 h2 => by rw [lexAt_lexL]; exact hfin us w' h1 h2)
  · intro s hs c hc us v w w' he hF
    obtain ⟨p, hp, rfl⟩ := List.mem_map.1 hs
    exact p.2.st c hc v w w' he hF
  · intro s hs us us' h v w hF
    obtain ⟨p, hp, rfl⟩ := List.mem_map.1 hs
    exact hF
theorem pgo_pure {P : Program} {ops : Array Oper} {Ss : List (List Nat)} {W : List Nat → World → World → Prop} {b : Array Nat} {cls : List Nat} {Fs : List PSpec} {w0 : World} {us : Nat → Value} {o : Oper} {rest : List Oper} {i : Nat} {a : Act} (s : PSpec)
    (hg : o.guard = none) (hs : Fs[i]? = some s)
    (h : ∀ (w : World), W (R3.ahead ops.size cls b i) w0 w → PHold Fs us w s.uses → ∃ v, (execOp a.eval o).run P w = .ok (.value v) w ∧ s.F us v w)
    (hr : R3.PGo P ops (fun c => But (Ss.getD c [])) W b cls Fs w0 us rest (i + 1) (a.put o.dst (us i))) : R3.PGo P ops (fun c => But (Ss.getD c [])) W b cls Fs w0 us (o :: rest) i a :=
  R3.pgo_val s hg hs (fun w hw hu => by
    obtain ⟨v, h1, h2⟩ := h w hw hu
    exact ⟨v, w, h1, But.refl _ _, h2⟩) hr
end R5
/-- a call of a Go function, as an operation of a region -/
theorem wpo_call {P : Program} {o : Oper} {a : Act} {K : Act → World → Prop} {Q : Exit → Act → World → Prop} {w : World} {f : FuncId} {args : Array Value} (h : (execOp a.eval o).run P w = .ok (.enter f args) w)
    (hc : Calls P f args w fun e w' => ∃ v, e = .returned v ∧ K (a.put o.dst v) w') : o.wp P a w K Q := by
  unfold Oper.wp
  rw [h]
  refine Calls.mono hc (fun e w' ⟨v, hv, hk⟩ => ?_)
  subst hv
  exact hk
end Go.Proofs.YtnjikhhegebkiaaDoor
