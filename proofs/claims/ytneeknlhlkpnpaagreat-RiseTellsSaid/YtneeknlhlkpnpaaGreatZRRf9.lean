import Derived.Test.YtneeknlhlkpnpaaGreatZRPlain
import Derived.Test.YtneeknlhlkpnpaaGreatZReg
import Derived.Test.YtneeknlhlkpnpaaGreatZPtM
/-
 Plain law: when a vertex can be placed, as the reference asks it. Written by an AI agent.
-/
namespace Go.Proofs.YtneeknlhlkpnpaaGreat
open Go.RowKit
end Go.Proofs.YtneeknlhlkpnpaaGreat
namespace Go.Proofs.YtneeknlhlkpnpaaGreat
open Go.RowKit
structure Far (B g : Nat) (C : List Nat) (w w' : World) : Prop where
 os : w'.os = w.os
 tape : w'.tape = w.tape
 output : w'.output = w.output
 size : w.heap.size ≤ w'.heap.size
 low : ∀ k, k < w.heap.size → k < B → (k ≠ g ∨ 2 ∉ C) → w'.heap[k]? = w.heap[k]?
 high : ∀ k, k < w.heap.size → B ≤ k → 1 ∉ C → w'.heap[k]? = w.heap[k]?
section
variable {B g : Nat} {C : List Nat} {w w' w'' : World}
theorem Far.refl (B g : Nat) (C : List Nat) (w : World) : Far B g C w w := ⟨rfl, rfl, rfl, Nat.le_refl _, fun _ _ _ _ => rfl, fun _ _ _ _ => rfl⟩
theorem Far.trans (h : Far B g C w w') (k : Far B g C w' w'') : Far B g C w w'' :=
 ⟨k.os.trans h.os, k.tape.trans h.tape, k.output.trans h.output, Nat.le_trans h.size k.size, fun i hi hB hg => (k.low i (Nat.lt_of_lt_of_le hi h.size) hB hg).trans (h.low i hi hB hg), fun i hi hB hg => (k.high i (Nat.lt_of_lt_of_le hi h.size) hB hg).trans (h.high i hi hB hg)⟩
theorem Far.mono {C' : List Nat} (h : Far B g C w w') (hs : ∀ k ∈ C, k ∈ C') : Far B g C' w w' :=
 ⟨h.os, h.tape, h.output, h.size, fun i hi hB hg => h.low i hi hB (hg.imp id fun h2 hm => h2 (hs 2 hm)), fun i hi hB hg => h.high i hi hB fun hm => hg (hs 1 hm)⟩
theorem Far.but (h : Far B g C w w') (h1 : 1 ∉ C) : But [g] w w' := ⟨h.os, h.tape, h.output, h.size, fun k hk hn => by
 simp only [List.mem_singleton] at hn
 rcases Nat.lt_or_ge k B with hB | hB
 ·exact h.low k hk hB (.inl hn)
 ·exact h.high k hk hB h1⟩
theorem Far.below (h : Far B g C w w') (h1 : 1 ∉ C) (h2 : 2 ∉ C) : Below w.heap.size w w' := ⟨h.os, h.tape, h.output, h.size, fun k hk => by
 rcases Nat.lt_or_ge k B with hB | hB
 ·exact h.low k hk hB (.inr h2)
 ·exact h.high k hk hB h1⟩
theorem Far.belowB (h : Far B g C w w') (h2 : 2 ∉ C) (hB : B ≤ w.heap.size) : Below B w w' := ⟨h.os, h.tape, h.output, h.size, fun k hk => h.low k (by omega) hk (.inr h2)⟩
theorem Far.of_below0 (h : Below w.heap.size w w') : Far B g C w w' := ⟨h.os, h.tape, h.output, h.size, fun k hk _ _ => h.block k hk, fun k hk _ _ => h.block k hk⟩
theorem Far.of_belowB (h : Below B w w') (h1 : 1 ∈ C) : Far B g C w w' := ⟨h.os, h.tape, h.output, h.size, fun k _ hB _ => h.block k hB, fun _ _ _ hn => absurd h1 hn⟩
end
namespace R6
structure BFact (B g : Nat) where
 bad : List Nat
 F : Value → World → Prop
 st : ∀ c, bad.contains c = false → ∀ v w w', Far B g [c] w w' → F v w → F v w'
def BFact.val {B g : Nat} (u : Value) : BFact B g := ⟨[], fun v _ => v = u, fun _ _ _ _ _ _ h => h⟩
def BFact.own {B g : Nat} (base : Nat) (t : TypeId) (size n : Nat) (xs : List Value) (hg : g < base) : BFact B g := ⟨[1], fun v w => w.ownsRow base t size v n xs, fun c hc _ _ _ hb h => own_but h (hb.but (by
 intro hm
 have : (1 : Nat) = c := by simpa using hm
 subst this
 simp at hc)) (fun k hk => by simp only [List.mem_singleton] at hk; omega)⟩
def bspec {B g : Nat} (p : List Nat × BFact B g) : PSpec := ⟨p.1, p.2.bad, fun _ v w => p.2.F v w⟩
theorem in_ {B g : Nat} {C : List Nat} {w w' : World} (h : Far B g C w w') (cs : List Nat) (hC : C.all (fun c => c == 0 || cs.contains c) = true) : Far B g cs w w' := by
 refine ⟨h.os, h.tape, h.output, h.size, fun k hk hB hg => h.low k hk hB (hg.imp id fun h2 hm => ?_), fun k hk hB hn => h.high k hk hB fun hm => ?_⟩
 ·have := List.all_eq_true.1 hC 2 hm
  simp at this
  exact h2 this
 ·have := List.all_eq_true.1 hC 1 hm
  simp at this
  exact hn this
theorem wp_region_b {P : Program} {id : Nat} {l : List Oper} {Q : Exit → Act → World → Prop} {a0 : Act} {w : World} (B g : Nat) (cls : List Nat) (Fs : List (List Nat × BFact B g)) (fin : List Nat)
  (hm : P.follows .mixedOrders = true)
  (hok : (okP l.toArray cls (Fs.map (fun p => p.1)) (Fs.map (fun p => p.2.bad)) fin (Region.before l.toArray) && fin.all (fun i => decide (i < l.toArray.size)) && (List.range l.toArray.size).all (fun i => decide ((Region.before l.toArray).getD i 0 < 2 ^ l.toArray.size))) = true)
  (hgo : ∀ us, R3.PGo P l.toArray (fun c => Far B g [c]) (fun C => Far B g C) (Region.before l.toArray) cls (Fs.map bspec) w.drew us l 0 a0)
  (hfin : ∀ us w', Far B g (R3.allC l.toArray.size cls) w.drew w' → PHold (Fs.map bspec) us w' fin → Q .normal (lexL us l 0 a0) w') : (Code.region id l.toArray true).wp P Q a0 w := by
 refine R3.wp_region_p (fun c => Far B g [c]) (fun C => Far B g C) cls (Fs.map bspec) fin (Region.before l.toArray) hm (by simpa [List.map_map, Function.comp_def, bspec] using hok) (fun _ a => Far.refl _ _ _ a) (fun _ _ _ _ h k => Far.trans h k)
  (fun C c a b hc h => Far.mono h fun t ht => by rw [List.mem_singleton.1 ht]; exact hc) (fun _ a => Far.refl _ _ _ a) ?_ ?_ hgo (fun us w' h1 h2 => by rw [lexAt_lexL]; exact hfin us w' h1 h2)
 ·intro s hs c hc us v w w' he hF
  obtain ⟨p, hp, rfl⟩ := List.mem_map.1 hs
  exact p.2.st c hc v w w' he hF
 ·intro s hs us us' h v w hF
  obtain ⟨p, hp, rfl⟩ := List.mem_map.1 hs
  exact hF
theorem pgo_pure {P : Program} {ops : Array Oper} {B g : Nat} {W : List Nat → World → World → Prop} {b : Array Nat} {cls : List Nat} {Fs : List PSpec} {w0 : World} {us : Nat → Value} {o : Oper} {rest : List Oper} {i : Nat} {a : Act} (s : PSpec)
  (hg : o.guard = none) (hs : Fs[i]? = some s)
  (h : ∀ (w : World), W (R3.ahead ops.size cls b i) w0 w → PHold Fs us w s.uses → ∃ v, (execOp a.eval o).run P w = .ok (.value v) w ∧ s.F us v w)
  (hr : R3.PGo P ops (fun c => Far B g [c]) W b cls Fs w0 us rest (i + 1) (a.put o.dst (us i))) : R3.PGo P ops (fun c => Far B g [c]) W b cls Fs w0 us (o :: rest) i a :=
 R3.pgo_val s hg hs (fun w hw hu => by
  obtain ⟨v, h1, h2⟩ := h w hw hu
  exact ⟨v, w, h1, Far.refl _ _ _ _, h2⟩) hr
end R6
end Go.Proofs.YtneeknlhlkpnpaaGreat
