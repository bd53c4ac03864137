import Derived.Test.YtneeknlhlkpnpaaGreatZReg
import Derived.Test.YtneeknlhlkpnpaaGreatZEul
/-
 A call that nothing guards, in a region that draws its order. Written by an AI agent.
-/
namespace Go.Proofs.YtneeknlhlkpnpaaGreat
open Go.RowKit
theorem pgo_call5 {P : Program} {ops : Array Oper} {Ss : List (List Nat)} {W : List Nat → World → World → Prop} {b : Array Nat} {cls : List Nat} {Fs : List PSpec} {w0 : World} {us : Nat → Value} {o : Oper} {rest : List Oper} {i : Nat} {a : Act} (s : PSpec)
  (hg : o.guard = none) (hs : Fs[i]? = some s) (f : FuncId) (args : Array Value)
  (h : ∀ (w : World), W (R3.ahead ops.size cls b i) w0 w → PHold Fs us w s.uses → (execOp a.eval o).run P w = .ok (.enter f args) w ∧ Calls P f args w fun e w'' => ∃ v, e = .returned v ∧ But (Ss.getD (cls.getD i 0) []) w w'' ∧ s.F us v w'')
  (hr : R3.PGo P ops (fun c => But (Ss.getD c [])) W b cls Fs w0 us rest (i + 1) (a.put o.dst (us i))) : R3.PGo P ops (fun c => But (Ss.getD c [])) W b cls Fs w0 us (o :: rest) i a :=
 R3.pgo_op s hg hs (fun K w hw hu hK => by
  obtain ⟨h1, h2⟩ := h w hw hu
  exact wpo_call h1 (h2.mono fun e w'' ⟨v, he, hb, hF⟩ => ⟨v, he, hK v w'' hb hF⟩)) hr
theorem but_none {w w' : World} {c : Nat} (hb : But (([[]] : List (List Nat)).getD c []) w w') : Below w.heap.size w w' := by
 have hS : ([[]] : List (List Nat)).getD c [] = [] := by cases c <;> rfl
 rw [hS] at hb
 exact hb.below (Nat.le_refl _) (by simp)
def R5.BFact.planF (ord : List Int) (L : List (List Int)) : R5.BFact [[]] := ⟨[], fun v w => ∃ O U co cu, v = .agg #[.slice O ord.length co, .slice U L.length cu] ∧ Cells w w.heap.size O (intCells ord) ∧ RowsC w w.heap.size U L, fun c _ _ _ w' hb ⟨O, U, co, cu, e, h1, h2⟩ => ⟨O, U, co, cu, e, (h1.below (but_none hb)).more (but_none hb).size, (h2.below (but_none hb)).more (but_none hb).size⟩⟩
def R5.BFact.turnF (n : Nat) (L : List (List Int)) : R5.BFact [[]] := ⟨[], fun v w => ∃ C c, v = .tuple #[.slice C n c, .int .i64 0] ∧ RowsC w w.heap.size C L, fun c _ _ _ w' hb ⟨C, d, e, h1⟩ => ⟨C, d, e, (h1.below (but_none hb)).more (but_none hb).size⟩⟩
def R5.BFact.rowsF (n : Nat) (L : List (List Int)) : R5.BFact [[]] := ⟨[], fun v w => ∃ C c, v = .slice C n c ∧ RowsC w w.heap.size C L, fun c _ _ _ w' hb ⟨C, d, e, h1⟩ => ⟨C, d, e, (h1.below (but_none hb)).more (but_none hb).size⟩⟩
end Go.Proofs.YtneeknlhlkpnpaaGreat
