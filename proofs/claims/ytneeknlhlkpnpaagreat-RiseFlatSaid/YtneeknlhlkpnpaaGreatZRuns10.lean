import Derived.Test.YtneeknlhlkpnpaaGreatZRRf10
/-
 arborref10.Runs: what it computes. Written by an AI agent.
-/
namespace Go.Proofs.YtneeknlhlkpnpaaGreat
open Go.RowKit
def Runs10Post (n : Int) (es : List (Int × Int)) (ord : List Int) (outs : List (List Int)) (w : World) (e : Ending) (w' : World) : Prop :=
 ∃ b, e = .returned (.bool b) ∧ Below w.heap.size w w' ∧ (b = true ↔ GoodP n es ∧ (runO n.toNat es ord outs).isSome = true)
set_option maxRecDepth 20000 in
set_option maxHeartbeats 2000000 in
theorem runs10_any (n : Int) (A O U : Option Addr) (cap co cu : Nat) (es : List (Int × Int)) (ord : List Int) (outs : List (List Int)) (w : World) (hes : Cells w w.heap.size A (edgeCells es)) (hO : Cells w w.heap.size O (intCells ord)) (hU : RowsAt w w.heap.size U outs) (hl : es.length ≤ 500) (hol : ∀ l ∈ outs, l.length ≤ 1000) (hord : ord.length ≤ 1000) :
  Calls Tryz.prog 20 #[.agg #[.int .i64 n, .slice A es.length cap], .agg #[.slice O ord.length co, .slice U outs.length cu]] w (Runs10Post n es ord outs w) := by
 obtain ⟨wb, hwb⟩ : ∃ wb, wb = w.alloc (.cells #[.int .i64 n, .slice A es.length cap] 24) := ⟨_, rfl⟩
 have hb0 : Below w.heap.size w wb := by rw [hwb]; exact (Below.refl _ _).alloc (Nat.le_refl _) _
 have hz0 : wb.heap.size = w.heap.size + 1 := by rw [hwb]; simp
 have hGB : Blk wb w.heap.size 24 #[.int .i64 n, .slice A es.length cap] := by rw [hwb]; exact Blk.new _ _ _
 have S1 := Lib.hid (PlanS.start (w := wb) co cu ((hO.below hb0).more hb0.size) ((hU.below hb0).more hb0.size))
 have HES0 := Lib.hid ((hes.below hb0).more hb0.size)
 have HGB0 := Lib.hid hGB
 have HB0 := Lib.hid hb0
 have HOL := Lib.hid hol
 clear hes hO hU hGB hb0 hol
 go_enter Tryz.func20, Tryz.ntmps20
 go_upto_region 1 with fail
 rw [← hwb]
 obtain ⟨gG, hgG⟩ : ∃ g, g = w.heap.size := ⟨_, rfl⟩
 obtain ⟨gP, hgP⟩ : ∃ g, g = wb.heap.size := ⟨_, rfl⟩
 rw [← hgP] at S1
 rw [← hgG] at HGB0
 have hb1 := S1.out.bel
 have HGB1 := Lib.hid (HGB0.out.below hb1 HGB0.out.lt)
 have HES1 := Lib.hid ((HES0.out.below hb1).more hb1.size)
 try rw [show w.heap.size + 1 = gP by omega]
 try rw [← hgP]
 rw [← hgG]
 obtain ⟨w1, hw1⟩ : ∃ w1, w1 = wb.alloc (.cells #[.slice O ord.length co, .slice U outs.length cu] 28) := ⟨_, rfl⟩
 rw [← hw1] at S1 HGB1 HES1 hb1 ⊢
 have HB1 := Lib.hid (HB0.out.trans (hb1.mono HB0.out.size))
 have g0 := HGB1.out.cell 0
 have g1 := HGB1.out.cell 1
 have p0 := S1.out.p0
 have p1 := S1.out.p1
 simp only [List.getElem?_toArray, List.getElem?_cons_zero, List.getElem?_cons_succ] at g0 g1
 clear hw1 hwb hgG hgP hz0 hb1
 go_wp2_with fail
 refine (rfRun_any n A O U cap co cu es ord outs w1 HES1.out S1.out.o S1.out.u hl HOL.out hord).mono ?_
 rintro e w2 ⟨hb2, hc⟩
 have HB2 := Lib.hid (HB1.out.trans (hb2.mono HB1.out.size))
 clear hb2
 rcases hc with ⟨en, V, R, h1, h2, _, rfl, _⟩ | ⟨hno, c, a, hc, rfl⟩
 ·have HR := Lib.hid (And.intro h1 (show (runO n.toNat es ord outs).isSome = true by rw [h2]; rfl))
  clear h1 h2
  go_wp2_with fail
  go_ret
  exact ⟨true, rfl, HB2.out, fun _ => HR.out, fun _ => rfl⟩
 ·have HN := Lib.hid hno
  have hc' : (c == 0) = false := by simpa using hc
  clear hno
  go_wp2_with fail
  go_ret
  exact ⟨false, rfl, HB2.out, (fun h => by cases h), fun h => absurd h HN.out⟩
end Go.Proofs.YtneeknlhlkpnpaaGreat
