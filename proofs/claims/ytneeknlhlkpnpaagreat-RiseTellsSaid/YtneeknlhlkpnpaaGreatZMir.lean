import Derived.Test.YtneeknlhlkpnpaaGreatZEul
import Derived.Test.YtneeknlhlkpnpaaGreatZReg
/-
 Plain law: two neighbours change places: faces differ by at most two. Written by an AI agent.
-/
namespace Go.Proofs.YtneeknlhlkpnpaaGreat
open Go.RowKit
section
variable {n : Int} {es : List (Int × Int)} {rs : List (List Int)} {x i k : Nat}
end
end Go.Proofs.YtneeknlhlkpnpaaGreat
namespace Go.Proofs.YtneeknlhlkpnpaaGreat
open Go.RowKit
section
variable {N : Nat} {f g α : Nat → Nat}
open Classical in
end
section
variable {n : Int} {es : List (Int × Int)} {rs : List (List Int)}
theorem sameB_of {xs ys : List (List Int)} (hl : xs.length = ys.length) (h : ∀ i (h1 : i < xs.length) (h2 : i < ys.length), turnedB xs[i] ys[i] = true) : sameB xs ys = true := by
 unfold sameB
 rw [decide_eq_true hl, Bool.true_and, List.all_eq_true]
 intro i hi
 have hi := List.mem_range.1 hi
 rw [getD_row hi, getD_row (show i < ys.length by omega)]
 exact h i hi (by omega)
end
end Go.Proofs.YtneeknlhlkpnpaaGreat
namespace Go.Proofs.YtneeknlhlkpnpaaGreat
open Go.RowKit
theorem elemRot : Elem Tryz.prog 31 25 (.slice none 0 0) 1 24 := Elem.mk' Tryz.underlying31 (by kernel_rfl) rfl (by omega)
theorem FacesOwn.rowsC {w : World} {b0 : Nat} {v : Value} {F : List (List Int)} (h : FacesOwn w b0 v F) : ∃ A c, v = .slice A F.length c ∧ RowsC w w.heap.size A F := by
 obtain ⟨sl, h1, h2⟩ := h
 obtain ⟨A, c, rfl⟩ := own_slice h1
 refine ⟨A, c, rfl, fun hn => ?_⟩
 have hsl : sl.length = F.length := by have := h1.1; omega
 obtain ⟨b, off, he, hb, hc⟩ := Cells.of_own h1 (by omega)
 refine ⟨b, off, he, hb, fun i hi => ?_⟩
 obtain ⟨Ai, ci, h3, h4⟩ := h2 i hi
 refine ⟨Ai, ci, hc i _ h3, Cells.of_own h4, ?_⟩
 rcases h4.2 with ⟨h5, h0⟩ | ⟨g, cap, cur, h5, _, _, h6, _⟩
 ·injection h5 with _ h5 h7; omega
 ·injection h5 with _ _ h5; omega
end Go.Proofs.YtneeknlhlkpnpaaGreat
