/-
  The reference's Decode: all kinds. Printed by wip/C/rdd.py. Written by an AI agent.
-/
import Derived.Test.YtmlbjcngboegfaaRdD0
import Derived.Test.YtmlbjcngboegfaaRdD1
import Derived.Test.YtmlbjcngboegfaaRdD2
import Derived.Test.YtmlbjcngboegfaaRdD3
import Derived.Test.YtmlbjcngboegfaaRdD4
import Derived.Test.YtmlbjcngboegfaaRdD5
import Derived.Test.YtmlbjcngboegfaaRdD6
namespace Go.Proofs.Ytmlbjcngboegfaa
open Go.RowKit

theorem refDecode_any (A : Option Addr) (b : List Int) (c : Nat) (w : World) (h : Cells w w.heap.size A (byteCells b)) (hb : Bytes b) (hl : b.length ≤ 100000000) : Calls Try.prog 15 #[.slice A b.length c] w (RefDecPost b w) := by
  have e : ((rNext (startS b)).1 < 1 ∨ 6 < (rNext (startS b)).1) ∨ (rNext (startS b)).1 = 1 ∨ (rNext (startS b)).1 = 2 ∨ (rNext (startS b)).1 = 3 ∨ (rNext (startS b)).1 = 4 ∨ (rNext (startS b)).1 = 5 ∨ (rNext (startS b)).1 = 6 := by omega
  rcases e with e | e | e | e | e | e | e
  · exact refDec_0 A b c w h hb hl _ e rfl
  · exact refDec_1 A b c w h hb hl e
  · exact refDec_2 A b c w h hb hl e
  · exact refDec_3 A b c w h hb hl e
  · exact refDec_4 A b c w h hb hl e
  · exact refDec_5 A b c w h hb hl e
  · exact refDec_6 A b c w h hb hl e
end Go.Proofs.Ytmlbjcngboegfaa
