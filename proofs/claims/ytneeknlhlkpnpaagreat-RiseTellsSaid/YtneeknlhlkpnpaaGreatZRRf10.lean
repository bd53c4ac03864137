import Derived.Test.YtneeknlhlkpnpaaGreatZRPl
import Derived.Test.YtneeknlhlkpnpaaGreatZRPlain
import Derived.Test.YtneeknlhlkpnpaaGreatZVw
import Derived.Test.YtneeknlhlkpnpaaGreatZChks
import Derived.Test.YtneeknlhlkpnpaaGreatZRRf9
/-
 arborlaw10.Great: a graph, and a plan, that are not looked at. Written by an AI agent.
-/
namespace Go.Proofs.YtneeknlhlkpnpaaGreat
open Go.RowKit
def Great10Post (es : List (Int × Int)) (ord : List Int) (outs : List (List Int)) (w : World) (e : Ending) (w' : World) : Prop := ∃ b, e = .returned (.bool b) ∧ Below w.heap.size w w' ∧ (b = false → es.length ≤ 200 ∧ ord.length ≤ 100 ∧ outs.length ≤ 100 ∧ ∀ l ∈ outs, l.length ≤ 200)
set_option maxRecDepth 20000 in
set_option maxHeartbeats 2000000 in
theorem great10_any (n : Int) (A O U : Option Addr) (cap co cu : Nat) (es : List (Int × Int)) (ord : List Int) (outs : List (List Int)) (w : World) (hU : RowsAt w w.heap.size U outs) :
  Calls Tryz.prog 8 #[.agg #[.int .i64 n, .slice A es.length cap], .agg #[.slice O ord.length co, .slice U outs.length cu]] w (Great10Post es ord outs w) := by
 have hbw := ((Below.refl w.heap.size w).alloc (Nat.le_refl _) (.cells #[.int .i64 n, .slice A es.length cap] 24)).alloc (by simp) (.cells #[.slice O ord.length co, .slice U outs.length cu] 28)
 go_enter Tryz.func8, Tryz.ntmps8
 by_cases h1 : 200 < es.length
 ·have h1' : (200 : Int) < es.length := by omega
  go_wp2_with fail
  go_ret
  exact ⟨true, rfl, hbw, fun h => by cases h⟩
 have h1' : ¬ (200 : Int) < es.length := by omega
 by_cases h2 : 100 < ord.length
 ·have h2' : (100 : Int) < ord.length := by omega
  go_wp2_with fail
  go_ret
  exact ⟨true, rfl, hbw, fun h => by cases h⟩
 have h2' : ¬ (100 : Int) < ord.length := by omega
 by_cases h3 : 100 < outs.length
 ·have h3' : (100 : Int) < outs.length := by omega
  go_wp2_with fail
  go_ret
  exact ⟨true, rfl, hbw, fun h => by cases h⟩
 have h3' : ¬ (100 : Int) < outs.length := by omega
 have hrs1 := hU.below hbw
 go_wp2_with fail
 generalize (w.alloc (.cells #[.int .i64 n, .slice A es.length cap] 24)).alloc (.cells #[.slice O ord.length co, .slice U outs.length cu] 28) = w1 at *
 go_loopg [26] outs.length (fun k s26 wr => ∃ i : Nat, s26 = .int .i64 i ∧ i ≤ outs.length ∧ k = outs.length - i ∧ wr = w1 ∧ ∀ j (hj : j < outs.length), j < i → outs[j].length ≤ 200)
 case atStart => exact ⟨0, rfl, Nat.zero_le _, rfl, rfl, fun j _ hj => absurd hj (by omega)⟩
 case round =>
  obtain ⟨i, rfl, hi, hk, hwr, hs⟩ := hrel
  have Hk := Lib.hid hk; clear hk
  have Hs := Lib.hid hs; clear hs
  by_cases hlt : i < outs.length
  ·have hlt' : (i : Int) < outs.length := by omega
   obtain ⟨b, off, rfl, hbb, hc⟩ := hrs1 (by omega)
   obtain ⟨Ai, ci, e0, _⟩ := hc i hlt
   have e0 : wr.cell? ⟨b, off + i, none⟩ = some (.slice Ai outs[i].length ci) := by rw [hwr]; exact e0
   have HB := Lib.hid (show Below w.heap.size w wr by rw [hwr]; exact hbw)
   have HH := Lib.hid (fun (h : outs[i].length ≤ 200) => (fun j (hj : j < outs.length) (hji : j < i + 1) => (by
    by_cases h0 : j = i
    ·subst h0; exact h
    ·exact Hs.out j hj (by omega) : outs[j].length ≤ 200)))
   have Hwr := Lib.hid hwr
   clear hc hwr
   generalize outs[i] = l at *
   by_cases hl : 200 < l.length
   ·go_wp2_with fail
    go_ret
    exact ⟨true, rfl, HB.out, fun h => by cases h⟩
   ·have H2 := Lib.hid (HH.out (by omega))
    go_wp2_with fail
    go_roundg (outs.length - (i + 1))
    case measure => rw [Hk.out]; omega
    case rel => exact ⟨i + 1, by go_num, by omega, rfl, Hwr.out, H2.out⟩
  ·have HB := Lib.hid (show Below w.heap.size w wr by rw [hwr]; exact hbw)
   have HR := Lib.hid (show ∀ l ∈ outs, l.length ≤ 200 from fun l hl => by
    obtain ⟨j, hj, rfl⟩ := List.mem_iff_getElem.1 hl
    exact Hs.out j hj (by omega))
   clear hwr
   go_wp2_with fail
   go_ret
   exact ⟨false, rfl, HB.out, fun _ => ⟨by omega, by omega, by omega, HR.out⟩⟩
end Go.Proofs.YtneeknlhlkpnpaaGreat
namespace Go.Proofs.YtneeknlhlkpnpaaGreat
open Go.RowKit
end Go.Proofs.YtneeknlhlkpnpaaGreat
namespace Go.Proofs.YtneeknlhlkpnpaaGreat
open Go.RowKit
end Go.Proofs.YtneeknlhlkpnpaaGreat
namespace Go.Proofs.YtneeknlhlkpnpaaGreat
open Go.RowKit
theorem sort_eq {l l' : List Int} (h : l.Perm l') (hp : l'.Pairwise (· ≤ ·)) : l.mergeSort leI = l' := by
 have h1 := List.pairwise_mergeSort (le := leI) (fun a b c h k => by unfold leI at *; simp at *; omega) (fun a b => by unfold leI; simp; omega) l
 refine List.Perm.eq_of_pairwise (le := (· ≤ ·)) (fun a b _ _ h k => Int.le_antisymm h k) (h1.imp fun h => by unfold leI at h; simpa using h) hp ((List.mergeSort_perm l leI).trans h)
theorem upI_sorted (n : Nat) : (upI n).Pairwise (· ≤ ·) := by
 unfold upI
 rw [List.pairwise_map]
 exact List.pairwise_lt_range.imp fun h => by omega
theorem endsF_sorted (es : List (Int × Int)) (f : Int × Int → Int) (x : Int) : ∀ k, (endsF es f x k).Pairwise (· ≤ ·)
 | 0 => List.Pairwise.nil
 | k + 1 => by
  show (endsF es f x k ++ _).Pairwise (· ≤ ·)
  rw [List.pairwise_append]
  refine ⟨endsF_sorted es f x k, by split <;> simp, fun a ha b hb => ?_⟩
  obtain ⟨i, rfl, h2, _⟩ := mem_endsF.1 ha
  split at hb
  ·rw [List.mem_singleton.1 hb]; omega
  ·cases hb
end Go.Proofs.YtneeknlhlkpnpaaGreat
