import Derived.Test.YtneeknlhlkpnpaaGreatZFrm
/-
 From a contract to the row: lists of numbers, and plans, that came in. Written by an AI agent.
-/
namespace Go.Proofs.YtneeknlhlkpnpaaGreat
open Go.ChangeShapes Go.WideShapes Go.ChangeAt Go.RowKit Go.Deep Go.Joins
section
variable {H : Type} {enc : TypeId × Value → H} {W : World}
set_option maxRecDepth 100000 in
theorem open_list {v : Value} {d : DataW H} {p : List MemPlace} {b0 : Nat} (hv : Value.okWide Tryz.prog W .any b0 25 v) (h : DataW.Trod enc Tryz.prog W 0 (fun _ => true) true 25 v d p) :
  ∃ (A : Option Addr) (cap : Nat) (l : List Int), v = .slice A l.length cap ∧ Cells W W.heap.size A (intCells l) := by
 obtain ⟨fuel, hf⟩ := h
 obtain ⟨a0, n0, c0, rfl⟩ := okWide_slice Tryz.underlying25 hv
 rcases open_ints Tryz.underlying25 Tryz.underlying3 (by kernel_rfl) hf with ⟨e1, _⟩ | ⟨a, len, cap, zs, e1, _, hl, _, hz, hx, hc, _⟩
 ·simp [Value.cells] at e1
  obtain ⟨rfl, rfl, rfl⟩ := e1
  exact ⟨none, 0, [], rfl, Cells.nil⟩
 ·simp [Value.cells] at e1
  obtain ⟨rfl, rfl, rfl⟩ := e1
  simp only [if_true] at hz
  have hzl : (zs.take n0).length = n0 := by simp; omega
  refine ⟨some a, c0, zs.take n0, by rw [hzl], fun hp => ?_⟩
  have hp : 0 < n0 := by simp [intCells] at hp; omega
  obtain ⟨b, off, spot⟩ := a
  have h0 := hc 0 (by omega)
  have hspot : spot = none := by simpa [Addr.add] using World.cell?_spot h0
  subst hspot
  have hadd : ∀ k, (⟨b, off, none⟩ : Addr).add k = ⟨b, off + k, none⟩ := fun k => by unfold Addr.add; split <;> simp_all
  rw [hadd] at h0
  refine ⟨b, off, rfl, World.block_lt_of_cell? W _ h0, fun j u hj => ?_⟩
  simp only [intCells, List.getElem?_map, Option.map_eq_some_iff] at hj
  obtain ⟨z, hz', rfl⟩ := hj
  rw [List.getElem?_take] at hz'
  split at hz'
  ·have := hc j (by omega)
   rw [hadd] at this
   rw [this, List.getD_eq_getElem?_getD, hz']
   rfl
  ·cases hz'
set_option maxRecDepth 100000 in
theorem list_trod {fuel : Nat} {c : Value} {y : DataW H × List MemPlace} (hf : DataW.trod enc Tryz.prog W 0 (fun _ => true) true fuel 25 [c] = some y) :
  ∃ (A : Option Addr) (cap : Nat) (l : List Int), c = .slice A l.length cap ∧ Cells W W.heap.size A (intCells l) := by
 rcases open_ints Tryz.underlying25 Tryz.underlying3 (by kernel_rfl) hf with ⟨e1, _⟩ | ⟨a, len, cap, zs, e1, _, hl, _, hz, hx, hc, _⟩
 ·simp at e1
  subst e1
  exact ⟨none, 0, [], rfl, Cells.nil⟩
 ·simp at e1
  subst e1
  simp only [if_true] at hz
  have hzl : (zs.take len).length = len := by simp; omega
  refine ⟨some a, cap, zs.take len, by rw [hzl], fun hp => ?_⟩
  have hp : 0 < len := by simp [intCells] at hp; omega
  obtain ⟨b, off, spot⟩ := a
  have h0 := hc 0 (by omega)
  have hspot : spot = none := by simpa [Addr.add] using World.cell?_spot h0
  subst hspot
  have hadd : ∀ k, (⟨b, off, none⟩ : Addr).add k = ⟨b, off + k, none⟩ := fun k => by unfold Addr.add; split <;> simp_all
  rw [hadd] at h0
  refine ⟨b, off, rfl, World.block_lt_of_cell? W _ h0, fun j u hj => ?_⟩
  simp only [intCells, List.getElem?_map, Option.map_eq_some_iff] at hj
  obtain ⟨z, hz', rfl⟩ := hj
  rw [List.getElem?_take] at hz'
  split at hz'
  ·have := hc j (by omega)
   rw [hadd] at this
   rw [this, List.getD_eq_getElem?_getD, hz']
   rfl
  ·cases hz'
set_option maxRecDepth 100000 in
theorem rows_trod {fuel : Nat} {c : Value} {y : DataW H × List MemPlace} (hf : DataW.trod enc Tryz.prog W 0 (fun _ => true) true fuel 26 [c] = some y) :
  ∃ (A : Option Addr) (cap : Nat) (rs : List (List Int)), c = .slice A rs.length cap ∧ RowsC W W.heap.size A rs := by
 rcases open_int_rows Tryz.underlying26 Tryz.underlying25 Tryz.underlying3 (by kernel_rfl) (by kernel_rfl) hf with ⟨e1, _⟩ | ⟨a, len, cap, A, L, C, Z, e1, _, hl, hm, _, hr⟩
 ·simp at e1
  subst e1
  exact ⟨none, 0, [], rfl, fun h => absurd h (by simp)⟩
 ·simp at e1
  subst e1
  have hlen : ((List.range len).map fun r => (Z r).take (L r)).length = len := by simp
  refine ⟨some a, cap, (List.range len).map fun r => (Z r).take (L r), by rw [hlen], fun hp => ?_⟩
  rw [hlen] at hp
  obtain ⟨b, off, rfl, hb, hadd⟩ := addr_flat (hr 0 (by omega)).1
  refine ⟨b, off, rfl, hb, fun i hi => ?_⟩
  rw [hlen] at hi
  obtain ⟨h1, h2, h3, h4, _, h6, h7⟩ := hr i (by omega)
  rw [hadd] at h1
  have hil : (((List.range len).map fun r => (Z r).take (L r))[i]'(by rw [hlen]; exact hi)) = (Z i).take (L i) := by simp
  have hl2 : ((Z i).take (L i)).length = L i := by simp; omega
  refine ⟨A i, C i, by rw [hil, hl2]; exact h1, ?_, by rw [hil, hl2]; exact h2⟩
  rw [hil]
  intro hp2
  have hp2 : 0 < L i := by simp [intCells] at hp2; omega
  cases hA : A i with
  | none => rw [h6 hA] at h2; omega
  | some a' =>
   obtain ⟨_, hc⟩ := h7 a' hA
   obtain ⟨b', off', rfl, hb', hadd'⟩ := addr_flat (hc 0 (by omega))
   refine ⟨b', off', rfl, hb', fun j u hj => ?_⟩
   simp only [intCells, List.getElem?_map, Option.map_eq_some_iff] at hj
   obtain ⟨z, hz', rfl⟩ := hj
   rw [List.getElem?_take] at hz'
   split at hz'
   ·have := hc j (by omega)
    rw [hadd'] at this
    rw [this, List.getD_eq_getElem?_getD, hz']
    rfl
   ·cases hz'
set_option maxRecDepth 100000 in
theorem open_plan {v : Value} {d : DataW H} {p : List MemPlace} {b0 : Nat} (hv : Value.okWide Tryz.prog W .any b0 28 v) (h : DataW.Trod enc Tryz.prog W 0 (fun _ => true) true 28 v d p) :
  ∃ (O U : Option Addr) (co cu : Nat) (ord : List Int) (outs : List (List Int)), v = .agg #[.slice O ord.length co, .slice U outs.length cu] ∧ Cells W W.heap.size O (intCells ord) ∧ RowsC W W.heap.size U outs := by
 obtain ⟨c0, c1, y0, y1, m, rfl, rfl, rfl, hy0, hy1⟩ := open_agg2 Tryz.underlying28 (by kernel_rfl) (by kernel_rfl) hv h
 obtain ⟨O, co, ord, rfl, hO⟩ := list_trod hy0
 obtain ⟨U, cu, outs, rfl, hU⟩ := rows_trod hy1
 exact ⟨O, U, co, cu, ord, outs, rfl, hO, hU⟩
end
end Go.Proofs.YtneeknlhlkpnpaaGreat
