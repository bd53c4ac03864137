import Derived.Test.YtneeknlhlkpnpaaGreatRows
import Derived.Test.YtneeknlhlkpnpaaGreatZReg
import Derived.ProofKit
import Derived.OpenShut
import Derived.Deep.Slices
import Derived.Deep.Fields
import Derived.ChangeSame
import Derived.Lib.SmallJoins
import Derived.Test.YtneeknlhlkpnpaaGreatZEul
import Derived.Deep.Matrix
/-
 From a contract to the row: arguments opened to lists, the law's post. The opening of slices of structs is after the kit's page on structs. Written by an AI agent.
-/
namespace Go.Proofs.YtneeknlhlkpnpaaGreat
open Go.ChangeShapes Go.WideShapes Go.ChangeAt Go.RowKit Go.Deep Go.Joins
theorem own : ownKnob Tryz.prog.godebug = none := by kernel_rfl
theorem laidOut : laidOutB Tryz.prog = true := by kernel_rfl
section
variable {H : Type} {enc : TypeId × Value → H} {P : Program} {w : World} {base : Nat} {spare : Nat → Bool} {held : Bool}
theorem open_slice_fields {t e : TypeId} {fs : Array Field} {fuel : Nat} {cs : List Value} {x : DataW H × List MemPlace} (ht : P.underlying t = some (.slice e)) (he : P.underlying e = some (.struct fs))
  (hone : oneCellFields P fs = true) (hC : P.cellsOf e = fs.size) (h : DataW.trod enc P w base spare held fuel t cs = some x) :
  (cs = [.slice none 0 0] ∧ x = (.nil, [])) ∨
  ∃ (a : Addr) (len cap m : Nat) (D : Nat → DataW H) (Pl : Nat → List MemPlace), cs = [.slice (some a) len cap] ∧ base ≤ a.block ∧ len ≤ cap ∧ cap ≤ maxLen ∧ m = (if spare a.block then cap else len) ∧
   x = (.slice ((List.range len).map D) ((List.range (m - len)).map fun j => D (len + j)), MemPlace.row a (m * fs.size) ++ (List.range m).flatMap Pl) ∧
   ∀ i, i < m → ∃ (ys : List (DataW H × List MemPlace)) (n : Nat), D i = .agg (ys.map (·.1)) ∧ Pl i = ys.flatMap (·.2) ∧ ys.length = fs.size ∧
    ∀ (j : Nat) (f : Field), fs[j]? = some f → ∃ (v : Value) (y : DataW H × List MemPlace), w.cell? (a.add (i * fs.size + j)) = some v ∧ ys[j]? = some y ∧ DataW.trod enc P w base spare held n f.type [v] = some y := by
 rcases open_slice ht h with h0 | ⟨a, len, cap, m, n, D, Pl, hcs, hb, hl, hm, hmm, hx, hi⟩
 ·exact .inl h0
 ·refine .inr ⟨a, len, cap, m, D, Pl, hcs, hb, hl, hm, hmm, by rw [hC] at hx; exact hx, fun i him => ?_⟩
  obtain ⟨cs', hc, ht'⟩ := hi i him
  rw [hC] at hc
  obtain ⟨ys, n', hn', hy, hlen, hyl, hf⟩ := DataW.trod_struct he ht'
  obtain ⟨_, hcl, hat⟩ := World.cells?_some hc
  simp only [Prod.mk.injEq] at hy
  refine ⟨ys, n', hy.1, hy.2, hyl, fun j f hj => ?_⟩
  obtain ⟨ho, hk⟩ := hone_of hone j f hj
  have hjl : j < fs.size := (Array.getElem?_eq_some_iff.1 hj).1
  have hcell := hat j hjl
  have hv : cs'[j]? = some (cs'[j]'(by omega)) := List.getElem?_eq_getElem (by omega)
  have h1 := hf j f hj
  rw [ho, hk] at h1
  have hone' : (cs'.drop j).take 1 = [cs'[j]'(by omega)] := by
   rw [List.drop_eq_getElem_cons (by omega)]
   rfl
  rw [hone'] at h1
  have hys : ys[j]? = some (ys[j]'(by omega)) := List.getElem?_eq_getElem (by omega)
  refine ⟨_, _, ?_, hys, h1.trans hys⟩
  rw [← Go.Deep.add_add, hcell, hv]
end
section
variable {H : Type} {enc : TypeId × Value → H} {W W' : World}
theorem trodAll_below {P : Program} (hl : laidOutB P = true) (hb : Below W.heap.size W W') : ∀ {ts : List TypeId} {vs : List Value} {ds : List (DataW H)} {ps : List MemPlace}, (∀ t ∈ ts, P.readableRec t = true ∧ t < P.types.size) →
  DataW.TrodAll enc P W 0 (fun _ => true) true ts vs ds ps → (∀ x ∈ ps, x.block < W.heap.size) → DataW.TrodAll enc P W' 0 (fun b => decide (b < W.heap.size)) true ts vs ds ps
 | [], vs, ds, ps, _, h, _ => by
  obtain ⟨rfl, rfl, rfl⟩ := trodAll_nil h
  exact trodAll_mk0
 | t :: ts, vs, ds, ps, ht, h, hp => by
  obtain ⟨v, vs', d, ds', p, q, rfl, rfl, rfl, h1, h2⟩ := trodAll_cons h
  obtain ⟨hr, hrow⟩ := ht t (List.mem_cons_self ..)
  exact trodAll_cons_mk (Below.trod hl hr hrow h1 hb fun x hx => hp x (List.mem_append_left _ hx)) (trodAll_below hl hb (fun t' h' => ht t' (List.mem_cons_of_mem _ h')) h2 fun x hx => hp x (List.mem_append_right _ hx))
set_option maxRecDepth 100000 in
theorem law_post {P : Program} {f : Func} {s : ChangeSpec} {args : Array Value} {ds : List (DataW H)} {before : List MemPlace} {T : TypeId} (hl : laidOutB P = true)
  (hts : f.params.toList.all (fun t => P.readableRec t && decide (t < P.types.size)) = true) (hvars : s.vars = [])
  (hW : DataW.Whole enc P f.params.toList s.vars false W args.toList ds [] before) (hfn : s.fn H (ds ++ []) = { results := [.lit (.bool true)], args := ds })
  (hrt : f.resultTypes = #[T]) (hT : P.underlying T = some .bool) (hb : Below W.heap.size W W') : s.post enc P f false true false false W args (.bool true) W' := by
 have hW' := hW
 obtain ⟨p, q, hA, hV, rfl, _, _⟩ := hW
 have hlt : ∀ x ∈ p, x.block < W.heap.size := fun x hx => hW'.lt x (List.mem_append_left _ hx)
 refine ⟨_, _, _, [], p, [], hW', ?_, ?_, ?_, hb.frame _, fun h => by cases h⟩
 ·rw [hfn, hrt]
  exact trodAll_mk1 (shut_bool hT true)
 ·rw [hfn]
  exact trodAll_below hl hb (fun t ht => by simpa using List.all_eq_true.1 hts t ht) hA hlt
 ·rw [hfn, hvars]
  rfl
set_option maxRecDepth 100000 in
theorem open_graph {v : Value} {d : DataW H} {p : List MemPlace} {b : Nat} (hv : Value.okWide Tryz.prog W .any b 24 v) (h : DataW.Trod enc Tryz.prog W 0 (fun _ => true) true 24 v d p) (hlt : ∀ x ∈ p, x.block < W.heap.size) :
  ∃ (n : Int) (A : Option Addr) (cap : Nat) (es : List (Int × Int)), v = .agg #[.int .i64 n, .slice A es.length cap] ∧ Cells W W.heap.size A (edgeCells es) ∧ (Lit.int .i64 n).wf = true ∧ es.length ≤ maxLen := by
 obtain ⟨c0, c1, y0, y1, m, rfl, rfl, rfl, hy0, hy1⟩ := open_agg2 Tryz.underlying24 (by kernel_rfl) (by kernel_rfl) hv h
 obtain ⟨n, e0, rfl, wn⟩ := DataW.trod_int Tryz.underlying3 hy0
 simp at e0
 subst e0
 rcases open_slice_fields Tryz.underlying22 Tryz.underlying66 (by kernel_rfl) (by kernel_rfl) hy1 with ⟨e1, rfl⟩ | ⟨a, len, cap, m', D, Pl, e1, _, hl, hm, hmm, rfl, hi⟩
 ·simp at e1
  subst e1
  exact ⟨n, none, 0, [], rfl, Cells.nil, wn, Nat.zero_le _⟩
 ·simp at e1
  subst e1
  simp only [if_true] at hmm
  subst hmm
  let z (k : Nat) : Int := match W.cell? (a.add k) with | some (.int _ z) => z | _ => 0
  have hz : ∀ i, i < len → W.cell? (a.add (i * 2)) = some (.int .i64 (z (i * 2))) ∧ W.cell? (a.add (i * 2 + 1)) = some (.int .i64 (z (i * 2 + 1))) := by
   intro i hil
   obtain ⟨ys, k, _, _, _, hf⟩ := hi i (by omega)
   obtain ⟨v0, y0, hc0, _, ht0⟩ := hf 0 _ rfl
   obtain ⟨v1, y1, hc1, _, ht1⟩ := hf 1 _ rfl
   obtain ⟨z0, e0, _, _⟩ := DataW.trod_int Tryz.underlying3 ht0
   obtain ⟨z1, e1, _, _⟩ := DataW.trod_int Tryz.underlying3 ht1
   simp at e0 e1
   subst e0 e1
   have h0 : W.cell? (a.add (i * 2)) = some (.int .i64 z0) := hc0
   have h1 : W.cell? (a.add (i * 2 + 1)) = some (.int .i64 z1) := hc1
   refine ⟨?_, ?_⟩
   ·rw [h0]; simp only [z, h0]
   ·rw [h1]; simp only [z, h1]
  have hel : ((List.range len).map fun i => (z (i * 2), z (i * 2 + 1))).length = len := by simp
  refine ⟨n, some a, _, (List.range len).map fun i => (z (i * 2), z (i * 2 + 1)), by rw [hel], fun hpos => ?_, wn, by rw [hel]; omega⟩
  rw [edgeCells_length, hel] at hpos
  obtain ⟨b, off, spot⟩ := a
  have hspot : spot = none := by
   have := (hz 0 (by omega)).1
   simpa [Addr.add] using World.cell?_spot this
  subst hspot
  have hadd : ∀ k, (⟨b, off, none⟩ : Addr).add k = ⟨b, off + k, none⟩ := fun k => by unfold Addr.add; split <;> simp_all
  have hbl : b < W.heap.size := by
   have := (hz 0 (by omega)).1
   rw [hadd] at this
   exact World.block_lt_of_cell? W _ this
  refine ⟨b, off, rfl, hbl, fun j u hj => ?_⟩
  have hjl : j < 2 * len := by
   have := (List.getElem?_eq_some_iff.1 hj).1
   rw [edgeCells_length, hel] at this
   exact this
  have key := edgeCells_at ((List.range len).map fun i => (z (i * 2), z (i * 2 + 1))) (j / 2) (by rw [hel]; omega)
  obtain ⟨k0, k1⟩ := key
  have hzj := hz (j / 2) (by omega)
  rw [hadd, hadd] at hzj
  rcases Nat.mod_two_eq_zero_or_one j with h2 | h2
  ·have ej : 2 * (j / 2) = j := by omega
   rw [ej] at k0
   rw [k0] at hj
   injection hj with hj
   subst hj
   have := hzj.1
   rw [Nat.mul_comm, ej] at this
   rw [this]
   simp only [List.getElem_map, List.getElem_range, Nat.mul_comm (j / 2) 2, ej]
  ·have ej : 2 * (j / 2) + 1 = j := by omega
   rw [ej] at k1
   rw [k1] at hj
   injection hj with hj
   subst hj
   have := hzj.2
   rw [Nat.mul_comm, ej] at this
   rw [this]
   simp only [List.getElem_map, List.getElem_range, Nat.mul_comm (j / 2) 2, ej]
end
end Go.Proofs.YtneeknlhlkpnpaaGreat
namespace Go.Proofs.YtneeknlhlkpnpaaGreat
open Go.ChangeShapes Go.WideShapes Go.ChangeAt Go.RowKit Go.Deep Go.Joins
section
variable {H : Type} {enc : TypeId × Value → H} {W : World}
theorem addr_flat {a : Addr} {v : Value} (h : W.cell? (a.add 0) = some v) : ∃ b off, a = ⟨b, off, none⟩ ∧ b < W.heap.size ∧ ∀ j, a.add j = ⟨b, off + j, none⟩ := by
 obtain ⟨b, off, spot⟩ := a
 have hspot : spot = none := by simpa [Addr.add] using World.cell?_spot h
 subst hspot
 have hadd : ∀ k, (⟨b, off, none⟩ : Addr).add k = ⟨b, off + k, none⟩ := fun k => by unfold Addr.add; split <;> simp_all
 rw [hadd] at h
 exact ⟨b, off, rfl, World.block_lt_of_cell? W _ h, hadd⟩
end
end Go.Proofs.YtneeknlhlkpnpaaGreat
namespace Go.Proofs.YtneeknlhlkpnpaaGreat
open Go.ChangeShapes Go.WideShapes Go.ChangeAt Go.RowKit Go.Deep Go.Joins
section
variable {H : Type} {enc : TypeId × Value → H} {W W' : World}
set_option maxRecDepth 100000 in
theorem open_graph2 {v : Value} {d : DataW H} {p : List MemPlace} {b : Nat} (hv : Value.okWide Tryz.prog W .any b 24 v) (h : DataW.Trod enc Tryz.prog W 0 (fun _ => true) true 24 v d p) (hlt : ∀ x ∈ p, x.block < W.heap.size) :
  ∃ (n : Int) (A : Option Addr) (cap : Nat) (es : List (Int × Int)), v = .agg #[.int .i64 n, .slice A es.length cap] ∧ Cells W W.heap.size A (edgeCells es) ∧ (Lit.int .i64 n).wf = true ∧ es.length ≤ maxLen ∧ es.length ≤ cap := by
 obtain ⟨c0, c1, y0, y1, m, rfl, rfl, rfl, hy0, hy1⟩ := open_agg2 Tryz.underlying24 (by kernel_rfl) (by kernel_rfl) hv h
 obtain ⟨n, e0, rfl, wn⟩ := DataW.trod_int Tryz.underlying3 hy0
 simp at e0
 subst e0
 rcases open_slice_fields Tryz.underlying22 Tryz.underlying66 (by kernel_rfl) (by kernel_rfl) hy1 with ⟨e1, rfl⟩ | ⟨a, len, cap, m', D, Pl, e1, _, hl, hm, hmm, rfl, hi⟩
 ·simp at e1
  subst e1
  exact ⟨n, none, 0, [], rfl, Cells.nil, wn, Nat.zero_le _, Nat.le_refl _⟩
 ·simp at e1
  subst e1
  simp only [if_true] at hmm
  subst hmm
  let z (k : Nat) : Int := match W.cell? (a.add k) with | some (.int _ z) => z | _ => 0
  have hz : ∀ i, i < len → W.cell? (a.add (i * 2)) = some (.int .i64 (z (i * 2))) ∧ W.cell? (a.add (i * 2 + 1)) = some (.int .i64 (z (i * 2 + 1))) := by
   intro i hil
   obtain ⟨ys, k, _, _, _, hf⟩ := hi i (by omega)
   obtain ⟨v0, y0, hc0, _, ht0⟩ := hf 0 _ rfl
   obtain ⟨v1, y1, hc1, _, ht1⟩ := hf 1 _ rfl
   obtain ⟨z0, e0, _, _⟩ := DataW.trod_int Tryz.underlying3 ht0
   obtain ⟨z1, e1, _, _⟩ := DataW.trod_int Tryz.underlying3 ht1
   simp at e0 e1
   subst e0 e1
   have h0 : W.cell? (a.add (i * 2)) = some (.int .i64 z0) := hc0
   have h1 : W.cell? (a.add (i * 2 + 1)) = some (.int .i64 z1) := hc1
   refine ⟨?_, ?_⟩
   ·rw [h0]; simp only [z, h0]
   ·rw [h1]; simp only [z, h1]
  have hel : ((List.range len).map fun i => (z (i * 2), z (i * 2 + 1))).length = len := by simp
  refine ⟨n, some a, _, (List.range len).map fun i => (z (i * 2), z (i * 2 + 1)), by rw [hel], fun hpos => ?_, wn, by rw [hel]; omega, by rw [hel]; exact hl⟩
  rw [edgeCells_length, hel] at hpos
  obtain ⟨b, off, spot⟩ := a
  have hspot : spot = none := by
   have := (hz 0 (by omega)).1
   simpa [Addr.add] using World.cell?_spot this
  subst hspot
  have hadd : ∀ k, (⟨b, off, none⟩ : Addr).add k = ⟨b, off + k, none⟩ := fun k => by unfold Addr.add; split <;> simp_all
  have hbl : b < W.heap.size := by
   have := (hz 0 (by omega)).1
   rw [hadd] at this
   exact World.block_lt_of_cell? W _ this
  refine ⟨b, off, rfl, hbl, fun j u hj => ?_⟩
  have hjl : j < 2 * len := by
   have := (List.getElem?_eq_some_iff.1 hj).1
   rw [edgeCells_length, hel] at this
   exact this
  have key := edgeCells_at ((List.range len).map fun i => (z (i * 2), z (i * 2 + 1))) (j / 2) (by rw [hel]; omega)
  obtain ⟨k0, k1⟩ := key
  have hzj := hz (j / 2) (by omega)
  rw [hadd, hadd] at hzj
  rcases Nat.mod_two_eq_zero_or_one j with h2 | h2
  ·have ej : 2 * (j / 2) = j := by omega
   rw [ej] at k0
   rw [k0] at hj
   injection hj with hj
   subst hj
   have := hzj.1
   rw [Nat.mul_comm, ej] at this
   rw [this]
   simp only [List.getElem_map, List.getElem_range, Nat.mul_comm (j / 2) 2, ej]
  ·have ej : 2 * (j / 2) + 1 = j := by omega
   rw [ej] at k1
   rw [k1] at hj
   injection hj with hj
   subst hj
   have := hzj.2
   rw [Nat.mul_comm, ej] at this
   rw [this]
   simp only [List.getElem_map, List.getElem_range, Nat.mul_comm (j / 2) 2, ej]
end
end Go.Proofs.YtneeknlhlkpnpaaGreat
