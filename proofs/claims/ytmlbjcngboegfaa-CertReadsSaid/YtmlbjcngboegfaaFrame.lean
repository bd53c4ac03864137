/-
  From a contract to the row: arguments opened to lists, the law's post. The opening of slices of structs is after the kit's page on structs. Written by an AI agent.
-/
import Derived.Test.YtmlbjcngboegfaaRows
import Derived.Test.YtmlbjcngboegfaaLaid
import Derived.ProofKit
import Derived.OpenShut
import Derived.Deep.Slices
import Derived.Deep.Fields
import Derived.ChangeSame
import Derived.Lib.SmallJoins
namespace Go.Proofs.Ytmlbjcngboegfaa
open Go.ChangeShapes Go.WideShapes Go.ChangeAt Go.RowKit Go.Deep Go.Joins

theorem own : ownKnob Try.prog.godebug = none := by kernel_rfl
theorem laidOut : laidOutB Try.prog = true := by kernel_rfl

section
variable {H : Type} {enc : TypeId × Value → H} {P : Program} {w : World} {base : Nat} {spare : Nat → Bool} {held : Bool}
theorem open_slice_fields {t e : TypeId} {fs : Array Field} {fuel : Nat} {cs : List Value} {x : DataW H × List MemPlace} (ht : P.underlying t = some (.slice e)) (he : P.underlying e = some (.struct fs))
    (hone : oneCellFields P fs = true) (hC : P.cellsOf e = fs.size) (h : DataW.trod enc P w base spare held fuel t cs = some x) :
    (cs = [.slice none 0 0] ∧ x = (.nil, [])) ∨
    ∃ (a : Addr) (len cap m : Nat) (D : Nat → DataW H) (Pl : Nat → List MemPlace), cs = [.slice (some a) len cap] ∧ base ≤ a.block ∧ len ≤ cap ∧ cap ≤ maxLen ∧ m = (if spare a.block then cap else len) ∧
      x = (.slice ((List.range len).map D) ((List.range (m - len)).map fun j => D (len + j)), MemPlace.row a (m * fs.size) ++ (List.range m).flatMap Pl) ∧
      ∀ i, i < m → ∃ (ys : List (DataW H × List MemPlace)) (n : Nat), D i = .agg (ys.map (·.1)) ∧ Pl i = ys.flatMap (·.2) ∧ ys.length = fs.size ∧
        ∀ (j : Nat) (f : Field), fs[j]? = some f → ∃ (v : Value) (y : DataW H × List MemPlace), w.cell? (a.add (i * fs.size + j)) = some v ∧ ys[j]? = some y ∧ DataW.trod enc P w base spare held n f.type [v] = some y := by
  rcases open_slice ht h with h0 | ⟨a, len, cap, m, n, D, Pl, hcs, hb, hl, hm, hmm, hx, hi⟩
  · exact .inl h0
  · refine .inr ⟨a, len, cap, m, D, Pl, hcs, hb, hl, hm, hmm, by rw [hC] at hx; exact hx, fun i him => ?_⟩
    obtain ⟨cs', hc, ht'⟩ := hi i him
    rw [hC] at hc
    obtain ⟨ys, n', hn', hy, hlen, hyl, hf⟩ := DataW.trod_struct he ht'
    obtain ⟨_, hcl, hat⟩ := World.cells?_some hc
    simp only [Prod.mk.injEq] at hy
    refine ⟨ys, n', hy.1, hy.2, hyl, fun j f hj => ?_⟩
    obtain ⟨ho, hk⟩ := hone_of hone j f hj
    have hjl : j < fs.size := (Array.getElem?_eq_some_iff.1 hj).1
    have hcell := hat j hjl
    have hv : cs'[j]? = some (cs'[j]'(by omega)) := List.getElem?_eq_getElem (by omega)
    have h1 := hf j f hj
    rw [ho, hk] at h1
    have hone' : (cs'.drop j).take 1 = [cs'[j]'(by omega)] := by
      rw [List.drop_eq_getElem_cons (by omega)]
      rfl
    rw [hone'] at h1
    have hys : ys[j]? = some (ys[j]'(by omega)) := List.getElem?_eq_getElem (by omega)
    refine ⟨_, _, ?_, hys, h1.trans hys⟩
    rw [← Go.Deep.add_add, hcell, hv]
end

section
variable {H : Type} {enc : TypeId × Value → H} {W W' : World}

theorem trodAll_below {P : Program} (hl : laidOutB P = true) (hb : Below W.heap.size W W') : ∀ {ts : List TypeId} {vs : List Value} {ds : List (DataW H)} {ps : List MemPlace}, (∀ t ∈ ts, P.readableRec t = true ∧ t < P.types.size) →
    DataW.TrodAll enc P W 0 (fun _ => true) true ts vs ds ps → (∀ x ∈ ps, x.block < W.heap.size) → DataW.TrodAll enc P W' 0 (fun b => decide (b < W.heap.size)) true ts vs ds ps
  | [], vs, ds, ps, _, h, _ => by
    obtain ⟨rfl, rfl, rfl⟩ := trodAll_nil h
    exact trodAll_mk0
  | t :: ts, vs, ds, ps, ht, h, hp => by
    obtain ⟨v, vs', d, ds', p, q, rfl, rfl, rfl, h1, h2⟩ := trodAll_cons h
    obtain ⟨hr, hrow⟩ := ht t (List.mem_cons_self ..)
    exact trodAll_cons_mk (Below.trod hl hr hrow h1 hb fun x hx => hp x (List.mem_append_left _ hx)) (trodAll_below hl hb (fun t' h' => ht t' (List.mem_cons_of_mem _ h')) h2 fun x hx => hp x (List.mem_append_right _ hx))

/-- a law's post, where it returned true and nothing that was there has turned -/
theorem law_post {P : Program} {f : Func} {s : ChangeSpec} {args : Array Value} {ds : List (DataW H)} {before : List MemPlace} {T : TypeId} (hl : laidOutB P = true)
    (hts : f.params.toList.all (fun t => P.readableRec t && decide (t < P.types.size)) = true) (hvars : s.vars = [])
    (hW : DataW.Whole enc P f.params.toList s.vars false W args.toList ds [] before) (hfn : s.fn H (ds ++ []) = { results := [.lit (.bool true)], args := ds })
    (hrt : f.resultTypes = #[T]) (hT : P.underlying T = some .bool) (hb : Below W.heap.size W W') : s.post enc P f false true false false W args (.bool true) W' := by
  have hW' := hW
  obtain ⟨p, q, hA, hV, rfl, _, _⟩ := hW
  have hlt : ∀ x ∈ p, x.block < W.heap.size := fun x hx => hW'.lt x (List.mem_append_left _ hx)
  refine ⟨_, _, _, [], p, [], hW', ?_, ?_, ?_, hb.frame _, fun h => by cases h⟩
  · rw [hfn, hrt]
    exact trodAll_mk1 (shut_bool hT true)
  · rw [hfn]
    exact trodAll_below hl hb (fun t ht => by simpa using List.all_eq_true.1 hts t ht) hA hlt
  · rw [hfn, hvars]
    rfl

/-- a type that reads as a list -/
def Opn {β : Type} {H : Type} (enc : TypeId × Value → H) (W : World) (cl : List β → List Value) (t : TypeId) : Prop :=
  ∀ fuel cs (x : DataW H × List MemPlace), DataW.trod enc Try.prog W 0 (fun _ => true) true fuel t cs = some x → ∃ A l c, cs = [.slice A l.length c] ∧ Cells W W.heap.size A (cl l) ∧ l.length ≤ c
theorem open_pts : Opn enc W edgeCells 26 := by
  intro fuel cs x h
  rcases open_slice_fields Try.underlying26 Try.underlying85 (by kernel_rfl) (by kernel_rfl) h with ⟨e1, rfl⟩ | ⟨a, len, cap, m', D, Pl, e1, _, hl, hm, hmm, rfl, hi⟩
  · subst e1
    exact ⟨none, [], 0, rfl, Cells.nil, Nat.zero_le _⟩
  · subst e1
    simp only [if_true] at hmm
    subst hmm
    let z (k : Nat) : Int := match W.cell? (a.add k) with | some (.int _ z) => z | _ => 0
    have hz : ∀ i, i < len → W.cell? (a.add (i * 2)) = some (.int .i64 (z (i * 2))) ∧ W.cell? (a.add (i * 2 + 1)) = some (.int .i64 (z (i * 2 + 1))) := by
      intro i hil
      obtain ⟨ys, k, _, _, _, hf⟩ := hi i (by omega)
      obtain ⟨v0, y0, hc0, _, ht0⟩ := hf 0 _ rfl
      obtain ⟨v1, y1, hc1, _, ht1⟩ := hf 1 _ rfl
      obtain ⟨z0, e0, _, _⟩ := DataW.trod_int Try.underlying3 ht0
      obtain ⟨z1, e1, _, _⟩ := DataW.trod_int Try.underlying3 ht1
      simp at e0 e1
      subst e0 e1
      have h0 : W.cell? (a.add (i * 2)) = some (.int .i64 z0) := hc0
      have h1 : W.cell? (a.add (i * 2 + 1)) = some (.int .i64 z1) := hc1
      refine ⟨?_, ?_⟩
      · rw [h0]; simp only [z, h0]
      · rw [h1]; simp only [z, h1]
    have hel : ((List.range len).map fun i => (z (i * 2), z (i * 2 + 1))).length = len := by simp
    refine ⟨some a, (List.range len).map fun i => (z (i * 2), z (i * 2 + 1)), _, by rw [hel], fun hpos => ?_, by rw [hel]; exact hl⟩
    rw [edgeCells_length, hel] at hpos
    obtain ⟨b, off, spot⟩ := a
    have hspot : spot = none := by
      have := (hz 0 (by omega)).1
      simpa [Addr.add] using World.cell?_spot this
    subst hspot
    have hadd : ∀ k, (⟨b, off, none⟩ : Addr).add k = ⟨b, off + k, none⟩ := fun k => by unfold Addr.add; split <;> simp_all
    have hbl : b < W.heap.size := by
      have := (hz 0 (by omega)).1
      rw [hadd] at this
      exact World.block_lt_of_cell? W _ this
    refine ⟨b, off, rfl, hbl, fun j u hj => ?_⟩
    have hjl : j < 2 * len := by
      have := (List.getElem?_eq_some_iff.1 hj).1
      rw [edgeCells_length, hel] at this
      exact this
    have key := edgeCells_at ((List.range len).map fun i => (z (i * 2), z (i * 2 + 1))) (j / 2) (by rw [hel]; omega)
    obtain ⟨k0, k1⟩ := key
    have hzj := hz (j / 2) (by omega)
    rw [hadd, hadd] at hzj
    rcases Nat.mod_two_eq_zero_or_one j with h2 | h2
    · have ej : 2 * (j / 2) = j := by omega
      rw [ej] at k0
      rw [k0] at hj
      injection hj with hj
      subst hj
      have := hzj.1
      rw [Nat.mul_comm, ej] at this
      rw [this]
      simp only [List.getElem_map, List.getElem_range, Nat.mul_comm (j / 2) 2, ej]
    · have ej : 2 * (j / 2) + 1 = j := by omega
      rw [ej] at k1
      rw [k1] at hj
      injection hj with hj
      subst hj
      have := hzj.2
      rw [Nat.mul_comm, ej] at this
      rw [this]
      simp only [List.getElem_map, List.getElem_range, Nat.mul_comm (j / 2) 2, ej]
theorem open_nums {k : IntKind} {t e : TypeId} (ht : Try.prog.underlying t = some (.slice e)) (he : Try.prog.underlying e = some (.int k)) (hc : Try.prog.cellsOf e = 1) {fuel : Nat} {cs : List Value} {x : DataW H × List MemPlace}
    (h : DataW.trod enc Try.prog W 0 (fun _ => true) true fuel t cs = some x) : ∃ (A : Option Addr) (l : List Int) (c : Nat), cs = [.slice A l.length c] ∧ Cells W W.heap.size A (l.map (Value.int k)) ∧ l.length ≤ c ∧ ∀ n ∈ l, (Lit.int k n).wf = true := by
  rcases open_ints ht he hc h with ⟨e1, _⟩ | ⟨a, len, cap, zs, e1, _, hl, _, hz, hx, hcc, hwf⟩
  · exact ⟨none, [], 0, e1, Cells.nil, Nat.zero_le _, fun n hn => by cases hn⟩
  · subst e1
    simp only [if_true] at hz
    have hzl : (zs.take len).length = len := by simp; omega
    refine ⟨some a, zs.take len, cap, by rw [hzl], fun hp => ?_, by rw [hzl]; exact hl, fun n hn => hwf n (List.mem_of_mem_take hn)⟩
    have hp : 0 < len := by simp at hp; omega
    obtain ⟨b, off, spot⟩ := a
    have h0 := hcc 0 (by omega)
    have hspot : spot = none := by simpa [Addr.add] using World.cell?_spot h0
    subst hspot
    have hadd : ∀ k, (⟨b, off, none⟩ : Addr).add k = ⟨b, off + k, none⟩ := fun k => by unfold Addr.add; split <;> simp_all
    rw [hadd] at h0
    refine ⟨b, off, rfl, World.block_lt_of_cell? W _ h0, fun j u hj => ?_⟩
    simp only [List.getElem?_map, Option.map_eq_some_iff] at hj
    obtain ⟨z, hz', rfl⟩ := hj
    rw [List.getElem?_take] at hz'
    split at hz'
    · have := hcc j (by omega)
      rw [hadd] at this
      rw [this, List.getD_eq_getElem?_getD, hz']
      rfl
    · cases hz'
theorem open_ints' : Opn enc W intCells 22 := fun fuel cs x h => by
  obtain ⟨A, l, c, h1, h2, h3, _⟩ := open_nums Try.underlying22 Try.underlying3 (by kernel_rfl) h
  exact ⟨A, l, c, h1, h2, h3⟩
theorem open_bytes {fuel : Nat} {cs : List Value} {x : DataW H × List MemPlace} (h : DataW.trod enc Try.prog W 0 (fun _ => true) true fuel 35 cs = some x) : ∃ (A : Option Addr) (l : List Int) (c : Nat), cs = [.slice A l.length c] ∧ Cells W W.heap.size A (byteCells l) ∧ l.length ≤ c ∧ Bytes l := by
  obtain ⟨A, l, c, h1, h2, h3, h4⟩ := open_nums Try.underlying35 Try.underlying5 (by kernel_rfl) h
  refine ⟨A, l, c, h1, h2, h3, fun n hn => ?_⟩
  have := h4 n hn
  simp [Lit.wf] at this
  have e1 : IntKind.u8.min = 0 := rfl
  have e2 : IntKind.u8.max = 255 := rfl
  rw [e1, e2] at this
  omega
theorem open_tbl {β : Type} {cl : List β → List Value} {t e : TypeId} (ht : Try.prog.underlying t = some (.slice e)) (he : Try.prog.cellsOf e = 1) (hi : Opn enc W cl e) {fuel : Nat} {cs : List Value} {x : DataW H × List MemPlace}
    (h : DataW.trod enc Try.prog W 0 (fun _ => true) true fuel t cs = some x) : ∃ A rs c, cs = [.slice A rs.length c] ∧ TblAt cl W W.heap.size A rs ∧ rs.length ≤ c := by
  rcases open_slice1 ht he h with ⟨e1, _⟩ | ⟨a, len, cap, m, n, U, D, Pl, e1, _, hl, hm, hmm, _, hx⟩
  · exact ⟨none, [], 0, e1, TblAt.nil, Nat.zero_le _⟩
  · subst e1
    simp only [if_true] at hmm
    have each : ∀ i, i < len → ∃ A l c, W.cell? (a.add i) = some (.slice A (l : List β).length c) ∧ Cells W W.heap.size A (cl l) := fun i hil => by
      obtain ⟨hc, ht'⟩ := hx i (by omega)
      obtain ⟨A, l, c, h1, h2, h3⟩ := hi _ _ _ ht'
      injection h1 with h1 _
      exact ⟨A, l, c, by rw [hc, h1], h2⟩
    have each' : ∀ i, ∃ l : List β, i < len → ∃ A c, W.cell? (a.add i) = some (.slice A l.length c) ∧ Cells W W.heap.size A (cl l) := fun i => by
      by_cases hil : i < len
      · obtain ⟨A, l, c, h⟩ := each i hil
        exact ⟨l, fun _ => ⟨A, c, h⟩⟩
      · exact ⟨[], fun h => absurd h hil⟩
    let f : Nat → List β := fun i => Classical.choose (each' i)
    have hf : ∀ i, i < len → ∃ A c, W.cell? (a.add i) = some (.slice A (f i).length c) ∧ Cells W W.heap.size A (cl (f i)) := fun i => Classical.choose_spec (each' i)
    have hlen : ((List.range len).map f).length = len := by simp
    refine ⟨some a, (List.range len).map f, cap, by rw [hlen], fun hp => ?_, by rw [hlen]; exact hl⟩
    rw [hlen] at hp
    obtain ⟨A0, c0, h0, _⟩ := hf 0 hp
    obtain ⟨b, off, spot⟩ := a
    have hspot : spot = none := by simpa [Addr.add] using World.cell?_spot h0
    subst hspot
    have hadd : ∀ k, (⟨b, off, none⟩ : Addr).add k = ⟨b, off + k, none⟩ := fun k => by unfold Addr.add; split <;> simp_all
    rw [hadd] at h0
    refine ⟨b, off, rfl, World.block_lt_of_cell? W _ h0, fun i hil => ?_⟩
    rw [hlen] at hil
    obtain ⟨A, c, h1, h2⟩ := hf i hil
    rw [hadd] at h1
    exact ⟨A, c, by simpa using h1, by simpa using h2⟩

set_option maxRecDepth 20000 in
/-- a certificate that came in -/
theorem open_crt {v : Value} {d : DataW H} {p : List MemPlace} {b0 : Nat} (hv : Value.okWide Try.prog W .any b0 32 v) (h : DataW.Trod enc Try.prog W 0 (fun _ => true) true 32 v d p) :
    ∃ V x, v = crtVal V x ∧ CrtIs W W.heap.size V x := by
  obtain ⟨cs, rfl, hsz⟩ := okWide_struct Try.underlying32 hv
  have k0 : Try.prog.cellsOf 32 = 12 := by kernel_rfl
  have k1 : Try.prog.cellsOf 3 = 1 := by kernel_rfl
  have k2 : Try.prog.cellsOf 25 = 2 := by kernel_rfl
  have k3 : Try.prog.cellsOf 23 = 1 := by kernel_rfl
  have k4 : Try.prog.cellsOf 29 = 2 := by kernel_rfl
  have k5 : Try.prog.cellsOf 30 = 4 := by kernel_rfl
  have k6 : Try.prog.cellsOf 22 = 1 := by kernel_rfl
  have k7 : Try.prog.cellsOf 26 = 1 := by kernel_rfl
  have k8 : Try.prog.cellsOf 27 = 1 := by kernel_rfl
  obtain ⟨l⟩ := cs
  match l, hsz.trans k0 with
  | [c0, c1, c2, c3, c4, c5, c6, c7, c8, c9, c10, c11], _ =>
    obtain ⟨fuel, hf⟩ := h
    obtain ⟨xs, n, _, hx, _, hlen, hg⟩ := DataW.trod_struct Try.underlying32 hf
    match xs, hlen with
    | [y0, y1, y2, y3, y4, y5, y6], _ =>
      have g0 : DataW.trod enc Try.prog W 0 (fun _ => true) true n 3 [c0] = some y0 := by simpa [Value.cells, k1] using hg 0 _ rfl
      have g1 : DataW.trod enc Try.prog W 0 (fun _ => true) true n 25 [c1, c2] = some y1 := by simpa [Value.cells, k2] using hg 1 _ rfl
      have g2 : DataW.trod enc Try.prog W 0 (fun _ => true) true n 23 [c3] = some y2 := by simpa [Value.cells, k3] using hg 2 _ rfl
      have g3 : DataW.trod enc Try.prog W 0 (fun _ => true) true n 3 [c4] = some y3 := by simpa [Value.cells, k1] using hg 3 _ rfl
      have g4 : DataW.trod enc Try.prog W 0 (fun _ => true) true n 29 [c5, c6] = some y4 := by simpa [Value.cells, k4] using hg 4 _ rfl
      have g5 : DataW.trod enc Try.prog W 0 (fun _ => true) true n 30 [c7, c8, c9, c10] = some y5 := by simpa [Value.cells, k5] using hg 5 _ rfl
      have g6 : DataW.trod enc Try.prog W 0 (fun _ => true) true n 22 [c11] = some y6 := by simpa [Value.cells, k6] using hg 6 _ rfl
      obtain ⟨z0, e0, _, _⟩ := DataW.trod_int Try.underlying3 g0
      obtain ⟨z3, e3, _, _⟩ := DataW.trod_int Try.underlying3 g3
      obtain ⟨q0, q1, n1, _, _, p0, p1⟩ := trod_struct2 Try.underlying25 g1
      obtain ⟨q2, q3, n2, _, _, p2, p3⟩ := trod_struct2 Try.underlying29 g4
      obtain ⟨ys, n3, _, _, _, hyl, hy⟩ := DataW.trod_array Try.underlying30 g5
      rw [k6] at hy p0
      rw [k3] at p1
      rw [k7] at p2
      rw [k8] at p3
      match ys, hyl with
      | [b0, b1, b2, b3], _ =>
        have r0 : DataW.trod enc Try.prog W 0 (fun _ => true) true n3 22 [c7] = some b0 := by simpa using hy 0 (by omega)
        have r1 : DataW.trod enc Try.prog W 0 (fun _ => true) true n3 22 [c8] = some b1 := by simpa using hy 1 (by omega)
        have r2 : DataW.trod enc Try.prog W 0 (fun _ => true) true n3 22 [c9] = some b2 := by simpa using hy 2 (by omega)
        have r3 : DataW.trod enc Try.prog W 0 (fun _ => true) true n3 22 [c10] = some b3 := by simpa using hy 3 (by omega)
        obtain ⟨A1, l1, m1, h1, i1, _⟩ := open_ints' (enc := enc) _ _ _ (show DataW.trod enc Try.prog W 0 (fun _ => true) true n1 22 [c1] = some q0 by simpa using p0)
        obtain ⟨A2, l2, m2, h2, i2, _⟩ := open_tbl Try.underlying23 k6 (open_ints' (enc := enc)) (show DataW.trod enc Try.prog W 0 (fun _ => true) true n1 23 [c2] = some q1 by simpa using p1)
        obtain ⟨A3, l3, m3, h3, i3, _⟩ := open_tbl Try.underlying23 k6 (open_ints' (enc := enc)) g2
        obtain ⟨A5, l5, m5, h5, i5, _⟩ := open_pts (enc := enc) _ _ _ (show DataW.trod enc Try.prog W 0 (fun _ => true) true n2 26 [c5] = some q2 by simpa using p2)
        obtain ⟨A6, l6, m6, h6, i6, _⟩ := open_tbl Try.underlying27 k7 (open_pts (enc := enc)) (show DataW.trod enc Try.prog W 0 (fun _ => true) true n2 27 [c6] = some q3 by simpa using p3)
        obtain ⟨A7, l7, m7, h7, i7, _⟩ := open_ints' (enc := enc) _ _ _ r0
        obtain ⟨A8, l8, m8, h8, i8, _⟩ := open_ints' (enc := enc) _ _ _ r1
        obtain ⟨A9, l9, m9, h9, i9, _⟩ := open_ints' (enc := enc) _ _ _ r2
        obtain ⟨A10, l10, m10, h10, i10, _⟩ := open_ints' (enc := enc) _ _ _ r3
        obtain ⟨A11, l11, m11, h11, i11, _⟩ := open_ints' (enc := enc) _ _ _ g6
        refine ⟨⟨A1, A2, A3, A5, A6, A7, A8, A9, A10, A11, m1, m2, m3, m5, m6, m7, m8, m9, m10, m11⟩, ⟨z0, l1, l2, l3, z3, l5, l6, l7, l8, l9, l10, l11⟩, ?_, ⟨i1, i2, i3, i5, i6, i7, i8, i9, i10, i11⟩⟩
        injection e0 with e0 _
        injection e3 with e3 _
        injection h1 with h1 _
        injection h2 with h2 _
        injection h3 with h3 _
        injection h5 with h5 _
        injection h6 with h6 _
        injection h7 with h7 _
        injection h8 with h8 _
        injection h9 with h9 _
        injection h10 with h10 _
        injection h11 with h11 _
        subst e0 e3 h1 h2 h3 h5 h6 h7 h8 h9 h10 h11
        rfl
end
end Go.Proofs.Ytmlbjcngboegfaa
