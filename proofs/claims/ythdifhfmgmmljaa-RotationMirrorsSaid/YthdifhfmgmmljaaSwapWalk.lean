/-
  Law RotationSwaps: rows that are the call's own and apart; the region in which two things change places. Written by an AI agent.
-/
import Derived.Test.YthdifhfmgmmljaaSwapLaw
import Derived.Test.YthdifhfmgmmljaaRefGenus
import Derived.Test.YthdifhfmgmmljaaSpeaks5
import Derived.Test.YthdifhfmgmmljaaReachGrows
import Derived.Test.YthdifhfmgmmljaaRegion3
namespace Go.Proofs.Ythdifhfmgmmljaa
open Go.RowKit

/-- rows of the call's own, no two in one block -/
def RowsOwn (w : World) (b0 : Nat) (v : Value) (F : List (List Int)) : Prop :=
  ∃ sl : List Value, w.ownsRow b0 27 1 v F.length sl ∧ (∀ i (h : i < F.length), ∃ Ai ci, sl[i]? = some (.slice Ai F[i].length ci) ∧ w.ownsRow b0 3 1 (.slice Ai F[i].length ci) F[i].length (intCells F[i])) ∧
    ∀ i j, i < j → j < F.length → ∀ k, (sl.getD i undef).ownBlock = some k → (sl.getD j undef).ownBlock ≠ some k
theorem RowsOwn.push {w w' : World} {b0 s0 : Nat} {v v' : Value} {F : List (List Int)} {sl : List Value} {f : List Int} {A : Option Addr} {c : Nat} (ho : w.ownsRow b0 27 1 v F.length sl)
    (h2 : ∀ i (h : i < F.length), ∃ Ai ci, sl[i]? = some (.slice Ai F[i].length ci) ∧ w.ownsRow b0 3 1 (.slice Ai F[i].length ci) F[i].length (intCells F[i]))
    (h3 : ∀ i j, i < j → j < F.length → ∀ k, (sl.getD i undef).ownBlock = some k → (sl.getD j undef).ownBlock ≠ some k)
    (h4 : ∀ i, i < F.length → ∀ k, (sl.getD i undef).ownBlock = some k → k < s0)
    (hf : w.ownsRow b0 3 1 (.slice A f.length c) f.length (intCells f)) (hf2 : ∀ k, (Value.slice A f.length c).ownBlock = some k → s0 ≤ k)
    (hg : w.grownBy w' v.ownBlock) (h' : w'.ownsRow b0 27 1 v' (F.length + 1) (sl ++ [.slice A f.length c])) : RowsOwn w' b0 v' (F ++ [f]) := by
  have hev : Evo b0 [27] w w' := Evo.of_grown ho hg (by simp) (Nat.le_refl _)
  have hsl : sl.length = F.length := by have := ho.1; omega
  have gl : ∀ i, i < F.length → (sl ++ [Value.slice A f.length c]).getD i undef = sl.getD i undef := fun i hi => by
    rw [List.getD_eq_getElem?_getD, List.getElem?_append_left (by omega), ← List.getD_eq_getElem?_getD]
  have gr : (sl ++ [Value.slice A f.length c]).getD F.length undef = .slice A f.length c := by
    rw [List.getD_eq_getElem?_getD, List.getElem?_append_right (by omega), hsl]; simp
  refine ⟨_, by simpa using h', fun i hi => ?_, fun i j hij hj k hk => ?_⟩
  · by_cases hlt : i < F.length
    · obtain ⟨Ai, ci, h3, h4⟩ := h2 i hlt
      rw [List.getElem_append_left hlt]
      exact ⟨Ai, ci, by rw [List.getElem?_append_left (by omega)]; exact h3, own_evo h4 hev (by decide)⟩
    · have hie : i = F.length := by simp at hi; omega
      subst hie
      simp only [List.getElem_concat_length]
      exact ⟨A, c, by rw [List.getElem?_append_right (by omega), hsl]; simp, own_evo hf hev (by decide)⟩
  · rw [gl i (by simp at hj; omega)] at hk
    by_cases hlt : j < F.length
    · rw [gl j hlt]
      exact h3 i j hij hlt k hk
    · have hje : j = F.length := by simp at hj; omega
      subst hje
      rw [gr]
      intro e
      have a1 := h4 i hij k hk
      have a2 := hf2 k e
      omega
theorem RowsOwn.rows {w : World} {b0 : Nat} {v : Value} {F : List (List Int)} (h : RowsOwn w b0 v F) : FacesOwn w b0 v F := by
  obtain ⟨sl, h1, h2, _⟩ := h
  exact ⟨sl, h1, h2⟩
theorem Blk.setIntR {w : World} {g : Nat} {t : TypeId} {l : List Int} {R : Array Value} (h : Blk w g t ((intCells l).toArray ++ R)) (k : Nat) (b : Int) (hk : k < l.length) : Blk (w.setCell ⟨g, k, none⟩ (.int .i64 b)) g t ((intCells (l.set k b)).toArray ++ R) := by
  have := h.set_ k (.int .i64 b)
  rw [Array.setIfInBounds_append_left (by simpa [intCells] using hk)] at this
  simpa [intCells, List.map_set] using this
theorem Blk.intR {w : World} {g : Nat} {t : TypeId} {l : List Int} {R : Array Value} (h : Blk w g t ((intCells l).toArray ++ R)) {k : Nat} (hk : k < l.length) : w.cell? ⟨g, k, none⟩ = some (.int .i64 (l.getD k 0)) := by
  rw [h.cell k, Array.getElem?_append_left (by simpa [intCells] using hk)]; simp [intCells, hk]
/-- what is known of the rows before two things change places -/
theorem RowsOwn.open {w : World} {b0 : Nat} {v : Value} {F : List (List Int)} (h : RowsOwn w b0 v F) {x : Nat} (hx : x < F.length) (h1 : 0 < F[x].length) :
    ∃ gs cs gl cl R, v = .slice (some ⟨gs, 0, none⟩) F.length cs ∧ w.cell? ⟨gs, x, none⟩ = some (.slice (some ⟨gl, 0, none⟩) F[x].length cl) ∧ b0 ≤ gl ∧ Blk w gl 3 ((intCells F[x]).toArray ++ R) ∧
      ∀ w' i k, w.grownBy w' (some gl) → Blk w' gl 3 ((intCells (swpL F[x] i k)).toArray ++ R) → RowsAt w' w'.heap.size (some ⟨gs, 0, none⟩) (swpR F x i k) := by
  obtain ⟨sl, ho, h2, h3⟩ := h
  have hsl : sl.length = F.length := by have := ho.1; omega
  obtain ⟨gs, cs, Rs, rfl, hgs, hbs, _, _, _, _⟩ := own_blk ho (by omega)
  obtain ⟨Ax, cx, hs, hox⟩ := h2 x hx
  obtain ⟨gl, cl, R, hvl, hgl, hbl, _⟩ := own_blk hox h1
  injection hvl with hA _ hc
  subst hA hc
  have hcell : ∀ y, y < F.length → ∀ u, sl[y]? = some u → w.cell? ⟨gs, y, none⟩ = some u := fun y hy u hu => by
    rw [hbs.cell y, Array.getElem?_append_left (by simp; omega)]
    simpa using hu
  refine ⟨gs, cs, gl, cx, R, rfl, hcell x hx _ hs, hgl, hbl, fun w' i k hg hb2 => fun _ => ?_⟩
  have hgsl : gs ≠ gl := fun e => by
    subst e
    unfold Blk at hbs hbl
    rw [hbs] at hbl
    injection hbl with hbl
    injection hbl with _ hbl
    exact absurd hbl (by decide)
  have hbs' := hbs.grown hg (fun e => by injection e with e; exact hgsl e)
  refine ⟨gs, 0, rfl, hbs'.lt, fun y hy => ?_⟩
  have hy' : y < F.length := by rwa [swpR_length] at hy
  rw [Nat.zero_add, swpR_at hx hy']
  by_cases hyx : y = x
  · subst hyx
    rw [if_pos rfl]
    refine ⟨some ⟨gl, 0, none⟩, cx, ?_, ?_⟩
    · rw [swpL_length, hbs'.cell y, Array.getElem?_append_left (by simp; omega)]
      simpa using hs
    · exact (Cells.of_blk hb2).more hb2.lt
  · rw [if_neg hyx]
    obtain ⟨Ay, cy, hsy, hoy⟩ := h2 y hy'
    have gx : sl.getD x undef = .slice (some ⟨gl, 0, none⟩) F[x].length cx := by rw [List.getD_eq_getElem?_getD, hs]; rfl
    have gy : sl.getD y undef = .slice Ay F[y].length cy := by rw [List.getD_eq_getElem?_getD, hsy]; rfl
    have hne : (Value.slice Ay F[y].length cy).ownBlock = none ∨ (Value.slice Ay F[y].length cy).ownBlock ≠ some gl := by
      refine .inr fun e => ?_
      rcases Nat.lt_or_gt_of_ne hyx with h5 | h5
      · exact h3 y x h5 hx gl (by rw [gy]; exact e) (by rw [gx]; rfl)
      · exact h3 x y h5 hy' gl (by rw [gx]; rfl) (by rw [gy]; exact e)
    refine ⟨Ay, cy, ?_, Cells.of_own (hoy.kept hg hne)⟩
    rw [hbs'.cell y, Array.getElem?_append_left (by simp; omega)]
    simpa using hsy

/-- the two worlds of a region that writes one block alone -/
def OneE (gl : Nat) (c : Nat) (a b : World) : Prop := if c = 1 then a.grownBy b (some gl) else a = b
def OneW (gl : Nat) (C : List Nat) (a b : World) : Prop := if C.contains 1 = true then a.grownBy b (some gl) else a = b
theorem grown_trans {a b c : World} {row : Option Nat} (h : a.grownBy b row) (k : b.grownBy c row) : a.grownBy c row :=
  ⟨k.os.trans h.os, k.tape.trans h.tape, k.output.trans h.output, Nat.le_trans h.size k.size, fun i hi hne => (k.block i (Nat.lt_of_lt_of_le hi h.size) hne).trans (h.block i hi hne)⟩
theorem OneW.refl (gl : Nat) (C : List Nat) (a : World) : OneW gl C a a := by
  unfold OneW
  split
  · exact World.grownBy.refl _ _
  · rfl
theorem OneW.trans {gl : Nat} {C : List Nat} {a b c : World} (h : OneW gl C a b) (k : OneW gl C b c) : OneW gl C a c := by
  unfold OneW at *
  split
  · rename_i hc
    rw [if_pos hc] at h k
    exact grown_trans h k
  · rename_i hc
    rw [if_neg hc] at h k
    exact h.trans k
theorem OneW.of {gl : Nat} {C : List Nat} {c : Nat} {a b : World} (hc : c ∈ C) (h : OneE gl c a b) : OneW gl C a b := by
  unfold OneE at h
  split at h
  · rename_i h1
    subst h1
    unfold OneW
    rw [if_pos (List.contains_iff_mem.2 hc)]
    exact h
  · subst h; exact OneW.refl gl C a
theorem OneW.same {gl : Nat} {C : List Nat} {a b : World} (hC : C.contains 1 = false) (h : OneW gl C a b) : a = b := by
  unfold OneW at h
  rw [if_neg (by rw [hC]; simp)] at h
  exact h
theorem OneW.grown {gl : Nat} {C : List Nat} {a b : World} (h : OneW gl C a b) : a.grownBy b (some gl) := by
  unfold OneW at h
  split at h
  · exact h
  · subst h; exact World.grownBy.refl _ _
/-- a fact on the value alone; a fact on block gl -/
inductive OS where
  | v (uses : List Nat) (u : Value)
  | b (uses : List Nat) (g : Nat) (t : TypeId) (D : Array Value)
def OS.spec : OS → PSpec
  | .v uses u => ⟨uses, [], fun _ v _ => v = u⟩
  | .b uses g t D => ⟨uses, [1], fun _ _ w => Blk w g t D⟩
theorem pgo_one {P : Program} {ops : Array Oper} {gl : Nat} {W : List Nat → World → World → Prop} {b : Array Nat} {cls : List Nat} {Fs : List PSpec} {w0 : World} {us : Nat → Value} {o : Oper} {rest : List Oper} {i : Nat} {a : Act} (s : PSpec)
    (hg : o.guard = none) (hs : Fs[i]? = some s) (hc : cls.getD i 0 = 0)
    (h : ∀ (w : World), W (R3.ahead ops.size cls b i) w0 w → PHold Fs us w s.uses → ∃ v, (execOp a.eval o).run P w = .ok (.value v) w ∧ s.F us v w)
    (hr : R3.PGo P ops (OneE gl) W b cls Fs w0 us rest (i + 1) (a.put o.dst (us i))) : R3.PGo P ops (OneE gl) W b cls Fs w0 us (o :: rest) i a :=
  R3.pgo_val s hg hs (fun w hw hu => by
    obtain ⟨v, h1, h2⟩ := h w hw hu
    exact ⟨v, w, h1, by unfold OneE; rw [hc]; rfl, h2⟩) hr
/-- the rule for a region that writes block gl alone -/
theorem wp_region_one {P : Program} {id : Nat} {l : List Oper} {Q : Exit → Act → World → Prop} {a0 : Act} {w : World} (gl : Nat) (b : Array Nat) (cls : List Nat) (Fs0 : List OS) (fin : List Nat)
    (hm : P.follows .mixedOrders = true)
    (hok : (okP l.toArray cls ((Fs0.map OS.spec).map (·.uses)) ((Fs0.map OS.spec).map (·.bad)) fin b && fin.all (fun i => decide (i < l.toArray.size)) && (List.range l.toArray.size).all (fun i => decide (b.getD i 0 < 2 ^ l.toArray.size))) = true)
    (hgo : ∀ us, R3.PGo P l.toArray (OneE gl) (OneW gl) b cls (Fs0.map OS.spec) w.drew us l 0 a0)
    (hfin : ∀ us w', OneW gl (R3.allC l.toArray.size cls) w.drew w' → PHold (Fs0.map OS.spec) us w' fin → Q .normal (lexL us l 0 a0) w') : (Code.region id l.toArray true).wp P Q a0 w := by
  refine R3.wp_region_p (OneE gl) (OneW gl) cls (Fs0.map OS.spec) fin b hm hok (OneW.refl gl) (fun _ _ _ _ => OneW.trans) (fun _ _ _ _ => OneW.of) (fun c a => by
    unfold OneE
    split
    · exact World.grownBy.refl _ _
    · rfl) ?_ ?_ hgo (fun us w' h1 h2 => by rw [lexAt_lexL]; exact hfin us w' h1 h2)
  · intro s hs c hc us v w w' hE hFF
    obtain ⟨o, _, rfl⟩ := List.mem_map.1 hs
    cases o with
    | v uses u => exact hFF
    | b uses g t D =>
      have hc0 : c ≠ 1 := by
        intro e
        subst e
        simp [OS.spec] at hc
      unfold OneE at hE
      rw [if_neg hc0] at hE
      subst hE; exact hFF
  · intro s hs us us' _ v w hFF
    obtain ⟨o, _, rfl⟩ := List.mem_map.1 hs
    cases o with
    | v uses u => exact hFF
    | b uses g t D => exact hFF
end Go.Proofs.Ythdifhfmgmmljaa
