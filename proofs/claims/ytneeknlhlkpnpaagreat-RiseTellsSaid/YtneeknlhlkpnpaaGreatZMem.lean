import Derived.Test.YtneeknlhlkpnpaaGreatProg
import Derived.WalkKit
import Derived.WalkSpells
import Derived.WalkLawsBesides
import Derived.Deep.LoopGhost
import Derived.Deep.Draws
import Derived.Deep.AppendLies
import Derived.OwnWalk
import Derived.Deep.QuietTactic
import Derived.BigQuiet
import Derived.Lib.Hide
import Derived.Deep.RegionWith
import Derived.Maps.AppendAt
import Derived.Laws.EntriesVeiled
import Derived.RegionTactic
import Derived.ChangeAlike
import Derived.KernelRfl
import Derived.Deep.DeepCutAuto
/-
 Words for memory that all walks of this seat use: a slice that reads as a list of cells, a block that is known whole, graphs and lists of lists that came in. Conditions: none. Written by an AI agent.
-/
namespace Go.Proofs.YtneeknlhlkpnpaaGreat
open Go.RowKit
def Cells (w : World) (B : Nat) (A : Option Addr) (xs : List Value) : Prop :=
 0 < xs.length → ∃ b off, A = some ⟨b, off, none⟩ ∧ b < B ∧ ∀ j u, xs[j]? = some u → w.cell? ⟨b, off + j, none⟩ = some u
section
variable {w w' : World} {B B' : Nat} {A : Option Addr} {xs : List Value}
theorem Cells.nil : Cells w B A [] := fun h => absurd h (by simp)
theorem Cells.keep (h : Cells w B A xs) (hk : ∀ p : Addr, p.block < B → w'.cell? p = w.cell? p) : Cells w' B A xs := fun hn => by
 obtain ⟨b, off, e, hb, hc⟩ := h hn
 exact ⟨b, off, e, hb, fun j u hu => (hk _ (by exact hb)).trans (hc j u hu)⟩
theorem Cells.more (h : Cells w B A xs) (hB : B ≤ B') : Cells w B' A xs := fun hn => by
 obtain ⟨b, off, e, hb, hc⟩ := h hn
 exact ⟨b, off, e, by omega, hc⟩
theorem Cells.below (h : Cells w B A xs) (hb : Below B w w') : Cells w' B A xs := h.keep fun _ hp => hb.cell hp
theorem Cells.drew (h : Cells w B A xs) : Cells w.drew B A xs := h
theorem Cells.drewN (h : Cells w B A xs) (k : Nat) : Cells (w.drewN k) B A xs := h
theorem Cells.alloc (h : Cells w B A xs) (hB : B ≤ w.heap.size) (o : Obj) : Cells (w.alloc o) B A xs := h.keep fun p hp => World.cell?_alloc_lt w o p (by omega)
theorem Cells.setCell (h : Cells w B A xs) {p : Addr} (hB : B ≤ p.block) (u : Value) : Cells (w.setCell p u) B A xs :=
 h.keep fun q hq => World.cell?_setCell_other w p q u (fun e => by subst e; omega)
theorem Cells.of_own {base : Nat} {e : TypeId} {size n c : Nat} (h : w.ownsRow base e size (.slice A n c) n xs) : Cells w w.heap.size A xs := fun hn => by
 have hn' : 0 < n := by
  rcases Nat.eq_zero_or_pos n with h0 | h0
  ·subst h0; have := h.1; omega
  ·exact h0
 obtain ⟨g, cap, hv, _, hlt⟩ := h.form hn'
 have hA : A = some ⟨g, 0, none⟩ := by injection hv
 subst hA
 refine ⟨_, _, rfl, hlt, fun j u hu => ?_⟩
 have := h.cells (g := g) rfl j u hu
 have e : (⟨g, 0, none⟩ : Addr).add j = ⟨g, 0 + j, none⟩ := by unfold Addr.add; split <;> simp_all
 rw [e] at this
 exact this
end
def Blk (w : World) (g : Nat) (t : TypeId) (cs : Array Value) : Prop := w.heap[g]? = some (.cells cs t (0, 0))
section
variable {w w' : World} {g : Nat} {t : TypeId} {cs : Array Value}
theorem Blk.lt (h : Blk w g t cs) : g < w.heap.size := by
 rcases Nat.lt_or_ge g w.heap.size with hlt | hge
 ·exact hlt
 ·unfold Blk at h; rw [Array.getElem?_eq_none hge] at h; cases h
theorem Blk.cell (h : Blk w g t cs) (i : Nat) : w.cell? ⟨g, i, none⟩ = cs[i]? := cell_of_row w g i cs t (0, 0) h
theorem Blk.frozen (h : Blk w g t cs) (i : Nat) : w.frozen? ⟨g, i, none⟩ = false := by
 unfold Blk at h
 simp [World.frozen?, h]
theorem Blk.new (w : World) (t : TypeId) (cs : Array Value) : Blk (w.alloc (.cells cs t)) w.heap.size t cs := heap_alloc_new w _
theorem Blk.drew (h : Blk w g t cs) : Blk w.drew g t cs := h
theorem Blk.drewN (h : Blk w g t cs) (n : Nat) : Blk (w.drewN n) g t cs := h
theorem Blk.alloc (h : Blk w g t cs) (o : Obj) : Blk (w.alloc o) g t cs := (Below.heap_alloc w o g h.lt).trans h
theorem Blk.set_ (h : Blk w g t cs) (i : Nat) (u : Value) : Blk (w.setCell ⟨g, i, none⟩ u) g t (cs.setIfInBounds i u) := by
 unfold Blk at h ⊢
 simp [World.setCell, Array.getElem?_modify, h]
theorem Blk.far (h : Blk w g t cs) {p : Addr} (hp : g ≠ p.block) (u : Value) : Blk (w.setCell p u) g t cs := (Below.heap_setCell w p u g hp).trans h
theorem Blk.below {B : Nat} (h : Blk w g t cs) (hb : Below B w w') (hg : g < B) : Blk w' g t cs := (hb.block g hg).trans h
theorem Blk.grown {row : Option Nat} (h : Blk w g t cs) (hb : w.grownBy w' row) (hg : some g ≠ row) : Blk w' g t cs := (hb.block g h.lt hg).trans h
end
theorem only_drewN {a w : World} {row : Option Nat} (h : a.grownBy w row) (n : Nat) : a.grownBy (w.drewN n) row := ⟨h.os, h.tape, h.output, h.size, h.block⟩
theorem only_alloc {a w : World} {row : Option Nat} (h : a.grownBy w row) (o : Obj) : a.grownBy (w.alloc o) row :=
 ⟨h.os, h.tape, h.output, Nat.le_trans h.size (by simp), fun i hi hne => (Below.heap_alloc w o i (Nat.lt_of_lt_of_le hi h.size)).trans (h.block i hi hne)⟩
theorem only_setCell {a w : World} {g : Nat} (h : a.grownBy w (some g)) {p : Addr} (hp : p.block = g ∨ a.heap.size ≤ p.block) (u : Value) : a.grownBy (w.setCell p u) (some g) :=
 ⟨h.os, h.tape, h.output, by simpa [World.setCell] using h.size, fun i hi hne => (Below.heap_setCell w p u i (by
  rintro rfl
  rcases hp with hp | hp
  ·exact hne (by rw [hp])
  ·omega)).trans (h.block i hi hne)⟩
theorem int_bne (a b : Nat) : ((a : Int) != (b : Int)) = (a != b) := by
 rw [Bool.eq_iff_iff]; simp; omega
theorem setCell_some (w : World) (p q : Addr) (x v : Value) (h : w.cell? q = some v) : ∃ v', ∀ k, ((w.drewN k).setCell p x).cell? q = some v' := by
 obtain ⟨v', hv⟩ := cell?_setCell_some (w := w) (p := p) (x := x) (q := q) (v := v) h
 exact ⟨v', fun _ => hv⟩
theorem ret_int {k : IntKind} {a b : Int} (h : a = b) : Ending.returned (.int k a) = .returned (.int k b) := by rw [h]
theorem ret_bool {a b : Bool} (h : a = b) : Ending.returned (.bool a) = .returned (.bool b) := by rw [h]
def edgeCells (es : List (Int × Int)) : List Value := es.flatMap fun e => [.int .i64 e.1, .int .i64 e.2]
theorem edgeCells_length (es : List (Int × Int)) : (edgeCells es).length = 2 * es.length := by
 unfold edgeCells; induction es with
 | nil => rfl
 | cons e r ih => simp only [List.flatMap_cons, List.length_append, List.length_cons, List.length_nil, ih]; omega
theorem edgeCells_at (es : List (Int × Int)) (k : Nat) (h : k < es.length) :
  (edgeCells es)[2 * k]? = some (.int .i64 es[k].1) ∧ (edgeCells es)[2 * k + 1]? = some (.int .i64 es[k].2) := by
 induction es generalizing k with
 | nil => simp at h
 | cons e r ih =>
  have e0 : edgeCells (e :: r) = .int .i64 e.1 :: .int .i64 e.2 :: edgeCells r := rfl
  rw [e0]
  cases k with
  | zero => simp
  | succ k =>
   have := ih k (by simpa using h)
   have e1 : 2 * (k + 1) = 2 * k + 1 + 1 := by omega
   rw [e1]
   simpa using this
theorem Cells.edges {w : World} {B : Nat} {A : Option Addr} {es : List (Int × Int)} (h : Cells w B A (edgeCells es)) (hn : 0 < es.length) :
  ∃ b off, A = some ⟨b, off, none⟩ ∧ b < B ∧ ∀ k (hk : k < es.length), w.cell? ⟨b, off + k * 2, none⟩ = some (.int .i64 es[k].1) ∧ w.cell? ⟨b, off + k * 2 + 1, none⟩ = some (.int .i64 es[k].2) := by
 obtain ⟨b, off, e, hb, hc⟩ := h (by rw [edgeCells_length]; omega)
 refine ⟨b, off, e, hb, fun k hk => ?_⟩
 obtain ⟨h1, h2⟩ := edgeCells_at es k hk
 have a := hc _ _ h1
 have b := hc _ _ h2
 rw [Nat.mul_comm k 2]
 exact ⟨a, b⟩
def Elem (P : Program) (t e : TypeId) (z : Value) (size bytes : Nat) : Prop :=
 ∃ i, P.underlying t = some (.slice e) ∧ P.info? e = some i ∧ i.zero = some z ∧ i.size = size ∧ i.bytes = bytes ∧ z.cells.size = size ∧ 0 < size
theorem Elem.mk' {P : Program} {t e : TypeId} {z : Value} {size bytes : Nat} (h1 : P.underlying t = some (.slice e)) (h2 : (P.info? e).map (fun i => (i.zero, i.size, i.bytes)) = some (some z, size, bytes)) (h3 : z.cells.size = size) (h4 : 0 < size) : Elem P t e z size bytes := by
 obtain ⟨i0, hi, hz0, hz1, hz2⟩ := info_parts h2
 exact ⟨i0, h1, hi, hz0, hz1, hz2, h3, h4⟩
theorem wp_app {P : Program} {w : World} {ops : Array Oper} {rest : List Oper} {o : Oper} {a : Act} {Q : Exit → Act → World → Prop} {t e : TypeId} {z : Value} {size bytes : Nat} (hE : Elem P t e z size bytes)
  (hgd : o.guard = none) (s x : Operand) (ho : o.op = .call { callee := .builtin .append, args := #[s, x], argTypes := #[t, t] })
  (base : Nat) (v : Value) (n : Nat) (xs : List Value) (hs : a.eval s = v) (g : Nat) (news : List Value) (hx : a.eval x = .slice (some ⟨g, 0, none⟩) 1 1) (hgs : g = w.heap.size)
  (hown : w.ownsRow base e size v n xs) (hl : news.length = size) (h1 : news.all (fun u => u.oneCell') = true)
  (h63 : (n + 1) * bytes ≤ 140737488355328) (hn63 : n + 1 ≤ 9223372036854775807) (hbase : base ≤ w.heap.size)
  (h : ∀ v' w', w'.ownsRow base e size v' (n + 1) (xs ++ news) → w.grownBy w' v.ownBlock → (v'.ownBlock = v.ownBlock ∨ v'.ownBlock = some (g + 1)) → wpList P ops Q rest (a.put o.dst v') w') :
  wpList P ops Q (o :: rest) a (w.alloc (.cells news.toArray e)) := by
 subst hgs
 obtain ⟨i, ht, hi, hz, hsize, hby, hzs, hsz⟩ := hE
 have hc : ∀ j u, news[j]? = some u → (w.alloc (.cells news.toArray e)).cell? ((⟨w.heap.size, 0, none⟩ : Addr).add j) = some u := by
  intro j u hj
  have e1 : (⟨w.heap.size, 0, none⟩ : Addr).add j = ⟨w.heap.size, j, none⟩ := by unfold Addr.add; split <;> simp_all
  rw [e1, World.cell?_alloc_new]; simpa using hj
 refine wpList_append_own_at _ hgd s x t ho base e i z size bytes ht hi hz hsize hby hzs hsz v n xs hs (hown.alloc _) ⟨w.heap.size, 0, none⟩ 1 1 news hx (by omega) hc (fun u hu => List.all_eq_true.1 h1 u hu) (by unfold maxLen; omega) h63 (by simp; omega) ?_
 intro v' w' h2 h3 _ h5
 exact h v' w' h2 ((World.grownBy_alloc w _ _).trans h3) (by simpa using h5)
theorem below_app {B base n size : Nat} {a w w' : World} {v : Value} {e : TypeId} {xs : List Value} (h : Below B a w) (hown : w.ownsRow base e size v n xs) (hg : w.grownBy w' v.ownBlock) (hB : B ≤ w.heap.size) (hb : B ≤ base) : Below B a w' :=
 h.grown hg hB (fun k hk => by have := (hown.lt k hk).1; omega)
theorem own_blk {w : World} {base size n : Nat} {e : TypeId} {v : Value} {xs : List Value} (h : w.ownsRow base e size v n xs) (hn : 0 < n) :
  ∃ g cap R, v = .slice (some ⟨g, 0, none⟩) n cap ∧ base ≤ g ∧ Blk w g e (xs.toArray ++ R) ∧ xs.length + R.size = cap * size ∧ n ≤ cap ∧ cap ≤ maxLen ∧ xs.length = n * size := by
 obtain ⟨hl, ⟨rfl, h0⟩ | ⟨g, cap, cur, rfl, hb, hg, hnc, hcm, hcs, htake⟩⟩ := h
 ·omega
 ·have hle : n * size ≤ cap * size := Nat.mul_le_mul_right _ hnc
  refine ⟨g, cap, (cur.toList.drop (n * size)).toArray, rfl, hb, ?_, ?_, hnc, hcm, hl⟩
  ·unfold Blk
   rw [hg]
   have : cur = xs.toArray ++ (cur.toList.drop (n * size)).toArray := by
    rw [← htake]; simp
   rw [← this]
  ·simp [hl, hcs]; omega
theorem blk_own {w : World} {base size n g cap : Nat} {e : TypeId} {xs : List Value} {R : Array Value} (hb : base ≤ g) (h : Blk w g e (xs.toArray ++ R)) (h1 : xs.length + R.size = cap * size) (h2 : n ≤ cap) (h3 : cap ≤ maxLen) (h4 : xs.length = n * size) :
  w.ownsRow base e size (.slice (some ⟨g, 0, none⟩) n cap) n xs :=
 ⟨h4, .inr ⟨g, cap, _, rfl, hb, h, h2, h3, by simpa using h1, by rw [← h4]; simp⟩⟩
theorem own_mono {w : World} {base base' size n : Nat} {e : TypeId} {v : Value} {xs : List Value} (h : w.ownsRow base e size v n xs) (hb : base' ≤ base) : w.ownsRow base' e size v n xs := by
 obtain ⟨h1, h2⟩ := h
 refine ⟨h1, ?_⟩
 rcases h2 with h2 | ⟨g, cap, cur, hv, hg, r⟩
 ·exact Or.inl h2
 ·exact Or.inr ⟨g, cap, cur, hv, by omega, r⟩
theorem own_below {w w' : World} {base B size n : Nat} {e : TypeId} {v : Value} {xs : List Value} (h : w.ownsRow base e size v n xs) (hb : Below B w w') (hB : w.heap.size ≤ B) : w'.ownsRow base e size v n xs := by
 obtain ⟨h1, h2⟩ := h
 refine ⟨h1, ?_⟩
 rcases h2 with h2 | ⟨g, cap, cur, hv, hg, hh, r⟩
 ·exact Or.inl h2
 ·exact Or.inr ⟨g, cap, cur, hv, hg, by rw [hb.block g (Nat.lt_of_lt_of_le (Blk.lt (t := e) (cs := cur) hh) hB)]; exact hh, r⟩
theorem quiet_left {P : Program} {f : FuncId} {args : Array Value} {w : World} {n : Nat} {v : Value}
  (h : Calls P f args (w.drewN n) fun e w' => e = .returned v ∧ w.drewN n = w') : Calls P f args (w.drewN n) fun e w'' => e = .returned v ∧ ∃ m, w'' = w.drewN m :=
 h.mono fun _ _ ⟨he, hm⟩ => ⟨he, n, hm.symm⟩
theorem run_make1 {P : Program} {t e : TypeId} {z : Value} {bytes : Nat} (hE : Elem P t e z 1 bytes) (hz : z.cells = #[z]) (n : Nat) (hb : bytes * n ≤ 281474976710656) (h63 : n ≤ 9223372036854775807) (W : World) :
  (Instr.makeSlice t (.int .i64 (n : Int)) (.int .i64 (n : Int))).run P W = .ok (.slice (some ⟨W.heap.size, 0, none⟩) n n) (W.alloc (.cells (List.replicate n z).toArray e)) := by
 obtain ⟨i, ht, hi, hz0, hsize, hby, hzs, hsz⟩ := hE
 have h : (i.bytes : Int) * (n : Int) ≤ 281474976710656 := by
  have : ((i.bytes * n : Nat) : Int) ≤ 281474976710656 := by rw [hby]; omega
  rwa [Int.natCast_mul] at this
 have hr := run_make (P := P) W t e i z ht hi hz0 .i64 .i64 n n (by omega) (by omega) h (by omega)
 simp only [Int.toNat_natCast, hsize, Nat.mul_one, hz] at hr
 rw [hr]
 have e1 : madeCells #[z] n = (List.replicate n z).toArray := by
  rw [← toList_madeCells_one]
 rw [e1]
def boolCells (l : List Bool) : List Value := l.map Value.bool
theorem boolCells_replicate (n : Nat) (b : Bool) : (List.replicate n (Value.bool b)) = boolCells (List.replicate n b) := by simp [boolCells]
theorem Cells.bools {w : World} {B : Nat} {A : Option Addr} {l : List Bool} (h : Cells w B A (boolCells l)) (hn : 0 < l.length) :
  ∃ b off, A = some ⟨b, off, none⟩ ∧ b < B ∧ ∀ k (_ : k < l.length), w.cell? ⟨b, off + k, none⟩ = some (.bool (l.getD k false)) := by
 obtain ⟨b, off, e, hb, hc⟩ := h (by simpa [boolCells] using hn)
 exact ⟨b, off, e, hb, fun k hk => hc k _ (by simp [boolCells, hk])⟩
theorem Blk.bool {w : World} {g : Nat} {t : TypeId} {l : List Bool} (h : Blk w g t (boolCells l).toArray) {k : Nat} (hk : k < l.length) : w.cell? ⟨g, k, none⟩ = some (.bool (l.getD k false)) := by
 rw [h.cell k]; simp [boolCells, hk]
theorem Blk.setBool {w : World} {g : Nat} {t : TypeId} {l : List Bool} (h : Blk w g t (boolCells l).toArray) (k : Nat) (b : Bool) : Blk (w.setCell ⟨g, k, none⟩ (.bool b)) g t (boolCells (l.set k b)).toArray := by
 have := h.set_ k (.bool b)
 simpa [boolCells, List.map_set] using this
theorem Cells.of_blk {w : World} {g : Nat} {t : TypeId} {xs : List Value} {R : Array Value} (h : Blk w g t (xs.toArray ++ R)) : Cells w (g + 1) (some ⟨g, 0, none⟩) xs := fun _ =>
 ⟨g, 0, rfl, by omega, fun j u hj => by
  rw [Nat.zero_add, h.cell j]
  obtain ⟨hl, hu⟩ := List.getElem?_eq_some_iff.1 hj
  rw [Array.getElem?_append_left (by simpa using hl)]
  simp [hj]⟩
end Go.Proofs.YtneeknlhlkpnpaaGreat
