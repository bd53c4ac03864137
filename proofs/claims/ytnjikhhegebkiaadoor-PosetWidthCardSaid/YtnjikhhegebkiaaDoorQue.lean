/-
  A row of ints of the call's own, whose first elements may have been cut off. Written by an AI agent.
-/
import Derived.Test.YtnjikhhegebkiaaDoorSlices
import Derived.ArgAppend
namespace Go.Proofs.YtnjikhhegebkiaaDoor
open Go.RowKit

/-- the ints of l, from somewhere in a block of the call's own -/
def Que (w : World) (base : Nat) (v : Value) (l : List Int) : Prop :=
  (v = .slice none 0 0 ∧ l = []) ∨ ∃ g off cap cs, v = .slice (some ⟨g, off, none⟩) l.length cap ∧ base ≤ g ∧ Blk w g 3 cs ∧ l.length ≤ cap ∧ off + cap ≤ cs.size ∧ ∀ j (h : j < l.length), cs[off + j]? = some (.int .i64 l[j])
section
variable {w w' : World} {base : Nat} {v : Value} {l : List Int}
theorem Que.nil (w : World) (base : Nat) : Que w base (.slice none 0 0) [] := .inl ⟨rfl, rfl⟩
theorem Que.slice (h : Que w base v l) : ∃ A c, v = .slice A l.length c := by
  rcases h with ⟨rfl, rfl⟩ | ⟨g, off, cap, cs, rfl, _⟩
  · exact ⟨_, _, rfl⟩
  · exact ⟨_, _, rfl⟩
theorem Que.block (h : Que w base v l) {k : Nat} (hk : v.ownBlock = some k) : base ≤ k ∧ k < w.heap.size := by
  rcases h with ⟨rfl, _⟩ | ⟨g, off, cap, cs, rfl, hb, hB, _⟩
  · simp [Value.ownBlock] at hk
  · simp [Value.ownBlock] at hk
    subst hk
    exact ⟨hb, hB.lt⟩
theorem Que.keep (h : Que w base v l) (hk : ∀ k, v.ownBlock = some k → w'.heap[k]? = w.heap[k]?) : Que w' base v l := by
  rcases h with h | ⟨g, off, cap, cs, rfl, hb, hB, r⟩
  · exact .inl h
  · exact .inr ⟨g, off, cap, cs, rfl, hb, (hk g rfl).trans hB, r⟩
theorem Que.below {B : Nat} (h : Que w base v l) (hb : Below B w w') (hB : w.heap.size ≤ B) : Que w' base v l :=
  h.keep fun k hk => hb.block k (by have := (h.block hk).2; omega)
theorem Que.mono {b' : Nat} (h : Que w base v l) (hb : b' ≤ base) : Que w b' v l := by
  rcases h with h | ⟨g, off, cap, cs, rfl, hb', hB, r⟩
  · exact .inl h
  · exact .inr ⟨g, off, cap, cs, rfl, by omega, hB, r⟩
/-- its first element lies where the slice begins, and what follows is one too -/
theorem Que.uncons {x : Int} (h : Que w base v (x :: l)) : ∃ g off cap, v = .slice (some ⟨g, off, none⟩) (l.length + 1) cap ∧ l.length + 1 ≤ cap ∧ w.cell? ⟨g, off, none⟩ = some (.int .i64 x) ∧
    Que w base (.slice (if cap = 1 then some ⟨g, off, none⟩ else some ⟨g, off + 1, none⟩) l.length (cap - 1)) l := by
  rcases h with ⟨_, h⟩ | ⟨g, off, cap, cs, rfl, hb, hB, h1, h2, h3⟩
  · cases h
  · rw [List.length_cons] at h1
    refine ⟨g, off, cap, rfl, h1, ?_, ?_⟩
    · rw [hB.cell]
      have := h3 0 (by simp)
      simpa using this
    · refine .inr ⟨g, (if cap = 1 then off else off + 1), cap - 1, cs, ?_, hb, hB, by omega, ?_, fun j hj => ?_⟩
      · split <;> rfl
      · split <;> omega
      · have h4 : ¬ cap = 1 := by omega
        rw [if_neg h4]
        have := h3 (j + 1) (by simp; omega)
        simp only [List.getElem_cons_succ] at this
        rw [← this]
        congr 1
        omega
end
theorem Que.app (ty : TypeId) {w : World} {base : Nat} {v : Value} {l : List Int} (h : Que w base v l) {B : Nat} {A : Option Addr} {c : Nat} {x : Int} (hr : Cells w B A [.int .i64 x]) (hl : l.length + 1 ≤ 1000000) (hbase : base ≤ w.heap.size) :
    ∃ v' w', (Builtin.append_ #[31, 31] ty #[v, .slice A 1 c]).run Tryd.prog w = .ok v' w' ∧ Que w' base v' (l ++ [x]) ∧ w.grownBy w' v.ownBlock ∧ (v'.ownBlock = v.ownBlock ∨ ∃ k, v'.ownBlock = some k ∧ w.heap.size ≤ k) := by
  obtain ⟨i, ht, hi, hz, hsize, hby, hzs, hsz⟩ := elemInt
  obtain ⟨b, o, rfl, hb, hc⟩ := hr (by simp)
  have hcc : ∀ j u, [Value.int .i64 x][j]? = some u → w.cell? ((⟨b, o, none⟩ : Addr).add j) = some u := fun j u hu => by
    rw [show (⟨b, o, none⟩ : Addr).add j = ⟨b, o + j, none⟩ by unfold Addr.add; split <;> simp_all]
    exact hc j u hu
  have own : ∀ v' w', w'.ownsRow w.heap.size 3 1 v' (l.length + 1) (intCells l ++ [.int .i64 x]) → Que w' base v' (l ++ [x]) ∧ ∃ k, v'.ownBlock = some k ∧ w.heap.size ≤ k := fun v' w' ho => by
    obtain ⟨g, cap, R, rfl, hg, hB, h1, h2, _, h4⟩ := own_blk ho (by omega)
    refine ⟨.inr ⟨g, 0, cap, _, by simp, by omega, hB, by simpa using h2, ?_, fun j hj => ?_⟩, g, rfl, hg⟩
    · simp only [Array.size_append, List.size_toArray]; omega
    · have hj' : j < l.length + 1 := by simpa using hj
      rw [show intCells l ++ [Value.int .i64 x] = intCells (l ++ [x]) by simp [intCells], Nat.zero_add, Array.getElem?_append_left (by simp [intCells]; omega)]
      rw [List.getElem?_toArray]
      unfold intCells
      rw [List.getElem?_map, List.getElem?_eq_getElem hj]
      rfl
  rcases h with ⟨rfl, rfl⟩ | ⟨g, off, cap, cs, rfl, hbg, hB, h1, h2, h3⟩
  · obtain ⟨v', w', hrun, ho, hg, _, h5⟩ := run_append_own_at (P := Tryd.prog) w w.heap.size 31 ty 3 i _ 1 8 ht hi hz hsize hby hzs hsz (.slice none 0 0) 0 [] (World.ownsRow_nil _ _ _ _) ⟨b, o, none⟩ 1 c [.int .i64 x] rfl hcc (by simp [Value.oneCell']) (by unfold maxLen; omega) (by omega) (Nat.le_refl _)
    obtain ⟨q, k, hk, hk2⟩ := own v' w' (by simpa [intCells] using ho)
    exact ⟨v', w', hrun, q, hg, .inr ⟨k, hk, hk2⟩⟩
  · by_cases hroom : l.length + 1 ≤ cap
    · have hrun := run_append_room_cells (P := Tryd.prog) w 31 ty 3 i ht hi g off l.length cap ⟨b, o, none⟩ 1 c [.int .i64 x] (by rw [hsize]; rfl) hcc (by simp [Value.oneCell']) hroom
        (fun j hj => by
          have : j = 0 := by simpa using hj
          subst this
          rw [hsize, Nat.add_zero, Nat.mul_one, hB.cell, Array.getElem?_eq_getElem (by omega)]
          rfl)
        (fun j hj => hB.frozen _)
      rw [hsize, Nat.mul_one] at hrun
      have hset : w.setCells g (off + l.length) [.int .i64 x] = w.setCell ⟨g, off + l.length, none⟩ (.int .i64 x) := by
        simp [World.setCells]
      rw [hset] at hrun
      refine ⟨_, _, hrun, .inr ⟨g, off, cap, _, by simp, hbg, hB.set_ (off + l.length) (.int .i64 x), by simpa using hroom, by simpa using h2, fun j hj => ?_⟩, ?_, .inl rfl⟩
      · rw [Array.getElem?_setIfInBounds]
        by_cases hjl : j < l.length
        · rw [if_neg (by omega), h3 j hjl]
          simp [List.getElem_append_left hjl]
        · have : j = l.length := by simp at hj; omega
          subst this
          rw [if_pos rfl, if_pos (by omega)]
          simp
      · exact only_setCell (World.grownBy.refl w (some g)) (p := ⟨g, off + l.length, none⟩) (.inl rfl) _
    · obtain ⟨v', w', hrun, ho, hg⟩ := run_append_arg_grows (P := Tryd.prog) w 31 ty 3 i _ 1 8 ht hi hz hsize hby hzs hsz ⟨g, off, none⟩ l.length cap (intCells l) (by simp [intCells]) (fun j u hu => by
          rw [show (⟨g, off, none⟩ : Addr).add j = ⟨g, off + j, none⟩ by unfold Addr.add; split <;> simp_all]
          unfold intCells at hu
          rw [List.getElem?_map, Option.map_eq_some_iff] at hu
          obtain ⟨a, ha, rfl⟩ := hu
          obtain ⟨hj, rfl⟩ := List.getElem?_eq_some_iff.1 ha
          rw [hB.cell, h3 j hj]) ⟨b, o, none⟩ 1 c [.int .i64 x] rfl hcc (by omega) (by unfold maxLen; omega) (by omega)
      obtain ⟨q, k, hk, hk2⟩ := own v' w' ho
      exact ⟨v', w', hrun, q, ⟨hg.os, hg.tape, hg.output, hg.size, fun k hk _ => hg.block k hk (by simp)⟩, .inr ⟨k, hk, hk2⟩⟩
theorem wp_que {w : World} {ops : Array Oper} {rest : List Oper} {o : Oper} {a : Act} {Q : Exit → Act → World → Prop} (hgd : o.guard = none) (s x : Operand)
    (ho : o.op = .call { callee := .builtin .append, args := #[s, x], argTypes := #[31, 31] })
    {base : Nat} {v : Value} {l : List Int} (hs : a.eval s = v) (hq : Que w base v l)
    {B : Nat} {A : Option Addr} {c : Nat} {z : Int} (hx : a.eval x = .slice A 1 c) (hr : Cells w B A [.int .i64 z]) (hl : l.length + 1 ≤ 1000000) (hbase : base ≤ w.heap.size)
    (h : ∀ v' w', Que w' base v' (l ++ [z]) → w.grownBy w' v.ownBlock → (v'.ownBlock = v.ownBlock ∨ ∃ k, v'.ownBlock = some k ∧ w.heap.size ≤ k) → wpList Tryd.prog ops Q rest (a.put o.dst v') w') : wpList Tryd.prog ops Q (o :: rest) a w :=
  wpList_plain hgd fun _ hK => by
    obtain ⟨v', w', hrun, h2, h3, h4⟩ := hq.app o.type (c := c) hr hl hbase
    unfold Oper.wp execOp
    simp only [ho, resolve, invoke, builtin, Sem.run_bind, Sem.run_pure, Result.andThen_ok, List.map_toArray, List.map_cons, List.map_nil, hs, hx, hrun]
    exact hK _ _ (h v' w' h2 h3 h4)
end Go.Proofs.YtnjikhhegebkiaaDoor
