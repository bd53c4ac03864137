/-
  The coder in memory; next, put, count, get, number: what they compute. Written by an AI agent.
-/
import Derived.Test.YtmlbjcngboegfaaApp
import Derived.Test.YtmlbjcngboegfaaModel
namespace Go.Proofs.Ytmlbjcngboegfaa
open Go.RowKit

theorem own_slice {w : World} {base size n : Nat} {t : TypeId} {v : Value} {xs : List Value} (h : w.ownsRow base t size v n xs) : ∃ A c, v = .slice A n c := by
  rcases h.2 with ⟨rfl, rfl⟩ | ⟨g, cap, cur, rfl, _⟩
  · exact ⟨none, 0, rfl⟩
  · exact ⟨_, _, rfl⟩
def byteCells (l : List Int) : List Value := l.map (Value.int .u8)
theorem byteCells_length (l : List Int) : (byteCells l).length = l.length := by simp [byteCells]
theorem byteCells_append (a b : List Int) : byteCells (a ++ b) = byteCells a ++ byteCells b := by simp [byteCells]
def Bytes (l : List Int) : Prop := ∀ b ∈ l, 0 ≤ b ∧ b < 256

/-- nothing but the blocks of K (and what is new) has turned -/
structure Only (K : Nat → Prop) (w w' : World) : Prop where
  os : w'.os = w.os
  tape : w'.tape = w.tape
  output : w'.output = w.output
  size : w.heap.size ≤ w'.heap.size
  block : ∀ i, i < w.heap.size → ¬ K i → w'.heap[i]? = w.heap[i]?
section
variable {K K' : Nat → Prop} {w w' w'' : World}
theorem Only.refl (K : Nat → Prop) (w : World) : Only K w w := ⟨rfl, rfl, rfl, Nat.le_refl _, fun _ _ _ => rfl⟩
theorem Only.trans (h : Only K w w') (h' : Only K' w' w'') (hK : ∀ i, i < w.heap.size → K' i → K i) : Only K w w'' :=
  ⟨h'.os.trans h.os, h'.tape.trans h.tape, h'.output.trans h.output, Nat.le_trans h.size h'.size, fun i hi hk => (h'.block i (Nat.lt_of_lt_of_le hi h.size) (fun h => hk (hK i hi h))).trans (h.block i hi hk)⟩
theorem Only.mono (h : Only K w w') (hK : ∀ i, i < w.heap.size → K i → K' i) : Only K' w w' := ⟨h.os, h.tape, h.output, h.size, fun i hi hk => h.block i hi fun h => hk (hK i hi h)⟩
theorem Only.below {B : Nat} (h : Only K w w') (hB : B ≤ w.heap.size) (hK : ∀ i, K i → B ≤ i) : Below B w w' := ⟨h.os, h.tape, h.output, h.size, fun i hi => h.block i (by omega) fun hk => by have := hK i hk; omega⟩
theorem Only.grown {o : Option Nat} (h : w.grownBy w' o) : Only (fun i => o = some i) w w' := ⟨h.os, h.tape, h.output, h.size, fun i hi hk => h.block i hi fun e => hk e.symm⟩
theorem Only.set_ (w : World) (g i : Nat) (u : Value) : Only (fun k => k = g) w (w.setCell ⟨g, i, none⟩ u) := ⟨rfl, rfl, rfl, by simp [World.setCell], fun k _ hk => Below.heap_setCell w _ u k hk⟩
theorem Only.alloc (w : World) (o : Obj) : Only (fun _ => False) w (w.alloc o) := ⟨rfl, rfl, rfl, by simp, fun k hk _ => Below.heap_alloc w o k hk⟩
theorem Only.of_below (h : Below w.heap.size w w') : Only (fun _ => False) w w' := ⟨h.os, h.tape, h.output, h.size, fun k hk _ => h.block k hk⟩
theorem Only.drew (h : Only K w w') : Only K w w'.drew := ⟨h.os, h.tape, h.output, h.size, h.block⟩
theorem Only.undrew (h : Only K w.drew w') : Only K w w' := ⟨h.os, h.tape, h.output, h.size, h.block⟩
theorem Only.drewN (h : Only K w w') (n : Nat) : Only K w (w'.drewN n) := ⟨h.os, h.tape, h.output, h.size, h.block⟩
theorem Blk.only {g : Nat} {t : TypeId} {cs : Array Value} (h : Blk w g t cs) (ho : Only K w w') (hk : ¬ K g) : Blk w' g t cs := (ho.block g h.lt hk).trans h
theorem own_only {base size n : Nat} {e : TypeId} {v : Value} {xs : List Value} (h : w.ownsRow base e size v n xs) (ho : Only K w w') (hk : ∀ g, v.ownBlock = some g → ¬ K g) : w'.ownsRow base e size v n xs := by
  obtain ⟨h1, h2⟩ := h
  refine ⟨h1, ?_⟩
  rcases h2 with h2 | ⟨g, cap, cur, hv, hg, hh, r⟩
  · exact Or.inl h2
  · refine Or.inr ⟨g, cap, cur, hv, hg, ?_, r⟩
    rw [ho.block g (Blk.lt (t := e) (cs := cur) hh) (hk g (by rw [hv]; rfl))]
    exact hh
theorem Cells.only {B : Nat} {A : Option Addr} {xs : List Value} (h : Cells w B A xs) (ho : Only K w w') (hB : B ≤ w.heap.size) (hk : ∀ i, K i → B ≤ i) : Cells w' B A xs := h.below (ho.below hB hk)
end

/-- the coder in memory: its block gc, what it reads from (below B), what it writes (its own) -/
structure Coder (w : World) (B gc : Nat) (rd : Bool) (A : Option Addr) (c : Nat) (ov : Value) (s : CS) : Prop where
  blk : Blk w gc 53 #[.bool rd, .slice A s.inn.length c, ov, .bool s.bad]
  ins : Cells w B A (byteCells s.inn)
  cap : s.inn.length ≤ c
  own : w.ownsRow B 5 1 ov s.out.length (byteCells s.out)
  ne : ov.ownBlock ≠ some gc
  ge : B ≤ gc
  byt : Bytes s.inn
def coderK (gc : Nat) (ov : Value) (X : Nat → Prop) (i : Nat) : Prop := i = gc ∨ ov.ownBlock = some i ∨ X i
/-- a step of the coder: only its block, what it writes, and the blocks of X have turned -/
def Ran (B gc : Nat) (rd : Bool) (ov : Value) (X : Nat → Prop) (w w' : World) (s' : CS) : Prop :=
  ∃ A c ov', Coder w' B gc rd A c ov' s' ∧ Only (coderK gc ov X) w w' ∧ ∀ i, i < w.heap.size → ov'.ownBlock = some i → ov.ownBlock = some i
section
variable {B gc : Nat} {rd : Bool} {A : Option Addr} {c : Nat} {ov : Value} {s : CS} {w w' : World} {X : Nat → Prop}
theorem Coder.c0 (h : Coder w B gc rd A c ov s) : w.cell? ⟨gc, 0, none⟩ = some (.bool rd) := h.blk.cell 0
theorem Coder.c1 (h : Coder w B gc rd A c ov s) : w.cell? ⟨gc, 1, none⟩ = some (.slice A s.inn.length c) := h.blk.cell 1
theorem Coder.c2 (h : Coder w B gc rd A c ov s) : w.cell? ⟨gc, 2, none⟩ = some ov := h.blk.cell 2
theorem Coder.c3 (h : Coder w B gc rd A c ov s) : w.cell? ⟨gc, 3, none⟩ = some (.bool s.bad) := h.blk.cell 3
theorem Coder.lt (h : Coder w B gc rd A c ov s) : gc < w.heap.size := h.blk.lt
theorem Coder.olt (h : Coder w B gc rd A c ov s) : ∀ i, ov.ownBlock = some i → B ≤ i ∧ i < w.heap.size := fun i hi => h.own.lt i hi
theorem Coder.only {K : Nat → Prop} (h : Coder w B gc rd A c ov s) (ho : Only K w w') (h1 : ¬ K gc) (h2 : ∀ g, ov.ownBlock = some g → ¬ K g) (h3 : ∀ i, K i → B ≤ i) : Coder w' B gc rd A c ov s :=
  ⟨h.blk.only ho h1, h.ins.only ho (Nat.le_trans h.ge (Nat.le_of_lt h.lt)) h3, h.cap, own_only h.own ho h2, h.ne, h.ge, h.byt⟩
theorem Coder.drewN (h : Coder w B gc rd A c ov s) (n : Nat) : Coder (w.drewN n) B gc rd A c ov s := ⟨h.blk, h.ins, h.cap, h.own, h.ne, h.ge, h.byt⟩
theorem Coder.drew (h : Coder w B gc rd A c ov s) : Coder w.drew B gc rd A c ov s := ⟨h.blk, h.ins, h.cap, h.own, h.ne, h.ge, h.byt⟩
theorem Coder.undrew (h : Coder w.drew B gc rd A c ov s) : Coder w B gc rd A c ov s := ⟨h.blk, h.ins, h.cap, h.own, h.ne, h.ge, h.byt⟩
theorem Coder.bad_ (h : Coder w B gc rd A c ov s) : Coder (w.setCell ⟨gc, 3, none⟩ (.bool true)) B gc rd A c ov ⟨s.inn, s.out, true⟩ :=
  ⟨h.blk.set_ 3 (.bool true), h.ins.only (Only.set_ w gc 3 _) (Nat.le_trans h.ge (Nat.le_of_lt h.lt)) (fun i hi => by subst hi; exact h.ge), h.cap,
    own_only h.own (Only.set_ w gc 3 _) (fun g hg e => h.ne (by rw [hg, e])), h.ne, h.ge, h.byt⟩
theorem Coder.in_ {A' : Option Addr} {c' : Nat} {i : List Int} (h : Coder w B gc rd A c ov s) (h1 : Cells w B A' (byteCells i)) (h2 : i.length ≤ c') (h3 : Bytes i) : Coder (w.setCell ⟨gc, 1, none⟩ (.slice A' i.length c')) B gc rd A' c' ov ⟨i, s.out, s.bad⟩ :=
  ⟨h.blk.set_ 1 _, h1.only (Only.set_ w gc 1 _) (Nat.le_trans h.ge (Nat.le_of_lt h.lt)) (fun i hi => by subst hi; exact h.ge), h2,
    own_only h.own (Only.set_ w gc 1 _) (fun g hg e => h.ne (by rw [hg, e])), h.ne, h.ge, h3⟩
/-- behind an append to what is written -/
theorem Coder.out_ {v' : Value} {bs : List Int} (h : Coder w B gc rd A c ov s) (hg : w.grownBy w' ov.ownBlock) (ho : w'.ownsRow B 5 1 v' (s.out.length + bs.length) (byteCells s.out ++ byteCells bs)) (hf : ∀ i, i < w.heap.size → v'.ownBlock = some i → ov.ownBlock = some i) :
    Coder (w'.setCell ⟨gc, 2, none⟩ v') B gc rd A c v' ⟨s.inn, s.out ++ bs, s.bad⟩ := by
  have hne : v'.ownBlock ≠ some gc := fun e => h.ne (hf gc h.lt e)
  refine ⟨(h.blk.only (Only.grown hg) h.ne).set_ 2 v', (h.ins.only (Only.grown hg) (Nat.le_trans h.ge (Nat.le_of_lt h.lt)) (fun i hi => (h.olt i hi).1)).only (Only.set_ w' gc 2 _) (Nat.le_trans h.ge (Nat.le_of_lt (Nat.lt_of_lt_of_le h.lt hg.size))) (fun i hi => by subst hi; exact h.ge), h.cap, ?_, hne, h.ge, h.byt⟩
  have := own_only ho (Only.set_ w' gc 2 v') (fun g hg e => hne (by rw [hg, e]))
  simp only [List.length_append, byteCells_append]
  exact this
theorem Ran.refl (h : Coder w B gc rd A c ov s) : Ran B gc rd ov X w w s := ⟨A, c, ov, h, Only.refl _ _, fun _ _ h => h⟩
theorem Ran.bad_ (h : Coder w B gc rd A c ov s) : Ran B gc rd ov X w (w.setCell ⟨gc, 3, none⟩ (.bool true)) ⟨s.inn, s.out, true⟩ :=
  ⟨A, c, ov, h.bad_, (Only.set_ w gc 3 _).mono fun i _ hi => .inl hi, fun _ _ h => h⟩
theorem Ran.in_ {A' : Option Addr} {c' : Nat} {i : List Int} (h : Coder w B gc rd A c ov s) (h1 : Cells w B A' (byteCells i)) (h2 : i.length ≤ c') (h3 : Bytes i) : Ran B gc rd ov X w (w.setCell ⟨gc, 1, none⟩ (.slice A' i.length c')) ⟨i, s.out, s.bad⟩ :=
  ⟨A', c', ov, h.in_ h1 h2 h3, (Only.set_ w gc 1 _).mono fun i _ hi => .inl hi, fun _ _ h => h⟩
theorem Ran.out_ {v' : Value} {bs : List Int} (h : Coder w B gc rd A c ov s) (hg : w.grownBy w' ov.ownBlock) (ho : w'.ownsRow B 5 1 v' (s.out.length + bs.length) (byteCells s.out ++ byteCells bs)) (hf : ∀ i, i < w.heap.size → v'.ownBlock = some i → ov.ownBlock = some i) :
    Ran B gc rd ov X w (w'.setCell ⟨gc, 2, none⟩ v') ⟨s.inn, s.out ++ bs, s.bad⟩ :=
  ⟨A, c, v', h.out_ hg ho hf, ((Only.grown hg).mono (K' := coderK gc ov X) fun i _ hi => .inr (.inl hi)).trans (Only.set_ w' gc 2 _) fun i _ hi => .inl hi, hf⟩
/-- a step behind a step -/
theorem Ran.seq {w1 : World} {ov1 : Value} {s2 : CS} {X1 : Nat → Prop} (h : Only (coderK gc ov X) w w1) (hf : ∀ i, i < w.heap.size → ov1.ownBlock = some i → ov.ownBlock = some i) (h2 : Ran B gc rd ov1 X1 w1 w' s2) (hX : ∀ i, i < w.heap.size → X1 i → coderK gc ov X i) :
    Ran B gc rd ov X w w' s2 := by
  obtain ⟨A2, c2, ov2, hc, ho, hf2⟩ := h2
  refine ⟨A2, c2, ov2, hc, h.trans ho fun i hi hk => ?_, fun i hi he => hf i hi (hf2 i (Nat.lt_of_lt_of_le hi h.size) he)⟩
  rcases hk with hk | hk | hk
  · exact .inl hk
  · exact .inr (.inl (hf i hi hk))
  · exact hX i hi hk
theorem Ran.mono {X' : Nat → Prop} {s' : CS} (h : Ran B gc rd ov X w w' s') (hX : ∀ i, X i → X' i) : Ran B gc rd ov X' w w' s' := by
  obtain ⟨A2, c2, ov2, hc, ho, hf2⟩ := h
  exact ⟨A2, c2, ov2, hc, ho.mono fun i _ hi => hi.imp id (Or.imp id (hX i)), hf2⟩
end

/-- the first byte, and the others -/
theorem Cells.byte {w : World} {B : Nat} {A : Option Addr} {b : Int} {r : List Int} (h : Cells w B A (byteCells (b :: r))) :
    ∃ g off, A = some ⟨g, off, none⟩ ∧ g < B ∧ w.cell? ⟨g, off, none⟩ = some (.int .u8 b) ∧ Cells w B (some ⟨g, off + 1, none⟩) (byteCells r) := by
  obtain ⟨g, off, e, hg, hc⟩ := h (by simp [byteCells])
  refine ⟨g, off, e, hg, hc 0 _ rfl, fun _ => ⟨g, off + 1, rfl, hg, fun j u hj => ?_⟩⟩
  have := hc (j + 1) u (by simpa [byteCells] using hj)
  rw [show off + 1 + j = off + (j + 1) by omega]
  exact this

theorem next_any (B gc : Nat) (rd : Bool) (A : Option Addr) (c : Nat) (ov : Value) (s : CS) (w : World) (h : Coder w B gc rd A c ov s) :
    Calls Try.prog 22 #[.pointer (some ⟨gc, 0, none⟩)] w (fun e w' => e = .returned (.int .i64 (rNext s).1) ∧ Ran B gc rd ov (fun _ => False) w w' (rNext s).2) := by
  have c1 := h.c1
  have c3 := h.c3
  have f1 := h.blk.frozen 1
  have f3 := h.blk.frozen 3
  have H := Lib.hid h
  clear h
  obtain ⟨i, o, bad⟩ := s
  cases i with
  | nil =>
    rw [show CS.inn ⟨[], o, bad⟩ = [] from rfl] at c1
    go_enter Try.func22, Try.ntmps22
    go_wp2_with fail
    go_ret
    exact ⟨rfl, Ran.bad_ H.out⟩
  | cons b r =>
    obtain ⟨g, off, rfl, hg, c0, hr⟩ := H.out.ins.byte
    obtain ⟨hb0, hb1⟩ := H.out.byt b (List.mem_cons_self ..)
    have hcap := H.out.cap
    have hby : Bytes r := fun x hx => H.out.byt x (List.mem_cons_of_mem _ hx)
    rw [show CS.inn ⟨b :: r, o, bad⟩ = b :: r from rfl, List.length_cons] at c1 hcap
    have k1 : (1 : Int) ≤ (r.length + 1 : Nat) := by omega
    have k2 : (0 : Int) < (r.length + 1 : Nat) := by omega
    by_cases hc1 : c = 1
    · have hr0 : r = [] := List.eq_nil_of_length_eq_zero (by omega)
      subst hr0
      have HR := Lib.hid (Ran.in_ (X := fun _ => False) (A' := some ⟨g, off, none⟩) (c' := 0) (i := []) H.out Cells.nil (Nat.le_refl _) hby)
      clear hr
      go_enter Try.func22, Try.ntmps22
      go_wp2_with fail
      go_ret
      exact ⟨rfl, HR.out⟩
    · have HR := Lib.hid (Ran.in_ (X := fun _ => False) (c' := c - 1) H.out hr (by omega) hby)
      clear hr
      go_enter Try.func22, Try.ntmps22
      go_wp2_with fail
      go_ret
      exact ⟨rfl, HR.out⟩

/-- an element that is put behind what is written -/
theorem wPut_len (n : Int) (s : CS) : (wPut n s).out.length ≤ s.out.length + 4 := by
  unfold wPut
  split
  · simp
  · rename_i h
    have := zz_lt h
    simp only [List.length_append]
    have : (vb (zz n)).length ≤ 4 := by
      have h0 : zz n < 268435456 := by omega
      generalize zz n = u at h0
      by_cases h1 : u < 128
      · rw [vb_lt h1]; simp
      rw [vb_ge h1]
      by_cases h2 : u / 128 < 128
      · rw [vb_lt h2]; simp
      rw [vb_ge h2]
      by_cases h3 : u / 128 / 128 < 128
      · rw [vb_lt h3]; simp
      rw [vb_ge h3, vb_lt (show u / 128 / 128 / 128 < 128 by omega)]; simp
    omega
theorem vb_bytes (u : Nat) : Bytes (vb u) := by
  intro b hb
  induction u using Nat.strongRecOn with
  | _ u ih =>
    by_cases h : u < 128
    · rw [vb_lt h] at hb; simp at hb; omega
    · rw [vb_ge h] at hb
      rcases List.mem_cons.1 hb with rfl | hb
      · omega
      · exact ih (u / 128) (by omega) hb

theorem fresh_of {v v' : Value} {g : Nat} (h : v'.ownBlock = v.ownBlock ∨ v'.ownBlock = some (g + 1)) : ∀ i, i < g → v'.ownBlock = some i → v.ownBlock = some i := fun i hi hv => by
  rcases h with h | h
  · rw [← h]; exact hv
  · rw [h] at hv; injection hv with hv; omega
set_option maxRecDepth 20000 in
set_option maxHeartbeats 1000000 in
theorem put_any (B gc : Nat) (rd : Bool) (A : Option Addr) (c : Nat) (ov : Value) (s : CS) (n : Int) (w : World) (h : Coder w B gc rd A c ov s) (hl : s.out.length ≤ 1000000000) :
    Calls Try.prog 43 #[.pointer (some ⟨gc, 0, none⟩), .int .i64 n] w (fun e w' => e = .returned (.tuple #[]) ∧ Ran B gc rd ov (fun _ => False) w w' (wPut n s)) := by
  by_cases hn : n < -134217728 ∨ 134217728 ≤ n
  · have c3 := h.c3
    have f3 := h.blk.frozen 3
    have HR := Lib.hid (show Ran B gc rd ov (fun _ => False) w (w.setCell ⟨gc, 3, none⟩ (.bool true)) (wPut n s) by unfold wPut; rw [if_pos hn]; exact Ran.bad_ h)
    clear h
    by_cases hn1 : n < -134217728
    · clear hn
      go_enter Try.func43, Try.ntmps43
      go_wp2_with fail
      refine bodyPost_ret (results_none rfl _ _ _) rfl ?_
      exact ⟨rfl, HR.out⟩
    · have hn2 : 134217728 ≤ n := by omega
      clear hn
      go_enter Try.func43, Try.ntmps43
      go_wp2_with fail
      refine bodyPost_ret (results_none rfl _ _ _) rfl ?_
      exact ⟨rfl, HR.out⟩
  · have hz := zz_lt hn
    have HW := Lib.hid (show wPut n s = ⟨s.inn, s.out ++ vb (zz n), s.bad⟩ by unfold wPut; rw [if_neg hn])
    have hn1 : ¬ n < -134217728 := by omega
    have hn2 : ¬ 134217728 ≤ n := by omega
    have HZ := Lib.hid (show (zz n : Int) = if n < 0 then -(2 * n) - 1 else 2 * n by unfold zz; split <;> omega)
    clear hn
    have H := Lib.hid h
    have HK : Calls Try.prog 43 #[.pointer (some ⟨gc, 0, none⟩), .int .i64 n] w (fun e w' => e = .returned (.tuple #[]) ∧ Ran B gc rd ov (fun _ => False) w w' ⟨s.inn, s.out ++ vb (zz n), s.bad⟩) := by
      clear h HW
      generalize zz n = N at *
      by_cases hneg : n < 0
      · have hN : -(2 * n) - 1 = (N : Int) := by rw [HZ.out, if_pos hneg]
        go_enter Try.func43, Try.ntmps43
        go_wp2_with fail
        go_loopg [4] N (fun k s4 wr => ∃ (u : Nat) (pre : List Int) (A1 : Option Addr) (c1 : Nat) (ov1 : Value), s4 = .int .i64 u ∧ k = u ∧ u ≤ N ∧ pre.length ≤ N - u ∧ pre ++ vb u = vb N ∧ Coder wr B gc rd A1 c1 ov1 ⟨s.inn, s.out ++ pre, s.bad⟩ ∧ Only (coderK gc ov (fun _ => False)) w wr ∧ ∀ i, i < w.heap.size → ov1.ownBlock = some i → ov.ownBlock = some i)
        case atStart => exact ⟨N, [], A, c, ov, rfl, rfl, Nat.le_refl _, Nat.zero_le _, rfl, by rw [List.append_nil]; exact H.out, Only.refl _ _, fun _ _ h => h⟩
        case round =>
          obtain ⟨u, pre, A1, c1, ov1, rfl, hk, hu, hpre, hvb, hc, ho, hf⟩ := hrel
          have Hk := Lib.hid hk; clear hk
          have Ho := Lib.hid ho; clear ho
          have Hf := Lib.hid hf; clear hf
          have Hc := Lib.hid hc
          have z2 := hc.c2
          have f2 := hc.blk.frozen 2
          have hlt := hc.lt
          have hown : wr.ownsRow B 5 1 ov1 (s.out ++ pre).length (byteCells (s.out ++ pre)) := hc.own
          have hsz : B ≤ wr.heap.size := Nat.le_trans hc.ge (Nat.le_of_lt hc.lt)
          have hlen : (s.out ++ pre).length ≤ 2000000000 := by rw [List.length_append]; omega
          obtain ⟨on, hon⟩ : ∃ on, on = (s.out ++ pre).length := ⟨_, rfl⟩
          rw [← hon] at hown hlen
          have Hon := Lib.hid hon
          clear hon hc
          obtain ⟨Ao, co, rfl⟩ := own_slice hown
          by_cases hu1 : u < 128
          · have hu2 : (u : Int) < 128 := by omega
            have hw8 : IntKind.u8.wrap (u : Int) = u := by rw [IntKind.wrap_u8]; omega
            have HV := Lib.hid (show pre ++ [(u : Int)] = vb N by rw [← hvb, vb_lt hu1])
            clear hvb hu1
            go_wp2_with (at_builtin; refine wp_app elemByte rfl _ _ rfl B (.slice Ao on co) _ _ rfl wr.heap.size [.int .u8 u] rfl rfl hown rfl rfl ?_ ?_ hsz ?_)
            · omega
            · omega
            intro v' w' hown' hg' hd
            have HR := Lib.hid (Ran.out_ (X := fun _ => False) Hc.out hg' (bs := [(u : Int)]) (by rw [show (CS.out ⟨s.inn, s.out ++ pre, s.bad⟩).length = on from Hon.out.symm]; exact hown') (fresh_of hd))
            have g2 := (Hc.out.blk.only (Only.grown hg') Hc.out.ne).cell 2
            have f2 := (Hc.out.blk.only (Only.grown hg') Hc.out.ne).frozen 2
            have z2 : w'.cell? ⟨gc, 2, none⟩ = some (.slice Ao on co) := g2
            obtain ⟨A', c', rfl⟩ := own_slice hown'
            clear g2 hown' hg' hd hown
            go_wp2_with fail
            refine bodyPost_end (results_none rfl _ _ _) rfl ?_
            refine ⟨rfl, ?_⟩
            have := Ran.seq Ho.out Hf.out HR.out (fun _ _ h => h.elim)
            simp only [List.append_assoc, HV.out] at this
            exact this
          · have hu2 : ¬ (u : Int) < 128 := by omega
            have hq1 : Int.tmod (u : Int) 128 = ((u % 128 : Nat) : Int) := by rw [Int.tmod_eq_emod_of_nonneg (by omega)]; simp
            have hq2 : Int.tdiv (u : Int) 128 = ((u / 128 : Nat) : Int) := by rw [Int.tdiv_eq_ediv_of_nonneg (by omega)]; simp
            have hw8 : IntKind.u8.wrap (((u % 128 : Nat) : Int) + 128) = ((u % 128 + 128 : Nat) : Int) := by rw [IntKind.wrap_u8]; omega
            have hm1 : u % 128 < 128 := Nat.mod_lt _ (by omega)
            have HV := Lib.hid (show (pre ++ [((u % 128 + 128 : Nat) : Int)]) ++ vb (u / 128) = vb N by rw [← hvb, vb_ge hu1, List.append_assoc]; rfl)
            have HD := Lib.hid (show u / 128 < u ∧ u / 128 + 1 ≤ u from by omega)
            clear hvb hu1
            go_wp2_with (at_builtin; refine wp_app elemByte rfl _ _ rfl B (.slice Ao on co) _ _ rfl wr.heap.size [.int .u8 ((u % 128 + 128 : Nat) : Int)] rfl rfl hown rfl rfl ?_ ?_ hsz ?_)
            · omega
            · omega
            intro v' w' hown' hg' hd
            have HR := Lib.hid (Ran.out_ (X := fun _ => False) Hc.out hg' (bs := [((u % 128 + 128 : Nat) : Int)]) (by rw [show (CS.out ⟨s.inn, s.out ++ pre, s.bad⟩).length = on from Hon.out.symm]; exact hown') (fresh_of hd))
            have g2 := (Hc.out.blk.only (Only.grown hg') Hc.out.ne).cell 2
            have f2 := (Hc.out.blk.only (Only.grown hg') Hc.out.ne).frozen 2
            have z2 : w'.cell? ⟨gc, 2, none⟩ = some (.slice Ao on co) := g2
            obtain ⟨A', c', rfl⟩ := own_slice hown'
            clear g2 hown' hg' hd hown
            go_wp2_with fail
            go_roundg (u / 128)
            case measure => rw [Hk.out]; exact HD.out.1
            case rel =>
              obtain ⟨A2, c2, ov2, hc2, ho2, hf2⟩ := Ran.seq Ho.out Hf.out HR.out (fun _ _ h => h.elim)
              rw [List.append_assoc] at hc2
              exact ⟨u / 128, _, A2, c2, ov2, by go_num, rfl, by have := HD.out; omega, by rw [List.length_append]; have := HD.out; simp; omega, HV.out, hc2, ho2, hf2⟩
      · have hN : 2 * n = (N : Int) := by rw [HZ.out, if_neg hneg]
        go_enter Try.func43, Try.ntmps43
        go_wp2_with fail
        go_loopg [4] N (fun k s4 wr => ∃ (u : Nat) (pre : List Int) (A1 : Option Addr) (c1 : Nat) (ov1 : Value), s4 = .int .i64 u ∧ k = u ∧ u ≤ N ∧ pre.length ≤ N - u ∧ pre ++ vb u = vb N ∧ Coder wr B gc rd A1 c1 ov1 ⟨s.inn, s.out ++ pre, s.bad⟩ ∧ Only (coderK gc ov (fun _ => False)) w wr ∧ ∀ i, i < w.heap.size → ov1.ownBlock = some i → ov.ownBlock = some i)
        case atStart => exact ⟨N, [], A, c, ov, rfl, rfl, Nat.le_refl _, Nat.zero_le _, rfl, by rw [List.append_nil]; exact H.out, Only.refl _ _, fun _ _ h => h⟩
        case round =>
          obtain ⟨u, pre, A1, c1, ov1, rfl, hk, hu, hpre, hvb, hc, ho, hf⟩ := hrel
          have Hk := Lib.hid hk; clear hk
          have Ho := Lib.hid ho; clear ho
          have Hf := Lib.hid hf; clear hf
          have Hc := Lib.hid hc
          have z2 := hc.c2
          have f2 := hc.blk.frozen 2
          have hlt := hc.lt
          have hown : wr.ownsRow B 5 1 ov1 (s.out ++ pre).length (byteCells (s.out ++ pre)) := hc.own
          have hsz : B ≤ wr.heap.size := Nat.le_trans hc.ge (Nat.le_of_lt hc.lt)
          have hlen : (s.out ++ pre).length ≤ 2000000000 := by rw [List.length_append]; omega
          obtain ⟨on, hon⟩ : ∃ on, on = (s.out ++ pre).length := ⟨_, rfl⟩
          rw [← hon] at hown hlen
          have Hon := Lib.hid hon
          clear hon hc
          obtain ⟨Ao, co, rfl⟩ := own_slice hown
          by_cases hu1 : u < 128
          · have hu2 : (u : Int) < 128 := by omega
            have hw8 : IntKind.u8.wrap (u : Int) = u := by rw [IntKind.wrap_u8]; omega
            have HV := Lib.hid (show pre ++ [(u : Int)] = vb N by rw [← hvb, vb_lt hu1])
            clear hvb hu1
            go_wp2_with (at_builtin; refine wp_app elemByte rfl _ _ rfl B (.slice Ao on co) _ _ rfl wr.heap.size [.int .u8 u] rfl rfl hown rfl rfl ?_ ?_ hsz ?_)
            · omega
            · omega
            intro v' w' hown' hg' hd
            have HR := Lib.hid (Ran.out_ (X := fun _ => False) Hc.out hg' (bs := [(u : Int)]) (by rw [show (CS.out ⟨s.inn, s.out ++ pre, s.bad⟩).length = on from Hon.out.symm]; exact hown') (fresh_of hd))
            have g2 := (Hc.out.blk.only (Only.grown hg') Hc.out.ne).cell 2
            have f2 := (Hc.out.blk.only (Only.grown hg') Hc.out.ne).frozen 2
            have z2 : w'.cell? ⟨gc, 2, none⟩ = some (.slice Ao on co) := g2
            obtain ⟨A', c', rfl⟩ := own_slice hown'
            clear g2 hown' hg' hd hown
            go_wp2_with fail
            refine bodyPost_end (results_none rfl _ _ _) rfl ?_
            refine ⟨rfl, ?_⟩
            have := Ran.seq Ho.out Hf.out HR.out (fun _ _ h => h.elim)
            simp only [List.append_assoc, HV.out] at this
            exact this
          · have hu2 : ¬ (u : Int) < 128 := by omega
            have hq1 : Int.tmod (u : Int) 128 = ((u % 128 : Nat) : Int) := by rw [Int.tmod_eq_emod_of_nonneg (by omega)]; simp
            have hq2 : Int.tdiv (u : Int) 128 = ((u / 128 : Nat) : Int) := by rw [Int.tdiv_eq_ediv_of_nonneg (by omega)]; simp
            have hw8 : IntKind.u8.wrap (((u % 128 : Nat) : Int) + 128) = ((u % 128 + 128 : Nat) : Int) := by rw [IntKind.wrap_u8]; omega
            have hm1 : u % 128 < 128 := Nat.mod_lt _ (by omega)
            have HV := Lib.hid (show (pre ++ [((u % 128 + 128 : Nat) : Int)]) ++ vb (u / 128) = vb N by rw [← hvb, vb_ge hu1, List.append_assoc]; rfl)
            have HD := Lib.hid (show u / 128 < u ∧ u / 128 + 1 ≤ u from by omega)
            clear hvb hu1
            go_wp2_with (at_builtin; refine wp_app elemByte rfl _ _ rfl B (.slice Ao on co) _ _ rfl wr.heap.size [.int .u8 ((u % 128 + 128 : Nat) : Int)] rfl rfl hown rfl rfl ?_ ?_ hsz ?_)
            · omega
            · omega
            intro v' w' hown' hg' hd
            have HR := Lib.hid (Ran.out_ (X := fun _ => False) Hc.out hg' (bs := [((u % 128 + 128 : Nat) : Int)]) (by rw [show (CS.out ⟨s.inn, s.out ++ pre, s.bad⟩).length = on from Hon.out.symm]; exact hown') (fresh_of hd))
            have g2 := (Hc.out.blk.only (Only.grown hg') Hc.out.ne).cell 2
            have f2 := (Hc.out.blk.only (Only.grown hg') Hc.out.ne).frozen 2
            have z2 : w'.cell? ⟨gc, 2, none⟩ = some (.slice Ao on co) := g2
            obtain ⟨A', c', rfl⟩ := own_slice hown'
            clear g2 hown' hg' hd hown
            go_wp2_with fail
            go_roundg (u / 128)
            case measure => rw [Hk.out]; exact HD.out.1
            case rel =>
              obtain ⟨A2, c2, ov2, hc2, ho2, hf2⟩ := Ran.seq Ho.out Hf.out HR.out (fun _ _ h => h.elim)
              rw [List.append_assoc] at hc2
              exact ⟨u / 128, _, A2, c2, ov2, by go_num, rfl, by have := HD.out; omega, by rw [List.length_append]; have := HD.out; simp; omega, HV.out, hc2, ho2, hf2⟩
    rw [HW.out]
    exact HK
end Go.Proofs.Ytmlbjcngboegfaa
