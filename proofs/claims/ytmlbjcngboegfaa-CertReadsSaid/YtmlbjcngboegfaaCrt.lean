/-
  A certificate in memory; own: what it tells. Written by an AI agent.
-/
import Derived.Test.YtmlbjcngboegfaaConcat
namespace Go.Proofs.Ytmlbjcngboegfaa
open Go.RowKit

/-- where a certificate's lists lie -/
structure CV where
  a1 : Option Addr
  a2 : Option Addr
  a3 : Option Addr
  a5 : Option Addr
  a6 : Option Addr
  a7 : Option Addr
  a8 : Option Addr
  a9 : Option Addr
  a10 : Option Addr
  a11 : Option Addr
  c1 : Nat
  c2 : Nat
  c3 : Nat
  c5 : Nat
  c6 : Nat
  c7 : Nat
  c8 : Nat
  c9 : Nat
  c10 : Nat
  c11 : Nat
def crtCells (V : CV) (x : Crt) : Array Value :=
  #[.int .i64 x.k, .slice V.a1 x.ord.length V.c1, .slice V.a2 x.outs.length V.c2, .slice V.a3 x.turn.length V.c3, .int .i64 x.outer, .slice V.a5 x.pts.length V.c5, .slice V.a6 x.lines.length V.c6,
    .slice V.a7 x.b0.length V.c7, .slice V.a8 x.b1.length V.c8, .slice V.a9 x.b2.length V.c9, .slice V.a10 x.b3.length V.c10, .slice V.a11 x.edges.length V.c11]
def crtVal (V : CV) (x : Crt) : Value := .agg (crtCells V x)
/-- its lists, below block B -/
structure CrtIs (w : World) (B : Nat) (V : CV) (x : Crt) : Prop where
  h1 : Cells w B V.a1 (intCells x.ord)
  h2 : TblAt intCells w B V.a2 x.outs
  h3 : TblAt intCells w B V.a3 x.turn
  h5 : Cells w B V.a5 (edgeCells x.pts)
  h6 : TblAt edgeCells w B V.a6 x.lines
  h7 : Cells w B V.a7 (intCells x.b0)
  h8 : Cells w B V.a8 (intCells x.b1)
  h9 : Cells w B V.a9 (intCells x.b2)
  h10 : Cells w B V.a10 (intCells x.b3)
  h11 : Cells w B V.a11 (intCells x.edges)
/-- no list is longer than so -/
structure CrtLe (x : Crt) : Prop where
  l1 : x.ord.length ≤ 3000
  l2 : x.outs.length ≤ 3000
  l3 : x.turn.length ≤ 3000
  l5 : x.pts.length ≤ 3000
  l6 : x.lines.length ≤ 3000
  l7 : x.b0.length ≤ 3000
  l8 : x.b1.length ≤ 3000
  l9 : x.b2.length ≤ 3000
  l10 : x.b3.length ≤ 3000
  l11 : x.edges.length ≤ 3000
section
variable {w w' : World} {B B' : Nat} {V : CV} {x : Crt}
theorem CrtIs.below (h : CrtIs w B V x) (hb : Below B w w') : CrtIs w' B V x :=
  ⟨h.h1.below hb, h.h2.below hb, h.h3.below hb, h.h5.below hb, h.h6.below hb, h.h7.below hb, h.h8.below hb, h.h9.below hb, h.h10.below hb, h.h11.below hb⟩
theorem CrtIs.more (h : CrtIs w B V x) (hB : B ≤ B') : CrtIs w B' V x :=
  ⟨h.h1.more hB, h.h2.more hB, h.h3.more hB, h.h5.more hB, h.h6.more hB, h.h7.more hB, h.h8.more hB, h.h9.more hB, h.h10.more hB, h.h11.more hB⟩
end
/-- how many things a certificate has that belong to a kind -/
def hasN (x : Crt) : Nat → Nat
  | 1 => x.ord.length + x.outs.length
  | 2 => x.turn.length
  | 3 => x.pts.length + x.lines.length
  | 4 => x.b0.length + x.b1.length + x.b2.length + x.b3.length
  | 5 => x.edges.length
  | 6 => x.edges.length
  | _ => 0
def fits (x : Crt) (i : Nat) : Prop := 0 < hasN x i → (i : Int) = x.k ∨ (5 ≤ i ∧ 5 ≤ x.k)
theorem owns_iff (x : Crt) : Owns x ↔ (∀ i, i < 7 → fits x i) ∧ (x.k = 2 ∨ x.outer = 0) := by
  unfold Owns fits
  constructor
  · rintro ⟨g1, g2, g3, g4, g5, g6⟩
    refine ⟨fun i hi h => ?_, g6⟩
    have e : i = 0 ∨ i = 1 ∨ i = 2 ∨ i = 3 ∨ i = 4 ∨ i = 5 ∨ i = 6 := by omega
    rcases e with rfl | rfl | rfl | rfl | rfl | rfl | rfl
    · exact absurd h (by simp [hasN])
    · have := g1 h; omega
    · have := g2 h; omega
    · have := g3 h; omega
    · have := g4 h; omega
    · have := g5 h; omega
    · have := g5 h; omega
  · rintro ⟨g, g6⟩
    refine ⟨fun h => ?_, fun h => ?_, fun h => ?_, fun h => ?_, fun h => ?_, g6⟩
    · have := g 1 (by omega) h; omega
    · have := g 2 (by omega) h; omega
    · have := g 3 (by omega) h; omega
    · have := g 4 (by omega) h; omega
    · have := g 5 (by omega) h; omega

theorem run_index7 {cs : Array Value} {i : Nat} {n : Int} {wx : World} (h : i < 7) (hc : cs[i]? = some (.int .i64 n)) : (Instr.index 73 (.agg cs) (.int .i64 i)).run Try.prog wx = .ok (.int .i64 n) wx := by
  have h2 : (sizeOf 3).run Try.prog wx = .ok 1 wx := by kernel_rfl
  simp [Instr.index, asIntOf, run_underlying Try.underlying73, part, h2, hc]
  intro h4; omega

set_option maxRecDepth 20000 in
set_option maxHeartbeats 2000000 in
theorem own_any (V : CV) (x : Crt) (w : World) (h : CrtIs w w.heap.size V x) (hl : CrtLe x) :
    Calls Try.prog 16 #[crtVal V x] w (fun e w' => e = .returned (.bool (decide (Owns x))) ∧ Below w.heap.size w w') := by
  unfold crtVal
  obtain ⟨l1, l2, l3, l5, l6, l7, l8, l9, l10, l11⟩ := hl
  have hbk := Blk.new w 39 (crtCells V x)
  have hbw := (Below.refl w.heap.size w).alloc (Nat.le_refl _) (.cells (crtCells V x) 39)
  have s1 := World.size_alloc w (.cells (crtCells V x) 39)
  have HB := Lib.hid (show ∀ w1, w1 = w.alloc (.cells (crtCells V x) 39) → TblAt intCells w1 w1.heap.size (some ⟨w.heap.size, 7, none⟩) [x.b0, x.b1, x.b2, x.b3] from by
    intro w1 e
    subst e
    intro _
    refine ⟨w.heap.size, 7, rfl, by rw [s1]; omega, fun i hi => ?_⟩
    have e : i = 0 ∨ i = 1 ∨ i = 2 ∨ i = 3 := by simp at hi; omega
    rcases e with rfl | rfl | rfl | rfl
    · exact ⟨V.a7, V.c7, hbk.cell 7, (h.h7.below hbw).more hbw.size⟩
    · exact ⟨V.a8, V.c8, hbk.cell 8, (h.h8.below hbw).more hbw.size⟩
    · exact ⟨V.a9, V.c9, hbk.cell 9, (h.h9.below hbw).more hbw.size⟩
    · exact ⟨V.a10, V.c10, hbk.cell 10, (h.h10.below hbw).more hbw.size⟩)
  have hfl : ([x.b0, x.b1, x.b2, x.b3] : List (List Int)).flatten.length = x.b0.length + x.b1.length + x.b2.length + x.b3.length := by simp; omega
  go_enter Try.func16, Try.ntmps16
  unfold crtCells at hbk hbw s1 HB ⊢
  go_wp2_with fail
  generalize hw1 : w.alloc (.cells #[.int .i64 x.k, .slice V.a1 x.ord.length V.c1, .slice V.a2 x.outs.length V.c2, .slice V.a3 x.turn.length V.c3, .int .i64 x.outer, .slice V.a5 x.pts.length V.c5, .slice V.a6 x.lines.length V.c6,
    .slice V.a7 x.b0.length V.c7, .slice V.a8 x.b1.length V.c8, .slice V.a9 x.b2.length V.c9, .slice V.a10 x.b3.length V.c10, .slice V.a11 x.edges.length V.c11] 39) = w1 at *
  refine (concat_any (some ⟨w.heap.size, 7, none⟩) 4 [x.b0, x.b1, x.b2, x.b3] w1 (HB.out w1 rfl) (by simp) (by rw [hfl]; omega)).mono ?_
  rintro e w2 ⟨A2, c2, rfl, hb2, _⟩
  rw [hfl]
  have hbk2 := hbk.below hb2 (by omega)
  have hbw2 := hbw.trans (hb2.mono (by omega))
  have y0 := hbk2.cell 0
  have y1 := hbk2.cell 1
  have y2 := hbk2.cell 2
  have y3 := hbk2.cell 3
  have y4 := hbk2.cell 4
  have y5 := hbk2.cell 5
  have y6 := hbk2.cell 6
  have y11 := hbk2.cell 11
  simp only [List.getElem?_toArray, List.getElem?_cons_zero, List.getElem?_cons_succ] at y0 y1 y2 y3 y4 y5 y6 y11
  have hs2 := hbk2.lt
  have HBW := Lib.hid hbw2
  clear hbk hbw s1 HB hbk2 hb2 hw1 h hbw2
  go_wp2_with fail
  have HBA := Lib.hid (show Below w.heap.size w (w2.alloc (.cells #[.int .i64 0, .int .i64 (x.ord.length + x.outs.length), .int .i64 x.turn.length, .int .i64 (x.pts.length + x.lines.length), .int .i64 (x.b0.length + x.b1.length + x.b2.length + x.b3.length), .int .i64 x.edges.length, .int .i64 x.edges.length] 73)) from HBW.out.alloc (Nat.le_of_lt hs2) _)
  have hs3 : w.heap.size < (w2.alloc (.cells #[.int .i64 0, .int .i64 (x.ord.length + x.outs.length), .int .i64 x.turn.length, .int .i64 (x.pts.length + x.lines.length), .int .i64 (x.b0.length + x.b1.length + x.b2.length + x.b3.length), .int .i64 x.edges.length, .int .i64 x.edges.length] 73)).heap.size := by simp; omega
  have hz0 : (w2.alloc (.cells #[.int .i64 0, .int .i64 (x.ord.length + x.outs.length), .int .i64 x.turn.length, .int .i64 (x.pts.length + x.lines.length), .int .i64 (x.b0.length + x.b1.length + x.b2.length + x.b3.length), .int .i64 x.edges.length, .int .i64 x.edges.length] 73)).cell? ⟨w.heap.size, 0, none⟩ = some (.int .i64 x.k) := by
    rw [World.cell?_alloc_lt _ _ _ hs2]; exact y0
  have hz4 : (w2.alloc (.cells #[.int .i64 0, .int .i64 (x.ord.length + x.outs.length), .int .i64 x.turn.length, .int .i64 (x.pts.length + x.lines.length), .int .i64 (x.b0.length + x.b1.length + x.b2.length + x.b3.length), .int .i64 x.edges.length, .int .i64 x.edges.length] 73)).cell? ⟨w.heap.size, 4, none⟩ = some (.int .i64 x.outer) := by
    rw [World.cell?_alloc_lt _ _ _ hs2]; exact y4
  clear y0 y1 y2 y3 y4 y5 y6 y11
  generalize w2.alloc (.cells #[.int .i64 0, .int .i64 (x.ord.length + x.outs.length), .int .i64 x.turn.length, .int .i64 (x.pts.length + x.lines.length), .int .i64 (x.b0.length + x.b1.length + x.b2.length + x.b3.length), .int .i64 x.edges.length, .int .i64 x.edges.length] 73) = w3 at *
  go_loopg [42] 7 (fun g s42 wr => ∃ i : Nat, s42 = .int .i64 i ∧ i ≤ 7 ∧ g = 7 - i ∧ wr = w3 ∧ ∀ j, j < i → fits x j)
  case atStart => exact ⟨0, rfl, by omega, rfl, rfl, fun j hj => by omega⟩
  case round =>
    obtain ⟨i, rfl, hi, hk, rfl, hfit⟩ := hrel
    have Hfit := Lib.hid hfit
    have Hk := Lib.hid hk
    clear hfit hk
    by_cases hlt : i < 7
    · have hidx : ∀ wx, (Instr.index 73 (.agg #[.int .i64 0, .int .i64 (x.ord.length + x.outs.length), .int .i64 x.turn.length, .int .i64 (x.pts.length + x.lines.length), .int .i64 (x.b0.length + x.b1.length + x.b2.length + x.b3.length), .int .i64 x.edges.length, .int .i64 x.edges.length]) (.int .i64 i)).run Try.prog wx = .ok (.int .i64 (hasN x i)) wx := fun wx => run_index7 hlt (by
        have e : i = 0 ∨ i = 1 ∨ i = 2 ∨ i = 3 ∨ i = 4 ∨ i = 5 ∨ i = 6 := by omega
        rcases e with rfl | rfl | rfl | rfl | rfl | rfl | rfl <;> simp [hasN])
      have hlt' : (i : Int) < 7 := by omega
      have HN := Lib.hid (show fits x i ↔ (0 < hasN x i → (i : Int) = x.k ∨ (5 ≤ i ∧ 5 ≤ x.k)) from Iff.rfl)
      have HB := Lib.hid (show ¬ fits x i → decide (Owns x) = false from fun h => decide_eq_false fun ho => h ((owns_iff x).1 ho |>.1 i hlt))
      have HF := Lib.hid (show fits x i → ∀ j, j < i + 1 → fits x j from fun h j hj => by
        by_cases e : j = i
        · rw [e]; exact h
        · exact Hfit.out j (by omega))
      generalize hasN x i = n at *
      by_cases hn : 0 < n
      · have hn' : (0 : Int) < n := by omega
        by_cases hek : (i : Int) = x.k
        · have hb1 : ((i : Int) == x.k) = true := by simpa using hek
          have HFit := Lib.hid (HF.out (HN.out.2 fun _ => .inl hek))
          clear hek
          go_wp2
          all_goals
            go_roundg (7 - (i + 1))
            case measure => rw [Hk.out]; omega
            case rel => exact ⟨i + 1, by go_num, by omega, rfl, rfl, HFit.out⟩
        · have hb1 : ((i : Int) == x.k) = false := by simpa using hek
          have Hek := Lib.hid hek
          clear hek
          by_cases h5 : 5 ≤ i ∧ 5 ≤ x.k
          · have HFit := Lib.hid (HF.out (HN.out.2 fun _ => .inr h5))
            obtain ⟨h5a, h5b⟩ := h5
            have h5c : (5 : Int) ≤ i := by omega
            go_wp2
            all_goals
              go_roundg (7 - (i + 1))
              case measure => rw [Hk.out]; omega
              case rel => exact ⟨i + 1, by go_num, by omega, rfl, rfl, HFit.out⟩
          · have HNo := Lib.hid (HB.out fun h => by
              rcases HN.out.1 h hn with h | h
              · exact Hek.out h
              · exact h5 h)
            by_cases h5a : 5 ≤ i
            · have h5b : ¬ 5 ≤ x.k := fun h => h5 ⟨h5a, h⟩
              have h5c : (5 : Int) ≤ i := by omega
              clear h5
              go_wp2
              go_ret
              rw [HNo.out]
              exact ⟨rfl, HBA.out⟩
            · have h5c : ¬ (5 : Int) ≤ i := by omega
              clear h5
              go_wp2
              go_ret
              rw [HNo.out]
              exact ⟨rfl, HBA.out⟩
      · have hn' : ¬ (0 : Int) < n := by omega
        have HFit := Lib.hid (HF.out (HN.out.2 fun h => absurd h hn))
        go_wp2
        all_goals
          go_roundg (7 - (i + 1))
          case measure => rw [Hk.out]; omega
          case rel => exact ⟨i + 1, by go_num, by omega, rfl, rfl, HFit.out⟩
    · have hie : i = 7 := by omega
      subst hie
      have HO := Lib.hid (show Owns x ↔ (x.k = 2 ∨ x.outer = 0) from (owns_iff x).trans ⟨fun h => h.2, fun h => ⟨Hfit.out, h⟩⟩)
      go_wp2_with fail
      all_goals
        go_ret
        refine ⟨ret_bool ?_, HBA.out⟩
        rw [Bool.eq_iff_iff]
        simp [HO.out] <;> exact Or.inl ‹_›
end Go.Proofs.Ytmlbjcngboegfaa
