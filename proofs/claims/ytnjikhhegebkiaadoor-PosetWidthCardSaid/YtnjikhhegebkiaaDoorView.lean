/-
  graph.Of: the view in memory. Written by an AI agent.
-/
import Derived.Test.YtnjikhhegebkiaaDoorRws
import Derived.BigRegion
namespace Go.Proofs.YtnjikhhegebkiaaDoor
open Go.RowKit

theorem elemRows : Elem Tryd.prog 27 31 (.slice none 0 0) 1 24 := Elem.mk' Tryd.underlying27 (by kernel_rfl) rfl (by omega)

theorem eql_nilE (w : World) (a : Option Addr) (n c : Nat) : (binOp .eql 22 (.slice a n c) (.slice none 0 0)).run Tryd.prog w = .ok (.bool a.isNone) w := by
  simp only [binOp]
  simp [Op.equal, Op.maxDepth, Lib.run_equalIn_slice_nil w 9999 22 40 a n c 0 0 Tryd.underlying22]
set_option maxRecDepth 20000 in
theorem clone_edges (A : Option Addr) (c : Nat) (l : List (Int × Int)) (w : World) (h : Cells w w.heap.size A (edgeCells l)) (hl : l.length ≤ 1000) :
    Calls Tryd.prog 46 #[.slice A l.length c] w (fun e w' => ∃ v, e = .returned v ∧ Below w.heap.size w w' ∧ w'.ownsRow w.heap.size 40 2 v l.length (edgeCells l)) := by
  cases A with
  | none =>
    have hl0 : l = [] := by
      cases l with
      | nil => rfl
      | cons a r =>
        obtain ⟨b, off, e, _⟩ := h (by simp [edgeCells])
        cases e
    subst hl0
    have heq := fun (wx : World) => eql_nilE wx none 0 c
    go_enter Tryd.func46, Tryd.ntmps46
    go_wp2_with fail
    go_ret
    exact ⟨_, rfl, Below.refl _ _, World.ownsRow_nil _ _ _ _⟩
  | some ad =>
    have H := Lib.hid h
    have ho0 : (w.alloc (.cells #[] 40)).ownsRow w.heap.size 40 2 (.slice (some ⟨w.heap.size, 0, none⟩) 0 0) 0 [] :=
      blk_own (R := #[]) (Nat.le_refl _) (by simpa using Blk.new w 40 #[]) (by simp) (Nat.le_refl _) (by unfold maxLen; omega) (by simp)
    have hba := (Below.refl w.heap.size w).alloc (Nat.le_refl _) (.cells #[] 40)
    have hCa := h.below hba
    have hsa : w.heap.size ≤ (w.alloc (.cells #[] 40)).heap.size := by simp
    clear h
    have heq := fun (wx : World) => eql_nilE wx (some ad) l.length c
    go_enter Tryd.func46, Tryd.ntmps46
    go_wp2_with (at_builtin; refine wp_app_any elemEdge rfl _ _ rfl rfl ho0 rfl hCa ((edgeCells_length l).trans (Nat.mul_comm _ _)) (edgeCells_one l) ?h2 ?h3 ?h4 ?_)
    case h2 => omega
    case h3 => omega
    try (case h4 => omega)
    intro v5 w5 ho5 hg5 _
    have hb5 : Below w.heap.size w w5 := below_app hba ho0 hg5 hsa (Nat.le_refl _)
    have HX := Lib.hid (And.intro hb5 (show w5.ownsRow w.heap.size 40 2 v5 l.length (edgeCells l) by simpa using ho5))
    clear ho5 hg5 hb5 ho0 hba hCa
    go_wp2_with fail
    go_ret
    exact ⟨_, rfl, HX.out.1, HX.out.2⟩
theorem blk_new' (w : World) (g : Nat) (t : TypeId) (cs : Array Value) (h : g = w.heap.size) : Blk (w.alloc (.cells cs t)) g t cs := by
  subst h; exact Blk.new w t cs
theorem below_drew1 {B : Nat} {w w' : World} (h : Below B w w') : Below B w w'.drew := ⟨h.os, h.tape, h.output, h.size, h.block⟩
end Go.Proofs.YtnjikhhegebkiaaDoor
