/-
  What a law of this seat keeps while it goes: the graph, the table. Written by an AI agent.
-/
import Derived.Test.YtnjikhhegebkiaaDoorSpeaks
import Derived.Test.YtnjikhhegebkiaaDoorRefP
namespace Go.Proofs.YtnjikhhegebkiaaDoor
open Go.RowKit

structure St0 (w wc : World) (n : Int) (A : Option Addr) (cap : Nat) (es : List (Int × Int)) : Prop where
  b : Blk wc w.heap.size 24 #[.int .i64 n, .slice A es.length cap]
  below : Below w.heap.size w wc
  es : Cells wc wc.heap.size A (edgeCells es)
  tab : Tab wc
  lt : w.heap.size < wc.heap.size
  pos : 0 < wc.heap.size
section
variable {w wc w' : World} {n : Int} {A : Option Addr} {cap : Nat} {es : List (Int × Int)}
theorem St0.next (h : St0 w wc n A cap es) (hb : Below wc.heap.size wc w') : St0 w w' n A cap es := by
  have hz := hb.size
  have h1 := h.lt
  have h2 := h.pos
  exact ⟨h.b.below hb h1, h.below.trans (hb.mono (Nat.le_of_lt h1)), (h.es.below hb).more hz, h.tab.below hb h2, by omega, by omega⟩
theorem St0.drewN (h : St0 w wc n A cap es) (k : Nat) : St0 w (wc.drewN k) n A cap es := h.next (below_drewN (Below.refl _ _) k)
theorem St0.g0 (h : St0 w wc n A cap es) : wc.cell? ⟨w.heap.size, 0, none⟩ = some (.int .i64 n) := h.b.cell 0
theorem St0.g1 (h : St0 w wc n A cap es) : wc.cell? ⟨w.heap.size, 1, none⟩ = some (.slice A es.length cap) := h.b.cell 1
theorem St0.start (n : Int) (cap : Nat) (hes : Cells w w.heap.size A (edgeCells es)) (hT : Tab w) (hp : 0 < w.heap.size) : St0 w (w.alloc (.cells #[.int .i64 n, .slice A es.length cap] 24)) n A cap es := by
  have hbw := (Below.refl w.heap.size w).alloc (Nat.le_refl _) (.cells #[.int .i64 n, .slice A es.length cap] 24)
  exact ⟨Blk.new w _ _, hbw, (hes.below hbw).more hbw.size, hT.below hbw hp, by simp, by simp⟩
end
theorem ask_parts {n : Int} {es : List (Int × Int)} (h : askB n es = true) : ∃ k : Nat, n = k ∧ 0 < k ∧ k ≤ 64 ∧ es.length ≤ 128 ∧ InN k es ∧ (orderF es k).length = k := by
  have hmay : mayB n es = true := by unfold askB at h; exact (Bool.and_eq_true _ _ ▸ h).1
  have hord : (orderF es n.toNat).length = n.toNat := by unfold askB at h; exact of_decide_eq_true (Bool.and_eq_true _ _ ▸ h).2
  obtain ⟨hm1, hm2, hm3⟩ := may_parts hmay
  have hin := badE_in hmay
  obtain ⟨k, rfl⟩ : ∃ k : Nat, n = k := ⟨n.toNat, by omega⟩
  exact ⟨k, rfl, by omega, by omega, hm3, hin, by simpa using hord⟩
end Go.Proofs.YtnjikhhegebkiaaDoor
