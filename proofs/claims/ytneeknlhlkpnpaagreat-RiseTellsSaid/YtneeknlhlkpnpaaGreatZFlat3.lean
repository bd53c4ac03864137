import Derived.Test.YtneeknlhlkpnpaaGreatZRPlain
import Derived.Test.YtneeknlhlkpnpaaGreatZAng0
import Derived.Test.YtneeknlhlkpnpaaGreatZEul
import Derived.Test.YtneeknlhlkpnpaaGreatZFits
import Derived.Test.YtneeknlhlkpnpaaGreatZRGr
import Derived.Test.YtneeknlhlkpnpaaGreatZFit2
/-
 Plain law: the great angles of a plan's turn fit. Written by an AI agent.
-/
namespace Go.Proofs.YtneeknlhlkpnpaaGreat
open Go.RowKit
section
variable {n : Int} {es : List (Int × Int)} {rs : List (List Int)} {great room : List Int}
end
section
variable {N : Nat} {es : List (Int × Int)} {ord : List Int} {outs : List (List Int)} {en : List (List Itm)} {l : List Nat} {rF : List Itm} {s : Nat}
theorem PlanR.inRow (h : PlanR N es ord outs en l rF s) {x : Nat} (hx : x < N) (hE : en.getD x [] ≠ []) : ∃ a : Nat, a < es.length ∧ (es.getD a (0, 0)).2 = (x : Int) ∧ (en.getD x []).getLast? = some (itE es a) ∧ (inH (en.getD x []).reverse).head? = some ((2 * a + 1 : Nat) : Int) := by
 obtain ⟨_, e, he, hex⟩ := h.inv.ends x hx hE
 rcases h.item hx (List.mem_of_getLast? he) with ⟨a, ha, h1, rfl⟩ | h1
 ·refine ⟨a, ha, h1, he, ?_⟩
  obtain ⟨q, hq⟩ := List.getLast?_eq_some_iff.1 he
  rw [hq]
  unfold inH
  rw [List.reverse_append]
  simp [itE]
 ·rcases h.inv.item h.outp (List.mem_append_right _ (mem_flatten_getD (List.mem_of_getLast? he))) with ⟨i, hi, _, rfl⟩ | ⟨u, _, _, rfl⟩
  ·simp [itE] at h1
  ·simp at hex
theorem PlanR.rowAt (h : PlanR N es ord outs en l rF s) {x i : Nat} (hx : x < (turnR N outs en).length) (hi : i < (turnR N outs en)[x].length) {d : Nat} (he : (turnR N outs en)[x][i] = (d : Int)) :
  (i < (outs.getD x []).length → d % 2 = 0) ∧ ((outs.getD x []).length ≤ i → d % 2 = 1) ∧ (d % 2 = 1 → (lastE es en (d / 2) = true ↔ i = (outs.getD x []).length)) := by
 have hxN : x < N := by simpa [turnR_length] using hx
 have hrow : (turnR N outs en)[x] = turnRow (outs.getD x []) (en.getD x []) := by
  rw [← turnR_at hxN, List.getD_eq_getElem?_getD, List.getElem?_eq_getElem hx]; rfl
 have ho : (outH (outs.getD x [])).length = (outs.getD x []).length := by simp [outH]
 have he' := he
 simp only [hrow] at he
 unfold turnRow at he
 rw [List.getElem_append] at he
 have p1 : i < (outs.getD x []).length → d % 2 = 0 := fun hlt => by
  rw [dif_pos (by rw [ho]; exact hlt)] at he
  have hm := List.getElem_mem (l := outH (outs.getD x [])) (by rw [ho]; exact hlt)
  rw [he] at hm
  obtain ⟨k, _, hk⟩ := List.mem_map.1 hm
  omega
 have p2 : (outs.getD x []).length ≤ i → d % 2 = 1 := fun hge => by
  rw [dif_neg (by rw [ho]; omega)] at he
  have hm : ((d : Nat) : Int) ∈ inH (en.getD x []).reverse := by rw [← he]; exact List.getElem_mem _
  obtain ⟨k, _, hk⟩ := List.mem_map.1 hm
  omega
 refine ⟨p1, p2, fun hodd => ?_⟩
 have hge : (outs.getD x []).length ≤ i := by
  apply Classical.byContradiction
  intro hlt
  have := p1 (by omega)
  omega
 rw [dif_neg (by rw [ho]; omega)] at he
 have hm : ((d : Nat) : Int) ∈ inH (en.getD x []).reverse := by rw [← he]; exact List.getElem_mem _
 have hE : en.getD x [] ≠ [] := by
  intro e0
  rw [e0] at hm
  simp [inH] at hm
 obtain ⟨a, ha, hax, hl, hhd⟩ := h.inRow hxN hE
 have hlen0 : 0 < (inH (en.getD x []).reverse).length := List.length_pos_of_mem hm
 have h0 : (inH (en.getD x []).reverse)[0] = ((2 * a + 1 : Nat) : Int) := by
  rw [List.head?_eq_getElem?, List.getElem?_eq_getElem hlen0] at hhd
  exact Option.some.inj hhd
 have hdm : d < 2 * es.length ∧ vtx es d = x := by
  obtain ⟨d', h1, h2, h3⟩ := h.right.nat hx hi
  rw [he'] at h1
  have : d = d' := by omega
  rw [this]; exact ⟨h2, h3⟩
 have hin : InN N es := by have := right_inN h.right; rwa [turnR_length] at this
 have hd2 : (es.getD (d / 2) (0, 0)).2 = (x : Int) := by
  rw [← vtx_odd hin (by omega), show 2 * (d / 2) + 1 = d by omega, hdm.2]
 have hnd : (turnR N outs en)[x].Nodup := h.right.nd x hx
 have hlast : lastE es en (d / 2) = true ↔ d / 2 = a := by
  rw [lastE_iff, hd2, Int.toNat_natCast, hl]
  constructor
  ·intro e
   have := congrArg Prod.fst (Option.some.inj e)
   simp only [itE] at this
   omega
  ·intro e; rw [e]
 rw [hlast]
 constructor
 ·intro e
  have hdd : d = 2 * a + 1 := by omega
  have hnI : (inH (en.getD x []).reverse).Nodup := by
   rw [hrow] at hnd
   exact (List.nodup_append.1 hnd).2.1
  have := nodup_at hnI (i := 0) (j := i - (outH (outs.getD x [])).length) hlen0 (by
   have := hi
   simp only [hrow] at this
   unfold turnRow at this
   rw [List.length_append] at this
   omega) (by rw [h0, he, hdd])
  omega
 ·intro e
  have : ∀ (k : Nat) (hk : k < (inH (en.getD x []).reverse).length), k = 0 → (inH (en.getD x []).reverse)[k] = ((2 * a + 1 : Nat) : Int) := fun k hk e => by subst e; exact h0
  have h2 := this _ (by
   have := hi
   simp only [hrow] at this
   unfold turnRow at this
   rw [List.length_append] at this
   omega) (by rw [ho]; omega : i - (outH (outs.getD x [])).length = 0)
  rw [h2] at he
  omega
theorem PlanR.bim (h : PlanR N es ord outs en l rF s) : bimB (turnR N outs en) = true := by
 unfold bimB
 rw [List.all_eq_true]
 intro q hq
 obtain ⟨x, hx, rfl⟩ := List.getElem_of_mem hq
 rw [decide_eq_true_iff]
 have hle : plU (turnR N outs en)[x] (turnR N outs en)[x].length ≤ [(outs.getD x []).length - 1, (turnR N outs en)[x].length - 1].length := by
  unfold plU
  rw [List.countP_eq_length_filter]
  refine List.Nodup.length_le_of_subset (List.nodup_range.filter _) fun i hi => ?_
  obtain ⟨hi, hk⟩ := List.mem_filter.1 hi
  have hi := List.mem_range.1 hi
  have hk := of_decide_eq_true hk
  obtain ⟨d, he, hd, _⟩ := h.right.nat hx hi
  have h1 := sig_pos h.right hx hi he
  obtain ⟨a1, a2, _⟩ := h.rowAt hx hi he
  obtain ⟨b1, b2, _⟩ := h.rowAt hx (Nat.mod_lt _ (by omega)) h1
  have hkk : kL (turnR N outs en)[x] i = kindF d (sig es (turnR N outs en) d) := by
   unfold kL
   rw [List.getD_eq_getElem?_getD, List.getElem?_eq_getElem hi, List.getD_eq_getElem?_getD, List.getElem?_eq_getElem (Nat.mod_lt _ (by omega)), Option.getD_some, Option.getD_some, he, h1]
   rfl
  rw [hkk] at hk
  have hne : d % 2 ≠ sig es (turnR N outs en) d % 2 := by
   have := (kindF_plain _ _).1 hk
   unfold ev at this
   intro e
   exact this (by rw [e])
  generalize sig es (turnR N outs en) d = e at *
  by_cases hl : i + 1 = (turnR N outs en)[x].length
  ·have : i = (turnR N outs en)[x].length - 1 := by omega
   rw [this]; simp
  ·rw [Nat.mod_eq_of_lt (by omega)] at b1 b2
   have : i = (outs.getD x []).length - 1 := by
    apply Classical.byContradiction
    intro hn
    by_cases hlt : i < (outs.getD x []).length
    ·have := a1 hlt
     have := b1 (by omega)
     omega
    ·have := a2 (by omega)
     have := b2 (by omega)
     omega
   rw [this]; simp
 simpa using hle
end
end Go.Proofs.YtneeknlhlkpnpaaGreat
