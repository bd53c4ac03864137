import Derived.Test.YtneeknlhlkpnpaaGreatZRPlain
import Derived.Test.YtneeknlhlkpnpaaGreatZFaceOrb
import Derived.Test.YtneeknlhlkpnpaaGreatZRGr
import Derived.Test.YtneeknlhlkpnpaaGreatZFit2
/-
 Plain law: the great angles of a plan's turn fit. Written by an AI agent.
-/
namespace Go.Proofs.YtneeknlhlkpnpaaGreat
open Go.RowKit
section
variable {n : Int} {es : List (Int × Int)} {rs : List (List Int)} {great room : List Int}
theorem fitGo_ok {k : Nat} (ht : ∀ x, x < k → tipB es x = true → ∃ h : Nat, great.getD x 0 = h ∧ h < 2 * es.length ∧ vtx es h = x ∧ angF n es rs h < room.length) (hn : ∀ x, x < k → tipB es x = false → great.getD x 0 = -1) :
  ∃ r, fitGo n es rs great room k = some r ∧ r.length = room.length ∧ ∀ f, f < room.length → r.getD f 0 = room.getD f 0 - (((List.range k).countP fun x => tipB es x && decide (angF n es rs (great.getD x 0).toNat = f) : Nat) : Int) := by
 induction k with
 | zero => exact ⟨room, rfl, rfl, fun f _ => by simp⟩
 | succ k ih =>
  obtain ⟨r, h1, h2, h3⟩ := ih (fun x hx => ht x (by omega)) (fun x hx => hn x (by omega))
  rw [fitGo_succ, h1]
  unfold fitStep
  simp only
  cases hb : tipB es k with
  | true =>
   obtain ⟨h, e, hh, hv, hf⟩ := ht k (by omega) hb
   rw [if_pos rfl, if_pos (by rw [e]; exact ⟨by omega, by omega, by simpa using hv⟩)]
   refine ⟨_, rfl, by rw [List.length_set]; exact h2, fun f hff => ?_⟩
   rw [List.range_succ, List.countP_append, List.countP_singleton, hb, Bool.true_and, e, Int.toNat_natCast]
   rw [List.getD_eq_getElem?_getD, List.getElem?_set]
   by_cases hq : angF n es rs h = f
   ·rw [if_pos hq, if_pos (by rw [hq, h2]; exact hff), decide_eq_true hq, if_pos rfl, Option.getD_some, hq, h3 f hff]
    omega
   ·rw [if_neg hq, decide_eq_false hq, if_neg (by simp), ← List.getD_eq_getElem?_getD, h3 f hff]
    omega
  | false =>
   rw [if_neg (by simp), if_pos (hn k (by omega) hb)]
   refine ⟨r, rfl, h2, fun f hff => ?_⟩
   rw [List.range_succ, List.countP_append, List.countP_singleton, hb, Bool.false_and, if_neg (by simp), h3 f hff]
   omega
theorem angF_sig (hR : RightP n es rs) {d : Nat} (hd : d < 2 * es.length) : angF n es rs (ot (sig es rs d)) = angF n es rs d := by
 rw [angF_orb hR (ot_lt (vtx_sig hR hd).1) hd, ot_ot]
 refine Orb.symm (nxf_perm hR) (ot_lt hd) ⟨1, ?_⟩
 show nxf es rs (ot d) = sig es rs d
 rfl
end
theorem count_one {p : Nat → Bool} {N a : Nat} (ha : a < N) (hp : p a = true) (hu : ∀ b, b < N → p b = true → b = a) : (List.range N).countP p = 1 := by
 have h := countP_less (p := p) (q := fun h => p h && !decide (h = a)) (m := a) hp (fun _ => rfl) N
 rw [if_pos ha] at h
 have h0 : (List.range N).countP (fun h => p h && !decide (h = a)) = 0 := by
  rw [List.countP_eq_zero]
  intro b hb hpb
  have hb := List.mem_range.1 hb
  rw [Bool.and_eq_true] at hpb
  have := hu b hb hpb.1
  rw [this] at hpb
  simp at hpb
 omega
section
variable {N : Nat} {es : List (Int × Int)} {ord : List Int} {outs : List (List Int)} {en : List (List Itm)} {l : List Nat} {rF : List Itm} {s : Nat}
theorem PlanR.labFace (h : PlanR N es ord outs en l rF s) {d e : Nat} (hd : d < 2 * es.length) (he : e < 2 * es.length) (hf : angF N es (turnR N outs en) (ot d) = angF N es (turnR N outs en) (ot e)) : labD es (planL es outs en l) (planR es outs en l) d = labD es (planL es outs en l) (planR es outs en l) e := by
 rw [angF_orb h.right (ot_lt hd) (ot_lt he), ot_ot, ot_ot] at hf
 obtain ⟨i, hi⟩ := hf
 subst hi
 have hP := nxf_perm h.right
 have : ∀ (i x : Nat), x < 2 * es.length → labD es (planL es outs en l) (planR es outs en l) x = labD es (planL es outs en l) (planR es outs en l) (iter (nxf es (turnR N outs en)) i x) := by
  intro i
  induction i with
  | zero => intro x _; rfl
  | succ i ih => intro x hx; rw [← h.lab_next hx]; exact ih _ (hP.lt x hx)
 exact this i d hd
theorem PlanR.inRow (h : PlanR N es ord outs en l rF s) {x : Nat} (hx : x < N) (hE : en.getD x [] ≠ []) : ∃ a : Nat, a < es.length ∧ (es.getD a (0, 0)).2 = (x : Int) ∧ (en.getD x []).getLast? = some (itE es a) ∧ (inH (en.getD x []).reverse).head? = some ((2 * a + 1 : Nat) : Int) := by
 obtain ⟨_, e, he, hex⟩ := h.inv.ends x hx hE
 rcases h.item hx (List.mem_of_getLast? he) with ⟨a, ha, h1, rfl⟩ | h1
 ·refine ⟨a, ha, h1, he, ?_⟩
  obtain ⟨q, hq⟩ := List.getLast?_eq_some_iff.1 he
  rw [hq]
  unfold inH
  rw [List.reverse_append]
  simp [itE]
 ·rcases h.inv.item h.outp (List.mem_append_right _ (mem_flatten_getD (List.mem_of_getLast? he))) with ⟨i, hi, _, rfl⟩ | ⟨u, _, _, rfl⟩
  ·simp [itE] at h1
  ·simp at hex
theorem PlanR.rowAt (h : PlanR N es ord outs en l rF s) {x i : Nat} (hx : x < (turnR N outs en).length) (hi : i < (turnR N outs en)[x].length) {d : Nat} (he : (turnR N outs en)[x][i] = (d : Int)) :
  (i < (outs.getD x []).length → d % 2 = 0) ∧ ((outs.getD x []).length ≤ i → d % 2 = 1) ∧ (d % 2 = 1 → (lastE es en (d / 2) = true ↔ i = (outs.getD x []).length)) := by
 have hxN : x < N := by simpa [turnR_length] using hx
 have hrow : (turnR N outs en)[x] = turnRow (outs.getD x []) (en.getD x []) := by
  rw [← turnR_at hxN, List.getD_eq_getElem?_getD, List.getElem?_eq_getElem hx]; rfl
 have ho : (outH (outs.getD x [])).length = (outs.getD x []).length := by simp [outH]
 have he' := he
 simp only [hrow] at he
 unfold turnRow at he
 rw [List.getElem_append] at he
 have p1 : i < (outs.getD x []).length → d % 2 = 0 := fun hlt => by
  rw [dif_pos (by rw [ho]; exact hlt)] at he
  have hm := List.getElem_mem (l := outH (outs.getD x [])) (by rw [ho]; exact hlt)
  rw [he] at hm
  obtain ⟨k, _, hk⟩ := List.mem_map.1 hm
  omega
 have p2 : (outs.getD x []).length ≤ i → d % 2 = 1 := fun hge => by
  rw [dif_neg (by rw [ho]; omega)] at he
  have hm : ((d : Nat) : Int) ∈ inH (en.getD x []).reverse := by rw [← he]; exact List.getElem_mem _
  obtain ⟨k, _, hk⟩ := List.mem_map.1 hm
  omega
 refine ⟨p1, p2, fun hodd => ?_⟩
 have hge : (outs.getD x []).length ≤ i := by
  apply Classical.byContradiction
  intro hlt
  have := p1 (by omega)
  omega
 rw [dif_neg (by rw [ho]; omega)] at he
 have hm : ((d : Nat) : Int) ∈ inH (en.getD x []).reverse := by rw [← he]; exact List.getElem_mem _
 have hE : en.getD x [] ≠ [] := by
  intro e0
  rw [e0] at hm
  simp [inH] at hm
 obtain ⟨a, ha, hax, hl, hhd⟩ := h.inRow hxN hE
 have hlen0 : 0 < (inH (en.getD x []).reverse).length := List.length_pos_of_mem hm
 have h0 : (inH (en.getD x []).reverse)[0] = ((2 * a + 1 : Nat) : Int) := by
  rw [List.head?_eq_getElem?, List.getElem?_eq_getElem hlen0] at hhd
  exact Option.some.inj hhd
 have hdm : d < 2 * es.length ∧ vtx es d = x := by
  obtain ⟨d', h1, h2, h3⟩ := h.right.nat hx hi
  rw [he'] at h1
  have : d = d' := by omega
  rw [this]; exact ⟨h2, h3⟩
 have hin : InN N es := by have := right_inN h.right; rwa [turnR_length] at this
 have hd2 : (es.getD (d / 2) (0, 0)).2 = (x : Int) := by
  rw [← vtx_odd hin (by omega), show 2 * (d / 2) + 1 = d by omega, hdm.2]
 have hnd : (turnR N outs en)[x].Nodup := h.right.nd x hx
 have hlast : lastE es en (d / 2) = true ↔ d / 2 = a := by
  rw [lastE_iff, hd2, Int.toNat_natCast, hl]
  constructor
  ·intro e
   have := congrArg Prod.fst (Option.some.inj e)
   simp only [itE] at this
   omega
  ·intro e; rw [e]
 rw [hlast]
 constructor
 ·intro e
  have hdd : d = 2 * a + 1 := by omega
  have hnI : (inH (en.getD x []).reverse).Nodup := by
   rw [hrow] at hnd
   exact (List.nodup_append.1 hnd).2.1
  have := nodup_at hnI (i := 0) (j := i - (outH (outs.getD x [])).length) hlen0 (by
   have := hi
   simp only [hrow] at this
   unfold turnRow at this
   rw [List.length_append] at this
   omega) (by rw [h0, he, hdd])
  omega
 ·intro e
  have : ∀ (k : Nat) (hk : k < (inH (en.getD x []).reverse).length), k = 0 → (inH (en.getD x []).reverse)[k] = ((2 * a + 1 : Nat) : Int) := fun k hk e => by subst e; exact h0
  have h2 := this _ (by
   have := hi
   simp only [hrow] at this
   unfold turnRow at this
   rw [List.length_append] at this
   omega) (by rw [ho]; omega : i - (outH (outs.getD x [])).length = 0)
  rw [h2] at he
  omega
theorem PlanR.high (h : PlanR N es ord outs en l rF s) {d : Nat} (hd : d < 2 * es.length) : angK es (turnR N outs en) d = 2 ↔ sig es (turnR N outs en) d % 2 = 1 ∧ (lastE es en (sig es (turnR N outs en) d / 2) = false ∨ outs.getD (vtx es d) [] = []) := by
 have hR := h.right
 obtain ⟨x, i, hx, hi, he, hv⟩ := hR.pos hd
 have h1 := sig_pos hR hx hi he
 obtain ⟨a1, a2, _⟩ := h.rowAt hx hi he
 obtain ⟨b1, b2, b3⟩ := h.rowAt hx (Nat.mod_lt _ (by omega)) h1
 unfold angK
 rw [kindF_high]
 have ev_iff : ∀ k, ev k = false ↔ k % 2 = 1 := fun k => by unfold ev; simp
 rw [ev_iff, ev_iff, hv]
 generalize sig es (turnR N outs en) d = e at *
 have hmod : (i + 1) % (turnR N outs en)[x].length = if i + 1 = (turnR N outs en)[x].length then 0 else i + 1 := by
  split
  ·rename_i e1; rw [e1]; exact Nat.mod_self _
  ·exact Nat.mod_eq_of_lt (by omega)
 rw [hmod] at b1 b2 b3
 by_cases hp : (outs.getD x []).length = 0
 ·have hno : outs.getD x [] = [] := List.length_eq_zero_iff.1 hp
  exact ⟨fun ⟨_, k2⟩ => ⟨k2, .inr hno⟩, fun ⟨k1, _⟩ => ⟨a2 (by omega), k1⟩⟩
 ·have hno : outs.getD x [] ≠ [] := fun e => hp (by rw [e]; rfl)
  constructor
  ·rintro ⟨k1, k2⟩
   refine ⟨k2, .inl ?_⟩
   have hge : (outs.getD x []).length ≤ i := by
    apply Classical.byContradiction
    intro hlt
    have := a1 (by omega)
    omega
   cases hl : lastE es en (e / 2) with
   | false => rfl
   | true =>
    have := (b3 k2).1 hl
    split at this <;> omega
  ·rintro ⟨k1, k2⟩
   refine ⟨?_, k1⟩
   rcases k2 with k2 | k2
   ·have h3 := b3 k1
    rw [k2] at h3
    apply a2
    apply Classical.byContradiction
    intro hlt
    split at h3
    ·rename_i e1
     rw [if_pos e1] at b1
     have := b1 (by omega)
     omega
    ·rename_i e1
     rw [if_neg e1] at b1
     by_cases h4 : i + 1 < (outs.getD x []).length
     ·have := b1 h4
      omega
     ·exact absurd (h3.2 (by omega)) (by simp)
   ·exact absurd k2 hno
theorem PlanR.bim (h : PlanR N es ord outs en l rF s) : bimB (turnR N outs en) = true := by
 unfold bimB
 rw [List.all_eq_true]
 intro q hq
 obtain ⟨x, hx, rfl⟩ := List.getElem_of_mem hq
 rw [decide_eq_true_iff]
 have hle : plU (turnR N outs en)[x] (turnR N outs en)[x].length ≤ [(outs.getD x []).length - 1, (turnR N outs en)[x].length - 1].length := by
  unfold plU
  rw [List.countP_eq_length_filter]
  refine List.Nodup.length_le_of_subset (List.nodup_range.filter _) fun i hi => ?_
  obtain ⟨hi, hk⟩ := List.mem_filter.1 hi
  have hi := List.mem_range.1 hi
  have hk := of_decide_eq_true hk
  obtain ⟨d, he, hd, _⟩ := h.right.nat hx hi
  have h1 := sig_pos h.right hx hi he
  obtain ⟨a1, a2, _⟩ := h.rowAt hx hi he
  obtain ⟨b1, b2, _⟩ := h.rowAt hx (Nat.mod_lt _ (by omega)) h1
  have hkk : kL (turnR N outs en)[x] i = kindF d (sig es (turnR N outs en) d) := by
   unfold kL
   rw [List.getD_eq_getElem?_getD, List.getElem?_eq_getElem hi, List.getD_eq_getElem?_getD, List.getElem?_eq_getElem (Nat.mod_lt _ (by omega)), Option.getD_some, Option.getD_some, he, h1]
   rfl
  rw [hkk] at hk
  have hne : d % 2 ≠ sig es (turnR N outs en) d % 2 := by
   have := (kindF_plain _ _).1 hk
   unfold ev at this
   intro e
   exact this (by rw [e])
  generalize sig es (turnR N outs en) d = e at *
  by_cases hl : i + 1 = (turnR N outs en)[x].length
  ·have : i = (turnR N outs en)[x].length - 1 := by omega
   rw [this]; simp
  ·rw [Nat.mod_eq_of_lt (by omega)] at b1 b2
   have : i = (outs.getD x []).length - 1 := by
    apply Classical.byContradiction
    intro hn
    by_cases hlt : i < (outs.getD x []).length
    ·have := a1 hlt
     have := b1 (by omega)
     omega
    ·have := a2 (by omega)
     have := b2 (by omega)
     omega
   rw [this]; simp
 simpa using hle
end
end Go.Proofs.YtneeknlhlkpnpaaGreat
