import Derived.Test.YtneeknlhlkpnpaaGreatZOutsL
import Derived.Test.YtneeknlhlkpnpaaGreatZTurned
import Derived.Test.YtneeknlhlkpnpaaGreatZFlat3
import Derived.Test.YtneeknlhlkpnpaaGreatZRRf
import Derived.Test.YtneeknlhlkpnpaaGreatZFollow
import Derived.Test.YtneeknlhlkpnpaaGreatZBack2
/-
 Plain law: the plan that a rotation tells: each vertex' ups from its list; the source's begun anywhere. Written by an AI agent.
-/
namespace Go.Proofs.YtneeknlhlkpnpaaGreat
open Go.RowKit
def outsK (rs : List (List Int)) (s k : Nat) : List (List Int) := (rs.map outsL).set s (rot (halv (rs.getD s [])) k)
theorem outsK_length (rs : List (List Int)) (s k : Nat) : (outsK rs s k).length = rs.length := by unfold outsK; simp
theorem outsK_src {rs : List (List Int)} {s : Nat} (k : Nat) (hs : s < rs.length) : (outsK rs s k).getD s [] = rot (halv (rs.getD s [])) k := by
 unfold outsK
 rw [getD_set (by simpa using hs), if_pos rfl]
theorem outsK_at {rs : List (List Int)} {s x : Nat} (k : Nat) (hs : s < rs.length) (hx : x < rs.length) (hxs : x ≠ s) : (outsK rs s k).getD x [] = outsL (rs.getD x []) := by
 unfold outsK
 rw [getD_set (by simpa using hs), if_neg hxs, List.getD_eq_getElem?_getD, List.getElem?_map, List.getElem?_eq_getElem hx, List.getD_eq_getElem?_getD, List.getElem?_eq_getElem hx]
 rfl
section
variable {N : Nat} {es : List (Int × Int)} {rs : List (List Int)} {s : Nat}
theorem evI_ev (d : Nat) : evI (d : Int) = ev d := by
 unfold evI ev
 rw [decide_eq_decide]
 omega
theorem src_even (hin : InN N es) (hs0 : inD es s = 0) {d : Nat} (hd : d < 2 * es.length) (hv : vtx es d = s) : ev d = true := by
 cases h : ev d with
 | true => rfl
 | false =>
  have hz2 : d % 2 = 1 := by unfold ev at h; simpa using h
  have h3 := vtx_odd hin (i := d / 2) (by omega)
  rw [show 2 * (d / 2) + 1 = d by omega, hv] at h3
  exact absurd h3.symm (inD_zero.1 hs0 (d / 2) (by omega))
theorem outsK_ok (hg : GoodP N es) (hR : RightP N es rs) (hb : bimB rs = true) (hsN : s < N) (hs : ∀ y, y < N → inD es y = 0 → y = s) (hs0 : inD es s = 0) (k : Nat) : OutsP N es (outsK rs s k) := by
 have hin : InN N es := may_inN hg.may
 have hl : rs.length = N := by have := hR.len; omega
 have key : ∀ x, x < N → ∀ L : List Nat, L.Nodup → (∀ a, a ∈ L ↔ a < es.length ∧ vtx es (2 * a) = x) → (L.map fun a : Nat => (a : Int)).Perm (endsF es Prod.fst (x : Nat) es.length) := fun x hx L hn hm => by
  refine (List.perm_ext_iff_of_nodup ?_ (endsF_nodup _ _ _ _)).2 fun a => ?_
  ·rw [List.nodup_iff_pairwise_ne, List.pairwise_map]
   exact (List.nodup_iff_pairwise_ne.1 hn).imp fun h e => h (by omega)
  ·rw [mem_endsF, List.mem_map]
   constructor
   ·rintro ⟨b, hb, rfl⟩
    obtain ⟨h1, h2⟩ := (hm b).1 hb
    have := vtx_even hin h1
    exact ⟨b, rfl, h1, by omega⟩
   ·rintro ⟨b, rfl, h1, h2⟩
    have := vtx_even hin h1
    exact ⟨b, (hm b).2 ⟨h1, by omega⟩, rfl⟩
 intro x hx
 have hxl : x < rs.length := by omega
 have hrow : rs.getD x [] = rs[x] := by rw [List.getD_eq_getElem?_getD, List.getElem?_eq_getElem hxl]; rfl
 have hel : ∀ a ∈ rs[x], ∃ d : Nat, a = d ∧ d < 2 * es.length ∧ vtx es d = x := fun a ha => by
  obtain ⟨i, hi, rfl⟩ := List.getElem_of_mem ha
  exact hR.nat hxl hi
 have hcov : ∀ d, d < 2 * es.length → vtx es d = x → (d : Int) ∈ rs[x] := fun d hd hv => by
  obtain ⟨y, j, hy, hj, e, hv'⟩ := hR.pos hd
  have : y = x := by rw [← hv', hv]
  subst this
  rw [← e]
  exact List.getElem_mem _
 by_cases hxs : x = s
 ·subst hxs
  rw [outsK_src k hxl, hrow]
  refine (rot_perm _ _).trans ?_
  have e : halv rs[x] = ((rs[x].map Int.toNat).map (· / 2)).map fun a : Nat => (a : Int) := by
   unfold halv
   rw [List.map_map, List.map_map]
   apply List.map_congr_left
   intro a ha
   obtain ⟨d, rfl, _⟩ := hel a ha
   rfl
  rw [e]
  refine key x hx _ ?_ fun a => ?_
  ·rw [List.nodup_iff_pairwise_ne, List.pairwise_map, List.pairwise_map]
   refine (List.nodup_iff_pairwise_ne.1 (hR.nd x hxl)).imp_of_mem fun {a b} ha hb h e => h ?_
   obtain ⟨d, rfl, h1, h2⟩ := hel a ha
   obtain ⟨d', rfl, h3, h4⟩ := hel b hb
   have h5 := src_even hin hs0 h1 h2
   have h6 := src_even hin hs0 h3 h4
   unfold ev at h5 h6
   simp only [decide_eq_true_eq, Int.toNat_natCast] at h5 h6 e
   omega
  ·rw [List.map_map, List.mem_map]
   constructor
   ·rintro ⟨b, hb, rfl⟩
    obtain ⟨d, rfl, h1, h2⟩ := hel b hb
    have h5 := src_even hin hs0 h1 h2
    unfold ev at h5
    simp only [decide_eq_true_eq] at h5
    show d / 2 < es.length ∧ vtx es (2 * (d / 2)) = x
    rw [show 2 * (d / 2) = d by omega]
    exact ⟨by omega, h2⟩
   ·rintro ⟨h1, h2⟩
    refine ⟨((2 * a : Nat) : Int), hcov _ (by omega) h2, ?_⟩
    show (2 * a) / 2 = a
    omega
 ·rw [outsK_at k (by omega) hxl hxs, hrow]
  have hodd : hasOdd es x := by
   have h0 : inD es x ≠ 0 := fun h => hxs (hs x hx h)
   have h0 : ¬ ∀ i, i < es.length → (es.getD i (0, 0)).2 ≠ (x : Int) := fun h => h0 (inD_zero.2 h)
   obtain ⟨i, hi, he⟩ : ∃ i, i < es.length ∧ (es.getD i (0, 0)).2 = (x : Int) := Classical.byContradiction fun hno => h0 fun i hi e => hno ⟨i, hi, e⟩
   have := vtx_odd hin hi
   refine ⟨2 * i + 1, by omega, by omega, ?_⟩
   unfold ev; rw [decide_eq_false (by omega)]
  by_cases heven : hasEven es x
  ·have h1 := (turn_pos hR x).2 ⟨hodd, heven⟩
   unfold turnN at h1
   obtain ⟨g, hg', hp⟩ := List.countP_pos_iff.1 h1
   simp only [Bool.and_eq_true, decide_eq_true_eq, Bool.not_eq_true'] at hp
   obtain ⟨D, P, Q, hN⟩ := norm_at hR hb (List.mem_range.1 hg') hp.1 fun _ _ => hp.2
   obtain ⟨j, hj⟩ := hN.turned
   rw [hrow, hN.parts] at hj
   have hP : P ≠ [] := fun e => by
    obtain ⟨d, h1, h2, h3⟩ := heven
    have hd2 : d % 2 = 0 := by unfold ev at h3; simpa using h3
    have := hN.memP (a := d / 2) |>.2 ⟨by omega, by rw [show 2 * (d / 2) = d by omega]; exact h2⟩
    rw [e] at this
    cases this
   have hQ : Q.reverse ≠ [] := fun e => by
    obtain ⟨d, h1, h2, h3⟩ := hodd
    have hd2 : d % 2 = 1 := by unfold ev at h3; simpa using h3
    have := hN.memQ (a := d / 2) |>.2 ⟨by omega, by rw [show 2 * (d / 2) + 1 = d by omega]; exact h2⟩
    rw [List.reverse_eq_nil_iff.1 e] at this
    cases this
   rw [outsL_norm hj hP hQ]
   exact key x hx P hN.ndP fun a => hN.memP
  ·have e : outsL rs[x] = [] := outsL_all (b := false) fun a ha => by
    obtain ⟨d, rfl, h1, h2⟩ := hel a ha
    rw [evI_ev]
    cases h3 : ev d with
    | false => rfl
    | true => exact absurd ⟨d, h1, h2, h3⟩ heven
   rw [e]
   have h0 := key x hx [] List.nodup_nil fun a => ⟨fun h => (by cases h), fun h => absurd ⟨2 * a, by omega, h.2, by unfold ev; simp⟩ heven⟩
   exact h0
end
section
variable {N : Nat} {es : List (Int × Int)} {ord : List Int} {outs rs : List (List Int)} {en : List (List Itm)} {l : List Nat} {rF : List Itm} {s : Nat}
theorem PlanR.downs (h : PlanR N es ord outs en l rF s) {x : Nat} (hx : x < N) : ∃ Q : List Nat, inH (en.getD x []).reverse = Q.map fun a => ((2 * a + 1 : Nat) : Int) := by
 refine ⟨((en.getD x []).reverse.filter fun e => decide (e.1 ≠ -1)).map fun e => e.1.toNat, ?_⟩
 unfold inH
 rw [List.map_map]
 apply List.map_congr_left
 intro e he
 obtain ⟨h1, h2⟩ := List.mem_filter.1 he
 have h2 := of_decide_eq_true h2
 rcases h.item hx (List.mem_reverse.1 h1) with ⟨i, _, _, rfl⟩ | h3
 ·show 2 * (i : Int) + 1 = ((2 * (i : Int).toNat + 1 : Nat) : Int)
  rw [Int.toNat_natCast]; omega
 ·exact absurd h3 h2
theorem PlanR.srcIn (h : PlanR N es ord outs en l rF s) : inH (en.getD s []).reverse = [] := by
 unfold inH
 rw [List.filter_eq_nil_iff.2, List.map_nil]
 intro e he
 rcases h.item h.sN (List.mem_reverse.1 he) with ⟨i, hi, h1, _⟩ | h3
 ·exact absurd h1 (inD_zero.1 h.sin i hi)
 ·rw [h3]; simp
theorem PlanR.ups (h : PlanR N es ord outs en l rF s) {x : Nat} (hx : x < N) : outs.getD x [] = ((outs.getD x []).map Int.toNat).map fun a : Nat => (a : Int) := by
 rw [List.map_map]
 conv => lhs; rw [← List.map_id (outs.getD x [])]
 apply List.map_congr_left
 intro a ha
 obtain ⟨i, rfl, _⟩ := (h.outm hx).1 ha
 rfl
theorem PlanR.outsK (h : PlanR N es ord outs en l rF s) (hT : TurnsTo (turnR N outs en) rs) : ∃ k, (k < (halv (rs.getD s [])).length ∨ k = 0) ∧ outsK rs s k = outs := by
 have hl : rs.length = N := by rw [hT.1, turnR_length]
 have hrow : ∀ x, x < N → ∃ i, rot (rs.getD x []) i = turnRow (outs.getD x []) (en.getD x []) := fun x hx => by
  obtain ⟨i, e⟩ := hT.symm.2 x (by omega)
  exact ⟨i, by rw [e, turnR_at hx]⟩
 obtain ⟨i0, e0⟩ := hrow s h.sN
 have e1 : rot (halv (rs.getD s [])) i0 = outs.getD s [] := by
  unfold halv
  rw [rot_map, e0]
  unfold turnRow
  rw [h.srcIn, List.append_nil]
  unfold outH
  rw [List.map_map]
  conv => rhs; rw [← List.map_id (outs.getD s [])]
  apply List.map_congr_left
  intro a _
  show (2 * a) / 2 = a
  omega
 obtain ⟨k, hk, ek⟩ : ∃ k, (k < (halv (rs.getD s [])).length ∨ k = 0) ∧ rot (halv (rs.getD s [])) k = outs.getD s [] := by
  by_cases hi : i0 < (halv (rs.getD s [])).length
  ·exact ⟨i0, .inl hi, e1⟩
  ·exact ⟨0, .inr rfl, by rw [rot_zero, ← e1, rot_over (by omega)]⟩
 refine ⟨k, hk, ?_⟩
 have hlen : (Go.Proofs.YtneeknlhlkpnpaaGreat.outsK rs s k).length = N := by rw [outsK_length, hl]
 have hg : ∀ x, x < N → (Go.Proofs.YtneeknlhlkpnpaaGreat.outsK rs s k).getD x [] = outs.getD x [] := fun x hx => by
  by_cases hxs : x = s
  ·subst hxs
   rw [outsK_src k (by omega), ek]
  ·rw [outsK_at k (by have := h.sN; omega) (by omega) hxs]
   obtain ⟨i, e⟩ := hrow x hx
   obtain ⟨Q, hQ⟩ := h.downs hx
   have hU := h.ups hx
   obtain ⟨P, hP⟩ : ∃ P, P = (outs.getD x []).map Int.toNat := ⟨_, rfl⟩
   rw [← hP] at hU
   have er : rot (rs.getD x []) i = (P.map (fun a => 2 * a) ++ Q.map fun a => 2 * a + 1).map fun d : Nat => (d : Int) := by
    rw [e]
    unfold turnRow outH
    rw [hQ, hU, List.map_append, List.map_map, List.map_map, List.map_map]
    congr 1
   have hQn : Q ≠ [] := fun e => by
    have h0 : inD es x ≠ 0 := fun h0 => hxs (h.src x hx h0)
    have h0 : ¬ ∀ i, i < es.length → (es.getD i (0, 0)).2 ≠ (x : Int) := fun h1 => h0 (inD_zero.2 h1)
    obtain ⟨i, hi, he⟩ : ∃ i, i < es.length ∧ (es.getD i (0, 0)).2 = (x : Int) := Classical.byContradiction fun hno => h0 fun i hi e => hno ⟨i, hi, e⟩
    have h1 := h.edge hx hi he
    have h2 : (2 * (i : Int) + 1) ∈ inH (en.getD x []).reverse := by
     unfold inH
     refine List.mem_map.2 ⟨itE es i, List.mem_filter.2 ⟨List.mem_reverse.2 h1, ?_⟩, rfl⟩
     refine decide_eq_true ?_
     show (i : Int) ≠ -1
     omega
    rw [hQ, e] at h2
    cases h2
   by_cases hPn : P = []
   ·rw [hU, hPn]
    refine outsL_all (b := false) fun a ha => ?_
    have ha : a ∈ rot (rs.getD x []) i := rot_mem.2 ha
    rw [er, hPn, List.map_nil, List.nil_append, List.map_map] at ha
    obtain ⟨b, _, rfl⟩ := List.mem_map.1 ha
    exact evI_odd b
   ·rw [outsL_norm er hPn hQn, ← hU]
 apply List.ext_getElem
 ·rw [hlen, h.outl]
 ·intro x h1 h2
  have := hg x (by omega)
  rw [List.getD_eq_getElem?_getD, List.getElem?_eq_getElem h1, List.getD_eq_getElem?_getD, List.getElem?_eq_getElem h2] at this
  exact this
end
end Go.Proofs.YtneeknlhlkpnpaaGreat
