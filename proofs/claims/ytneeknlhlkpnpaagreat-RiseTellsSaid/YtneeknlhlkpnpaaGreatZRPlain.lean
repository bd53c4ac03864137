import Derived.Test.YtneeknlhlkpnpaaGreatZRRun
import Derived.Test.YtneeknlhlkpnpaaGreatZWeb
import Derived.Test.YtneeknlhlkpnpaaGreatZEul
/-
 Plain law: where a vertex is placed in the row. Written by an AI agent.
-/
namespace Go.Proofs.YtneeknlhlkpnpaaGreat
open Go.RowKit
theorem span_spec (x : Int) (r : List Itm) : ∀ k, k ≤ r.length → (spanP x r k).2.2 = ((r.take k).countP fun e => decide (e.2.2 = x) : Nat) ∧
  (((spanP x r k) = (-1, 0, 0) ∧ ∀ e ∈ r.take k, e.2.2 ≠ x) ∨
   ∃ f t : Nat, (spanP x r k).1 = f ∧ (spanP x r k).2.1 = t ∧ f < t ∧ t ≤ k ∧ (∃ e, r[f]? = some e ∧ e.2.2 = x) ∧ (∃ e, r[t - 1]? = some e ∧ e.2.2 = x) ∧ (∀ e ∈ r.take f, e.2.2 ≠ x) ∧ ∀ e ∈ (r.take k).drop t, e.2.2 ≠ x)
 | 0, _ => ⟨rfl, .inl ⟨rfl, fun e he => absurd he (by simp)⟩⟩
 | k + 1, hk => by
  obtain ⟨h1, h2⟩ := span_spec x r k (by omega)
  have hkl : k < r.length := by omega
  have hg : r.getD k (0, 0, 0) = r[k] := by rw [List.getD_eq_getElem?_getD, List.getElem?_eq_getElem hkl]; rfl
  have ht : r.take (k + 1) = r.take k ++ [r[k]] := List.take_succ_eq_append_getElem hkl
  rw [spanP, hg]
  by_cases hx : r[k].2.2 = x
  ·rw [if_pos hx]
   refine ⟨by rw [ht, List.countP_append, h1]; simp [hx], .inr ?_⟩
   rcases h2 with ⟨e, h3⟩ | ⟨f, t, e1, e2, h3, h4, h5, h6, h7, h8⟩
   ·rw [e]
    refine ⟨k, k + 1, rfl, rfl, by omega, by omega, ⟨r[k], List.getElem?_eq_getElem hkl, hx⟩, ⟨r[k], List.getElem?_eq_getElem hkl, hx⟩, h3, fun e he => ?_⟩
    rw [List.drop_eq_nil_of_le (by simp; omega)] at he
    cases he
   ·rw [if_neg (by omega)]
    refine ⟨f, k + 1, e1, rfl, by omega, by omega, h5, ⟨r[k], List.getElem?_eq_getElem hkl, hx⟩, h7, fun e he => ?_⟩
    rw [List.drop_eq_nil_of_le (by simp; omega)] at he
    cases he
  ·rw [if_neg hx]
   refine ⟨by rw [ht, List.countP_append, h1]; simp [hx], ?_⟩
   rcases h2 with ⟨e, h3⟩ | ⟨f, t, e1, e2, h3, h4, h5, h6, h7, h8⟩
   ·refine .inl ⟨e, fun e he => ?_⟩
    rw [ht] at he
    rcases List.mem_append.1 he with he | he
    ·exact h3 e he
    ·rw [List.mem_singleton.1 he]; exact hx
   ·refine .inr ⟨f, t, e1, e2, h3, by omega, h5, h6, h7, fun e he => ?_⟩
    rw [ht, List.drop_append, List.length_take] at he
    rcases List.mem_append.1 he with he | he
    ·exact h8 e he
    ·rw [show t - min k r.length = 0 by omega, List.drop_zero] at he
     rw [List.mem_singleton.1 he]; exact hx
theorem bare_iff {x : Int} {r : List Itm} : bareB x r = true ↔ ∀ e ∈ r, e.2.2 = x ∨ e.2.2 = -1 := by
 unfold bareB anyB
 rw [Bool.not_eq_true', List.any_eq_false]
 constructor
 ·intro h e he
  obtain ⟨i, hi, rfl⟩ := List.mem_iff_getElem.1 he
  have := h i (List.mem_range.2 hi)
  rw [List.getD_eq_getElem?_getD, List.getElem?_eq_getElem hi] at this
  simp only [Option.getD_some, barF, Bool.and_eq_true, bne_iff_ne, ne_eq, not_and] at this
  by_cases h1 : r[i].2.2 = x
  ·exact .inl h1
  ·exact .inr (Classical.not_not.1 (this h1))
 ·intro h i hi
  have hi := List.mem_range.1 hi
  rw [List.getD_eq_getElem?_getD, List.getElem?_eq_getElem hi]
  simp only [Option.getD_some, barF, Bool.and_eq_true, bne_iff_ne, ne_eq, not_and]
  intro h1
  rcases h _ (List.getElem_mem hi) with h2 | h2
  ·exact absurd h2 h1
  ·simp [h2]
def inD (es : List (Int × Int)) (x : Nat) : Nat := (endsF es Prod.snd (x : Nat) es.length).length
structure CutR (es : List (Int × Int)) (r : List Itm) (x : Nat) (A E B : List Itm) : Prop where
 row : r = A ++ E ++ B
 gone : goneR r x = E
 place : ∀ o, placeR es r x o = A ++ aboveR es x o ++ B
 out : ∀ e ∈ A ++ B, e.2.2 ≠ (x : Int)
 ine : ∀ e ∈ E, e.2.2 = (x : Int) ∨ e.2.2 = -1
 cnt : (E.countP fun e => decide (e.2.2 = (x : Int))) = inD es x
 nil : E = [] → A = [] ∧ inD es x = 0
 ends : E ≠ [] → (∃ e, E.head? = some e ∧ e.2.2 = (x : Int)) ∧ ∃ e, E.getLast? = some e ∧ e.2.2 = (x : Int)
theorem idx_not {pl : List Int} {x : Int} (h : ¬ idxF pl x ≥ 0) : x ∉ pl := by
 unfold idxF at h
 cases hq : pl.findIdx? (fun a => decide (x = a)) with
 | some i => rw [hq] at h; exact absurd (by simp : ((i : Nat) : Int) ≥ 0) h
 | none =>
  rw [List.findIdx?_eq_none_iff] at hq
  intro hm
  have := hq x hm
  simp at this
theorem idx_in {pl : List Int} {x : Int} (h : x ∉ pl) : ¬ idxF pl x ≥ 0 := by
 unfold idxF
 cases hq : pl.findIdx? (fun a => decide (x = a)) with
 | some i =>
  rw [List.findIdx?_eq_some_iff_getElem] at hq
  obtain ⟨hi, h1, _⟩ := hq
  exact absurd (by rw [of_decide_eq_true h1]; exact List.getElem_mem hi) h
 | none => simp
theorem ready_cut {es : List (Int × Int)} {r : List Itm} {pl : List Int} {x : Nat} (h : readyR es r pl x = true) : (x : Int) ∉ pl ∧ ∃ A E B, CutR es r x A E B := by
 unfold readyR at h
 simp only [Bool.and_eq_true, Bool.or_eq_true, Bool.not_eq_true', decide_eq_false_iff_not, decide_eq_true_eq] at h
 obtain ⟨⟨h1, h2⟩, h3⟩ := h
 refine ⟨idx_not h1, ?_⟩
 obtain ⟨hc, hs⟩ := span_spec (x : Int) r r.length (Nat.le_refl _)
 rw [List.take_length] at hc hs
 rw [hc] at h2
 have h2 : (r.countP fun e => decide (e.2.2 = (x : Int))) = inD es x := by unfold inD; omega
 rcases hs with ⟨e, h4⟩ | ⟨f, t, e1, e2, h4, h5, h6, h7, h8, h9⟩
 ·have hz : (r.countP fun e => decide (e.2.2 = (x : Int))) = 0 := by
   rw [List.countP_eq_zero]; intro a ha; simpa using h4 a ha
  refine ⟨[], [], r, by simp, by unfold goneR; rw [e]; simp, fun o => by unfold placeR swapR; rw [e]; simp, by simpa using h4, by simp, by simp [← h2, hz], fun _ => ⟨rfl, by rw [← h2, hz]⟩, fun h => absurd rfl h⟩
 ·have hf : f < r.length := by omega
  obtain ⟨ef, hef, hfx⟩ := h6
  obtain ⟨et, het, htx⟩ := h7
  have hpos : (endsF es Prod.snd (x : Nat) es.length).length ≠ 0 := by
   have : 0 < r.countP fun e => decide (e.2.2 = (x : Int)) := List.countP_pos_iff.2 ⟨ef, List.mem_of_getElem? hef, by simpa using hfx⟩
   unfold inD at h2
   omega
  have h3 := h3.resolve_left hpos
  rw [e1, e2] at h3
  simp only [Int.toNat_natCast] at h3
  have hE : (r.take t).drop f ≠ [] := by
   intro e
   have := congrArg List.length e
   simp at this
   omega
  have hrow : r = r.take f ++ (r.take t).drop f ++ r.drop t := by
   conv => lhs; rw [← List.take_append_drop t r, ← List.take_append_drop f (r.take t)]
   rw [List.take_take, Nat.min_eq_left (by omega)]
  refine ⟨r.take f, (r.take t).drop f, r.drop t, hrow, by unfold goneR; rw [e1, e2]; rfl, fun o => by unfold placeR swapR; rw [e1, e2]; simp, fun e he => ?_, bare_iff.1 h3, ?_, fun e => absurd e hE, fun _ => ⟨⟨ef, ?_, hfx⟩, et, ?_, htx⟩⟩
  ·rcases List.mem_append.1 he with he | he
   ·exact h8 e he
   ·exact h9 e he
  ·have hc := congrArg (List.countP fun e : Itm => decide (e.2.2 = (x : Int))) hrow
   rw [List.countP_append, List.countP_append, h2] at hc
   have z1 : (r.take f).countP (fun e : Itm => decide (e.2.2 = (x : Int))) = 0 := by rw [List.countP_eq_zero]; intro a ha; simpa using h8 a ha
   have z2 : (r.drop t).countP (fun e : Itm => decide (e.2.2 = (x : Int))) = 0 := by rw [List.countP_eq_zero]; intro a ha; simpa using h9 a ha
   omega
  ·rw [List.head?_drop, List.getElem?_take_of_lt h4, hef]
  ·rw [List.getLast?_drop, if_neg (by simp; omega), List.getLast?_take, if_neg (by omega), het]; rfl
theorem cut_ready {es : List (Int × Int)} {r : List Itm} {pl : List Int} {x : Nat} {A E B : List Itm} (hx : (x : Int) ∉ pl) (hr : r = A ++ E ++ B) (ho : ∀ e ∈ A ++ B, e.2.2 ≠ (x : Int)) (hi : ∀ e ∈ E, e.2.2 = (x : Int) ∨ e.2.2 = -1)
  (hc : (E.countP fun e => decide (e.2.2 = (x : Int))) = inD es x) (hn : E = [] → A = [] ∧ inD es x = 0) (he : E ≠ [] → (∃ e, E.head? = some e ∧ e.2.2 = (x : Int)) ∧ ∃ e, E.getLast? = some e ∧ e.2.2 = (x : Int)) : readyR es r pl x = true ∧ CutR es r x A E B := by
 obtain ⟨hcn, hs⟩ := span_spec (x : Int) r r.length (Nat.le_refl _)
 rw [List.take_length] at hcn hs
 have hcr : (r.countP fun e => decide (e.2.2 = (x : Int))) = inD es x := by
  rw [hr, List.countP_append, List.countP_append, hc]
  have z1 : A.countP (fun e : Itm => decide (e.2.2 = (x : Int))) = 0 := by rw [List.countP_eq_zero]; intro a ha; simpa using ho a (List.mem_append_left _ ha)
  have z2 : B.countP (fun e : Itm => decide (e.2.2 = (x : Int))) = 0 := by rw [List.countP_eq_zero]; intro a ha; simpa using ho a (List.mem_append_right _ ha)
  omega
 have key : ((spanP (x : Int) r r.length).1.toNat = A.length ∧ (spanP (x : Int) r r.length).2.1.toNat = A.length + E.length) := by
  by_cases hE : E = []
  ·obtain ⟨h1, h2⟩ := hn hE
   rcases hs with ⟨e, h4⟩ | ⟨f, t, e1, e2, h4, h5, ⟨ef, hef, hfx⟩, _⟩
   ·rw [e, h1, hE]; exact ⟨rfl, rfl⟩
   ·exfalso
    subst hE h1
    exact ho ef (by have := List.mem_of_getElem? hef; rw [hr] at this; simpa using this) hfx
  ·obtain ⟨⟨ea, ha1, ha2⟩, eb, hb1, hb2⟩ := he hE
   have hlE : 0 < E.length := List.length_pos_iff.2 hE
   have ga : r[A.length]? = some ea := by
    rw [hr, List.append_assoc, List.getElem?_append_right (Nat.le_refl _), Nat.sub_self, List.getElem?_append_left hlE, ← List.head?_eq_getElem?, ha1]
   have gb : r[A.length + E.length - 1]? = some eb := by
    rw [hr, List.append_assoc, List.getElem?_append_right (by omega), List.getElem?_append_left (by omega), show A.length + E.length - 1 - A.length = E.length - 1 by omega, ← List.getLast?_eq_getElem?, hb1]
   have hlr : r.length = A.length + E.length + B.length := by rw [hr]; simp; omega
   have outA : ∀ k, k < A.length → ∀ e, r[k]? = some e → e.2.2 ≠ (x : Int) := fun k hk e h => by
    rw [hr, List.append_assoc, List.getElem?_append_left hk] at h
    exact ho e (List.mem_append_left _ (List.mem_of_getElem? h))
   have outB : ∀ k, A.length + E.length ≤ k → ∀ e, r[k]? = some e → e.2.2 ≠ (x : Int) := fun k hk e h => by
    rw [hr, List.getElem?_append_right (by simp; omega)] at h
    exact ho e (List.mem_append_right _ (List.mem_of_getElem? h))
   rcases hs with ⟨e, h4⟩ | ⟨f, t, e1, e2, h4, h5, ⟨ef, hef, hfx⟩, ⟨et, het, htx⟩, h8, h9⟩
   ·exact absurd ha2 (h4 ea (List.mem_of_getElem? ga))
   ·rw [e1, e2]
    simp only [Int.toNat_natCast]
    have f1 : ¬ f < A.length := fun h => outA f h ef hef hfx
    have f2 : ¬ A.length < f := fun h => h8 ea (by
     rw [List.mem_iff_getElem?]
     exact ⟨A.length, by rw [List.getElem?_take_of_lt h]; exact ga⟩) ha2
    have t1 : ¬ A.length + E.length < t := fun h => outB (t - 1) (by omega) et het htx
    have t2 : ¬ t < A.length + E.length := fun h => h9 eb (by
     rw [List.mem_iff_getElem?]
     exact ⟨A.length + E.length - 1 - t, by rw [List.getElem?_drop, show t + (A.length + E.length - 1 - t) = A.length + E.length - 1 by omega]; exact gb⟩) hb2
    omega
 obtain ⟨k1, k2⟩ := key
 have hg : goneR r x = E := by
  unfold goneR
  rw [k1, k2, hr, List.take_append_of_le_length (by simp), List.take_of_length_le (by simp), List.drop_append_of_le_length (Nat.le_refl _), List.drop_length, List.nil_append]
 refine ⟨?_, hr, hg, fun o => ?_, ho, hi, hc, hn, he⟩
 ·unfold readyR
  simp only [Bool.and_eq_true, Bool.or_eq_true, Bool.not_eq_true', decide_eq_false_iff_not, decide_eq_true_eq]
  refine ⟨⟨idx_in hx, ?_⟩, ?_⟩
  ·rw [hcn, hcr]; rfl
  ·by_cases hz : inD es x = 0
   ·exact .inl hz
   ·refine .inr ?_
    show bareB _ (goneR r x) = true
    rw [hg]
    exact bare_iff.2 hi
 ·unfold placeR swapR
  have h1 : (A ++ E ++ B).take A.length = A := by rw [List.append_assoc, List.take_append_of_le_length (Nat.le_refl _), List.take_length]
  have h2 : (A ++ E ++ B).drop (A.length + E.length) = B := by rw [List.drop_append_of_le_length (by simp), List.drop_of_length_le (by simp), List.nil_append]
  rw [k1, k2, hr, h1, h2]
end Go.Proofs.YtneeknlhlkpnpaaGreat
namespace Go.Proofs.YtneeknlhlkpnpaaGreat
open Go.RowKit
abbrev SwSt := List Itm × List Int × List (List Itm)
def outA (es : List (Int × Int)) (outs : List (List Int)) (x : Nat) : List Itm := aboveR es x (outs.getD x [])
inductive Walk (es : List (Int × Int)) (outs : List (List Int)) : SwSt → List Nat → SwSt → Prop
 | nil (s : SwSt) : Walk es outs s [] s
 | cons {r : List Itm} {pl : List Int} {en : List (List Itm)} {x : Nat} {A E B : List Itm} {rest : List Nat} {fin : SwSt} :
   (x : Int) ∉ pl → CutR es r x A E B → Walk es outs (A ++ outA es outs x ++ B, pl ++ [(x : Int)], en.set x E) rest fin → Walk es outs (r, pl, en) (x :: rest) fin
def natI (l : List Nat) : List Int := l.map fun x : Nat => (x : Int)
theorem walk_fold {es : List (Int × Int)} {outs : List (List Int)} {fin : SwSt} : ∀ (rest : List Nat) (s : SwSt), (natI rest).foldl (stepR es outs) (some s) = some fin ↔ Walk es outs s rest fin
 | [], s => ⟨fun h => by
   injection h with h
   subst h
   exact .nil _, fun h => by
   cases h
   rfl⟩
 | x :: rest, (r, pl, en) => by
  show (natI rest).foldl (stepR es outs) (stepR es outs (some (r, pl, en)) (x : Int)) = some fin ↔ _
  constructor
  ·intro h
   unfold stepR at h
   simp only [Int.toNat_natCast] at h
   split at h
   ·rename_i hr
    obtain ⟨h1, A, E, B, hc⟩ := ready_cut hr
    rw [hc.place, hc.gone] at h
    exact .cons h1 hc ((walk_fold rest _).1 h)
   ·change (natI rest).foldl (stepR es outs) none = some fin at h
    rw [step_none] at h
    cases h
  ·intro h
   cases h with
   | cons h1 hc hw =>
    have hr := (cut_ready (pl := pl) h1 hc.row hc.out hc.ine hc.cnt hc.nil hc.ends).1
    unfold stepR
    simp only [Int.toNat_natCast]
    rw [if_pos hr, hc.place, hc.gone]
    exact (walk_fold rest _).2 hw
theorem perm_flat_set {α : Type} {l : List α} : ∀ (en : List (List α)) (x : Nat), en.getD x [] = [] → x < en.length → (en.set x l).flatten.Perm (l ++ en.flatten)
 | [], x, _, h => absurd h (by simp)
 | a :: en, 0, h, _ => by
  have h : a = [] := h
  subst h
  simp
 | a :: en, x + 1, h, hl => by
  rw [List.set_cons_succ, List.flatten_cons, List.flatten_cons]
  have ih := perm_flat_set (l := l) en x h (by simpa using hl)
  refine (List.Perm.append_left a ih).trans ?_
  rw [← List.append_assoc, ← List.append_assoc]
  exact List.Perm.append_right _ List.perm_append_comm
def outU (es : List (Int × Int)) (outs : List (List Int)) (pl : List Int) : List Itm := pl.flatMap fun x => outA es outs x.toNat
structure SwI (N : Nat) (es : List (Int × Int)) (outs : List (List Int)) (r : List Itm) (pl : List Int) (en : List (List Itm)) : Prop where
 len : en.length = N
 pln : ∀ x ∈ pl, 0 ≤ x ∧ x < N
 nd : pl.Nodup
 un : ∀ x, x < N → (x : Int) ∉ pl → en.getD x [] = []
 tot : (r ++ en.flatten).Perm (outU es outs pl)
 hd : ∀ z, z < N → ∀ e ∈ en.getD z [], e.2.2 = (z : Int) ∨ e.2.2 = -1
 cnt : ∀ z, z < N → (z : Int) ∈ pl → ((en.getD z []).countP fun e => decide (e.2.2 = (z : Int))) = inD es z
 ends : ∀ z, z < N → en.getD z [] ≠ [] → (∃ e, (en.getD z []).head? = some e ∧ e.2.2 = (z : Int)) ∧ ∃ e, (en.getD z []).getLast? = some e ∧ e.2.2 = (z : Int)
section
variable {N : Nat} {es : List (Int × Int)} {outs : List (List Int)} {r : List Itm} {pl : List Int} {en : List (List Itm)}
theorem SwI.start : SwI N es outs [] [] (List.replicate N []) where
 len := by simp
 pln := fun x h => absurd h (by simp)
 nd := List.nodup_nil
 un := fun x hx _ => by rw [List.getD_eq_getElem?_getD, List.getElem?_replicate, if_pos hx]; rfl
 tot := by
  have : (List.replicate N ([] : List Itm)).flatten = [] := by
   induction N with
   | zero => rfl
   | succ n ih => rw [List.replicate_succ, List.flatten_cons, ih]; rfl
  rw [this]
  exact List.Perm.refl _
 hd := fun z hz e he => by simp [hz] at he
 cnt := fun z hz h => absurd h (by simp)
 ends := fun z hz h => by simp [hz] at h
theorem getD_set {α : Type} {l : List (List α)} {x z : Nat} {v : List α} (hx : x < l.length) : (l.set x v).getD z [] = if z = x then v else l.getD z [] := by
 rw [List.getD_eq_getElem?_getD, List.getElem?_set, List.getD_eq_getElem?_getD]
 by_cases h : x = z
 ·subst h; simp [hx]
 ·simp [h, Ne.symm h]
theorem SwI.step (h : SwI N es outs r pl en) {x : Nat} {A E B : List Itm} (hx : x < N) (hp : (x : Int) ∉ pl) (hc : CutR es r x A E B) : SwI N es outs (A ++ outA es outs x ++ B) (pl ++ [(x : Int)]) (en.set x E) := by
 have hxl : x < en.length := by rw [h.len]; exact hx
 refine ⟨by simp [h.len], fun y hy => ?_, ?_, fun y hy hn => ?_, ?_, fun z hz e he => ?_, fun z hz hm => ?_, fun z hz hne => ?_⟩
 ·rcases List.mem_append.1 hy with hy | hy
  ·exact h.pln y hy
  ·rw [List.mem_singleton.1 hy]; omega
 ·rw [List.nodup_append]
  refine ⟨h.nd, by simp, fun a ha b hb e => ?_⟩
  rw [List.mem_singleton.1 hb] at e
  subst e
  exact hp ha
 ·rw [List.mem_append, not_or] at hn
  rw [getD_set hxl, if_neg (fun e => hn.2 (by rw [e]; simp))]
  exact h.un y hy hn.1
 ·have h1 := perm_flat_set (l := E) en x (h.un x hx hp) hxl
  have h2 := h.tot
  rw [hc.row] at h2
  unfold outU at h2 ⊢
  rw [List.flatMap_append]
  have e1 : ([(x : Int)].flatMap fun x => outA es outs x.toNat) = outA es outs x := by simp
  rw [e1]
  refine List.Perm.trans ?_ (List.Perm.append_right (outA es outs x) h2)
  refine (List.Perm.append_left _ h1).trans ?_
  rw [List.perm_iff_count]
  intro a
  simp only [List.count_append]
  omega
 ·rw [getD_set hxl] at he
  split at he
  ·rename_i e1; subst e1; exact hc.ine e he
  ·exact h.hd z hz e he
 ·rw [getD_set hxl]
  split
  ·rename_i e1; subst e1; exact hc.cnt
  ·rename_i e1
   rcases List.mem_append.1 hm with hm | hm
   ·exact h.cnt z hz hm
   ·exact absurd (by have := List.mem_singleton.1 hm; omega) e1
 ·rw [getD_set hxl] at hne ⊢
  split at hne
  ·rename_i e1; subst e1; rw [if_pos rfl]; exact hc.ends hne
  ·rename_i e1; rw [if_neg e1]; exact h.ends z hz hne
theorem Walk.inv {fin : SwSt} {s : SwSt} {rest : List Nat} (hw : Walk es outs s rest fin) (hr : ∀ x ∈ rest, x < N) (h : SwI N es outs s.1 s.2.1 s.2.2) : SwI N es outs fin.1 fin.2.1 fin.2.2 := by
 induction hw with
 | nil s => exact h
 | cons h1 hc _ ih => exact ih (fun y hy => hr y (List.mem_cons_of_mem _ hy)) (h.step (hr _ (List.mem_cons_self ..)) h1 hc)
theorem Walk.placed {fin : SwSt} {s : SwSt} {rest : List Nat} (hw : Walk es outs s rest fin) : fin.2.1 = s.2.1 ++ natI rest := by
 induction hw with
 | nil s => simp [natI]
 | cons h1 hc _ ih => rw [ih]; simp [natI]
theorem Walk.kept {fin : SwSt} {s : SwSt} {rest : List Nat} (hw : Walk es outs s rest fin) (hl : ∀ x ∈ rest, x < s.2.2.length) {z : Nat} (hz : (z : Int) ∈ s.2.1) : fin.2.2.getD z [] = s.2.2.getD z [] := by
 induction hw with
 | nil s => rfl
 | @cons r pl en x A E B rest fin h1 hc _ ih =>
  have hx := hl x (List.mem_cons_self ..)
  rw [ih (fun y hy => by simpa using hl y (List.mem_cons_of_mem _ hy)) (List.mem_append_left _ hz)]
  show (en.set x E).getD z [] = _
  rw [getD_set hx, if_neg (fun e => h1 (by rw [← e]; exact hz))]
end
def OutsP (N : Nat) (es : List (Int × Int)) (outs : List (List Int)) : Prop := ∀ x, x < N → (outs.getD x []).Perm (endsF es Prod.fst (x : Nat) es.length)
def itE (es : List (Int × Int)) (i : Nat) : Itm := ((i : Int), (es.getD i (0, 0)).1, (es.getD i (0, 0)).2)
theorem endsF_nodup (es : List (Int × Int)) (f : Int × Int → Int) (x : Int) : ∀ k, (endsF es f x k).Nodup
 | 0 => List.nodup_nil
 | k + 1 => by
  show (endsF es f x k ++ _).Nodup
  rw [List.nodup_append]
  refine ⟨endsF_nodup es f x k, by split <;> simp, fun a ha b hb e => ?_⟩
  obtain ⟨i, h1, h2, _⟩ := mem_endsF.1 ha
  split at hb
  ·rw [List.mem_singleton.1 hb] at e; omega
  ·cases hb
section
variable {N : Nat} {es : List (Int × Int)} {outs : List (List Int)} {r : List Itm} {pl : List Int} {en : List (List Itm)}
theorem mem_outA (hO : OutsP N es outs) {x : Nat} (hx : x < N) {e : Itm} : e ∈ outA es outs x ↔ (∃ i : Nat, i < es.length ∧ (es.getD i (0, 0)).1 = (x : Int) ∧ e = itE es i) ∨ (outs.getD x [] = [] ∧ e = (-1, (x : Int), -1)) := by
 unfold outA aboveR
 have hm : ∀ a, a ∈ outs.getD x [] ↔ ∃ i : Nat, a = i ∧ i < es.length ∧ (es.getD i (0, 0)).1 = (x : Int) := fun a => ((hO x hx).mem_iff).trans mem_endsF
 split
 ·rename_i hl
  have hn := List.length_eq_zero_iff.1 hl
  constructor
  ·intro h; exact .inr ⟨hn, by simpa using h⟩
  ·rintro (⟨i, h1, h2, _⟩ | ⟨_, h⟩)
   ·have := (hm (i : Int)).2 ⟨i, rfl, h1, h2⟩
    rw [hn] at this; cases this
   ·simpa using h
 ·rename_i hl
  rw [List.mem_map]
  constructor
  ·rintro ⟨a, ha, rfl⟩
   obtain ⟨i, rfl, h1, h2⟩ := (hm a).1 ha
   exact .inl ⟨i, h1, h2, by unfold itE; rw [h2]; rfl⟩
  ·rintro (⟨i, h1, h2, rfl⟩ | ⟨h, _⟩)
   ·exact ⟨(i : Int), (hm _).2 ⟨i, rfl, h1, h2⟩, by unfold itE; rw [h2]; rfl⟩
   ·rw [h] at hl; exact absurd rfl hl
theorem outA_tail (hO : OutsP N es outs) {x : Nat} (hx : x < N) {e : Itm} (he : e ∈ outA es outs x) : e.2.1 = (x : Int) := by
 rcases (mem_outA hO hx).1 he with ⟨i, _, h, rfl⟩ | ⟨_, rfl⟩
 ·exact h
 ·rfl
theorem outA_nodup (hO : OutsP N es outs) {x : Nat} (hx : x < N) : (outA es outs x).Nodup := by
 unfold outA aboveR
 split
 ·simp
 ·have h1 : (outs.getD x []).Nodup := (hO x hx).nodup_iff.2 (endsF_nodup _ _ _ _)
  rw [List.nodup_iff_pairwise_ne, List.pairwise_map]
  exact (List.nodup_iff_pairwise_ne.1 h1).imp fun h e => h (by injection e)
theorem outA_ne (x : Nat) : outA es outs x ≠ [] := by
 unfold outA aboveR
 split
 ·simp
 ·rename_i h; intro e; exact h (by simpa using e)
theorem outU_nodup (hO : OutsP N es outs) : ∀ (pl : List Int), pl.Nodup → (∀ x ∈ pl, 0 ≤ x ∧ x < N) → (outU es outs pl).Nodup
 | [], _, _ => List.nodup_nil
 | x :: pl, hn, hp => by
  show (outA es outs x.toNat ++ outU es outs pl).Nodup
  have hx := hp x (List.mem_cons_self ..)
  have hn := List.nodup_cons.1 hn
  rw [List.nodup_append]
  refine ⟨outA_nodup hO (by omega), outU_nodup hO pl hn.2 (fun y hy => hp y (List.mem_cons_of_mem _ hy)), fun a ha b hb e => ?_⟩
  subst e
  obtain ⟨y, hy, hb⟩ := List.mem_flatMap.1 hb
  have hy2 := hp y (List.mem_cons_of_mem _ hy)
  have e1 := outA_tail hO (by omega) ha
  have e2 := outA_tail hO (by omega) hb
  exact hn.1 (by rw [show x = y by omega]; exact hy)
theorem mem_outU (hO : OutsP N es outs) (hp : ∀ x ∈ pl, 0 ≤ x ∧ x < N) {e : Itm} : e ∈ outU es outs pl ↔ (∃ i : Nat, i < es.length ∧ (es.getD i (0, 0)).1 ∈ pl ∧ e = itE es i) ∨ (∃ x : Nat, (x : Int) ∈ pl ∧ outs.getD x [] = [] ∧ e = (-1, (x : Int), -1)) := by
 unfold outU
 rw [List.mem_flatMap]
 constructor
 ·rintro ⟨y, hy, h⟩
  have hy2 := hp y hy
  rcases (mem_outA hO (by omega)).1 h with ⟨i, h1, h2, h3⟩ | ⟨h1, h2⟩
  ·exact .inl ⟨i, h1, by rw [h2, Int.toNat_of_nonneg hy2.1]; exact hy, h3⟩
  ·exact .inr ⟨y.toNat, by rw [Int.toNat_of_nonneg hy2.1]; exact hy, h1, h2⟩
 ·rintro (⟨i, h1, h2, h3⟩ | ⟨x, hx, h1, h2⟩)
  ·have hy2 := hp _ h2
   exact ⟨_, h2, (mem_outA hO (by omega)).2 (.inl ⟨i, h1, by omega, h3⟩)⟩
  ·have hy2 := hp _ hx
   exact ⟨_, hx, (mem_outA hO (by omega)).2 (.inr ⟨h1, h2⟩)⟩
theorem SwI.nodup (h : SwI N es outs r pl en) (hO : OutsP N es outs) : (r ++ en.flatten).Nodup := h.tot.nodup_iff.2 (outU_nodup hO pl h.nd h.pln)
theorem mem_flatten_getD {α : Type} {l : List (List α)} {z : Nat} {e : α} (h : e ∈ l.getD z []) : e ∈ l.flatten := by
 rw [List.getD_eq_getElem?_getD] at h
 cases hq : l[z]? with
 | none => rw [hq] at h; cases h
 | some v =>
  rw [hq] at h
  exact List.mem_flatten.2 ⟨v, List.mem_of_getElem? hq, h⟩
theorem nodup_getD {α : Type} {l : List (List α)} (h : l.flatten.Nodup) (z : Nat) : (l.getD z []).Nodup := by
 rw [List.getD_eq_getElem?_getD]
 cases hq : l[z]? with
 | none => exact List.nodup_nil
 | some v =>
  show v.Nodup
  obtain ⟨i, hi, rfl⟩ := List.mem_iff_getElem.1 (List.mem_of_getElem? hq)
  have e : l.flatten = (l.take i).flatten ++ (l[i] ++ (l.drop (i + 1)).flatten) := by
   conv => lhs; rw [← List.take_append_drop i l, List.drop_eq_getElem_cons hi, List.flatten_append, List.flatten_cons]
  rw [e] at h
  exact (List.nodup_append.1 (List.nodup_append.1 h).2.1).1
theorem SwI.item (h : SwI N es outs r pl en) (hO : OutsP N es outs) {e : Itm} (he : e ∈ r ++ en.flatten) : (∃ i : Nat, i < es.length ∧ (es.getD i (0, 0)).1 ∈ pl ∧ e = itE es i) ∨ (∃ x : Nat, (x : Int) ∈ pl ∧ outs.getD x [] = [] ∧ e = (-1, (x : Int), -1)) :=
 (mem_outU hO h.pln).1 (h.tot.mem_iff.1 he)
theorem subset_full {α : Type} {l l' : List α} (hn : l.Nodup) (hs : l ⊆ l') (hl : l'.length ≤ l.length) : l' ⊆ l := by
 intro a ha
 apply Classical.byContradiction
 intro hna
 have := List.Nodup.length_le_of_subset (List.nodup_cons.2 ⟨hna, hn⟩) (List.cons_subset.2 ⟨ha, hs⟩)
 simp at this
 omega
theorem SwI.ended (h : SwI N es outs r pl en) (hO : OutsP N es outs) {z : Nat} (hz : z < N) (hp : (z : Int) ∈ pl) {i : Nat} (hi : i < es.length) (hh : (es.getD i (0, 0)).2 = (z : Int)) : itE es i ∈ en.getD z [] ∧ (es.getD i (0, 0)).1 ∈ pl := by
 have hnd := nodup_getD (List.nodup_append.1 (h.nodup hO)).2.1 z
 have key : (endsF es Prod.snd (z : Nat) es.length).map (fun a => itE es a.toNat) ⊆ (en.getD z []).filter fun e => decide (e.2.2 = (z : Int)) := by
  refine subset_full (hnd.filter _) (fun e he => ?_) ?_
  ·obtain ⟨h1, h2⟩ := List.mem_filter.1 he
   have h2 := of_decide_eq_true h2
   rcases h.item hO (List.mem_append_right _ (mem_flatten_getD h1)) with ⟨j, hj, _, rfl⟩ | ⟨x, _, _, rfl⟩
   ·exact List.mem_map.2 ⟨(j : Int), mem_endsF.2 ⟨j, rfl, hj, h2⟩, rfl⟩
   ·simp at h2
  ·rw [List.length_map, ← List.countP_eq_length_filter, h.cnt z hz hp]
   exact Nat.le_refl _
 have h1 : itE es i ∈ en.getD z [] := (List.mem_filter.1 (key (List.mem_map.2 ⟨(i : Int), mem_endsF.2 ⟨i, rfl, hi, hh⟩, rfl⟩))).1
 refine ⟨h1, ?_⟩
 rcases h.item hO (List.mem_append_right _ (mem_flatten_getD h1)) with ⟨j, hj, h2, e⟩ | ⟨x, _, _, e⟩
 ·have : i = j := by have := congrArg Prod.fst e; simp [itE] at this; omega
  rw [this]; exact h2
 ·have := congrArg Prod.fst e; simp [itE] at this
end
end Go.Proofs.YtneeknlhlkpnpaaGreat
namespace Go.Proofs.YtneeknlhlkpnpaaGreat
open Go.RowKit
def chn {α : Type} (L R : α → Nat) : Nat → List α → Nat → Prop
 | a, [], b => a = b
 | a, e :: l, b => L e = a ∧ chn L R (R e) l b
theorem chn_append {α : Type} {L R : α → Nat} : ∀ (l1 : List α) {l2 : List α} {a b : Nat}, chn L R a (l1 ++ l2) b ↔ ∃ c, chn L R a l1 c ∧ chn L R c l2 b
 | [], l2, a, b => ⟨fun h => ⟨a, rfl, h⟩, fun ⟨c, h1, h2⟩ => by
   have h1 : a = c := h1
   subst h1; exact h2⟩
 | e :: l1, l2, a, b => by
  show (L e = a ∧ chn L R (R e) (l1 ++ l2) b) ↔ ∃ c, (L e = a ∧ chn L R (R e) l1 c) ∧ chn L R c l2 b
  rw [chn_append l1]
  exact ⟨fun ⟨h, c, h1, h2⟩ => ⟨c, ⟨h, h1⟩, h2⟩, fun ⟨c, ⟨h, h1⟩, h2⟩ => ⟨h, c, h1, h2⟩⟩
theorem chn_congr {α : Type} {L R L' R' : α → Nat} : ∀ (l : List α) {a b : Nat}, (∀ e ∈ l, L' e = L e ∧ R' e = R e) → chn L R a l b → chn L' R' a l b
 | [], _, _, _, h => h
 | e :: l, a, b, hc, h => by
  have h0 := hc e (List.mem_cons_self ..)
  refine ⟨h0.1.trans h.1, ?_⟩
  rw [h0.2]
  exact chn_congr l (fun e he => hc e (List.mem_cons_of_mem _ he)) h.2
theorem chn_const {α : Type} (m : Nat) : ∀ l : List α, chn (fun _ => m) (fun _ => m) m l m
 | [] => rfl
 | _ :: l => ⟨rfl, chn_const m l⟩
theorem chn_head {α : Type} {L R : α → Nat} {a b : Nat} {l : List α} {e : α} (h : chn L R a l b) (he : l.head? = some e) : L e = a := by
 cases l with
 | nil => cases he
 | cons x l => injection he with he; subst he; exact h.1
theorem chn_last {α : Type} {L R : α → Nat} : ∀ {l : List α} {a b : Nat} {e : α}, chn L R a l b → l.getLast? = some e → R e = b
 | [], _, _, _, _, he => by cases he
 | [x], a, b, e, h, he => by
  injection he with he; subst he; exact h.2
 | x :: y :: l, a, b, e, h, he => by
  rw [List.getLast?_cons_cons] at he
  exact chn_last h.2 he
def nxL (e : Itm) (l : List Itm) (cur c1 : Nat) : Nat := if l = [] then c1 else if e.1 = -1 then cur else e.1.toNat
def lE (c1 : Nat) : Nat → List Itm → Itm → Option (Nat × Nat)
 | _, [], _ => none
 | cur, e :: l, z => if z = e then some (cur, nxL e l cur c1) else lE c1 (nxL e l cur c1) l z
theorem lE_none {c1 : Nat} {z : Itm} : ∀ (l : List Itm) (cur : Nat), z ∉ l → lE c1 cur l z = none
 | [], _, _ => rfl
 | e :: l, cur, h => by
  rw [List.mem_cons, not_or] at h
  rw [lE, if_neg h.1, lE_none l _ h.2]
def labs (m : Nat) (ab F : Nat → List Itm) : List Nat → Itm → Nat × Nat
 | [], _ => (m, m)
 | x :: rest, z => match lE (labs m ab F rest ((ab x).getLast?.getD z)).2 (labs m ab F rest ((ab x).head?.getD z)).1 (F x) z with
  | some p => p
  | none => labs m ab F rest z
section
variable {m : Nat} {ab F : Nat → List Itm} {rest : List Nat} {x : Nat}
def labL (m : Nat) (ab F : Nat → List Itm) (rest : List Nat) (z : Itm) : Nat := (labs m ab F rest z).1
def labR (m : Nat) (ab F : Nat → List Itm) (rest : List Nat) (z : Itm) : Nat := (labs m ab F rest z).2
theorem labs_old {z : Itm} (h : z ∉ F x) : labs m ab F (x :: rest) z = labs m ab F rest z := by
 rw [labs, lE_none _ _ h]
theorem labs_new {z a b : Itm} (ha : (ab x).head? = some a) (hb : (ab x).getLast? = some b) : labs m ab F (x :: rest) z = (lE (labR m ab F rest b) (labL m ab F rest a) (F x) z).getD (labs m ab F rest z) := by
 rw [labs, ha, hb]
 unfold labL labR
 simp only [Option.getD_some]
 split
 ·rename_i h; rw [h]; rfl
 ·rename_i h; rw [h]; rfl
end
theorem lE_chn {c1 : Nat} {L R : Itm → Nat} : ∀ (E : List Itm) (cur : Nat), E.Nodup → E ≠ [] → (∀ z ∈ E, ∃ p, lE c1 cur E z = some p ∧ L z = p.1 ∧ R z = p.2) → chn L R cur E c1
 | [], _, _, h, _ => absurd rfl h
 | e :: l, cur, hn, _, hz => by
  obtain ⟨p, h1, h2, h3⟩ := hz e (List.mem_cons_self ..)
  rw [lE, if_pos rfl] at h1
  injection h1 with h1
  subst h1
  refine ⟨h2, ?_⟩
  rw [h3]
  have hn := List.nodup_cons.1 hn
  by_cases hl : l = []
  ·subst hl
   show nxL e [] cur c1 = c1
   rfl
  ·refine lE_chn l _ hn.2 hl (fun z hzl => ?_)
   obtain ⟨p, h1, h2, h3⟩ := hz z (List.mem_cons_of_mem _ hzl)
   rw [lE, if_neg (fun e' => hn.1 (by rw [← e']; exact hzl))] at h1
   exact ⟨p, h1, h2, h3⟩
theorem lE_top {c1 : Nat} : ∀ (E : List Itm) (cur : Nat) {a : Itm} {l1 l2 : List Itm}, E.Nodup → E = l1 ++ a :: l2 → l2 ≠ [] → ∃ p, lE c1 cur E a = some p ∧ (a.1 ≠ -1 → p.2 = a.1.toNat) ∧ (a.1 = -1 → p.1 = p.2)
 | [], _, a, l1, l2, _, h, _ => by simp at h
 | e :: l, cur, a, l1, l2, hn, h, h2 => by
  have hn := List.nodup_cons.1 hn
  cases l1 with
  | nil =>
   injection h with he hl
   subst he hl
   refine ⟨_, by rw [lE, if_pos rfl], fun h3 => ?_, fun h3 => ?_⟩
   ·unfold nxL; rw [if_neg h2, if_neg h3]
   ·unfold nxL; rw [if_neg h2, if_pos h3]
  | cons b l1 =>
   injection h with he hl
   have ha : a ∈ l := by rw [hl]; simp
   obtain ⟨p, h3, h4⟩ := lE_top l (nxL e l cur c1) hn.2 hl h2
   exact ⟨p, by rw [lE, if_neg (fun e' => hn.1 (by rw [← e']; exact ha))]; exact h3, h4⟩
theorem lE_some {c1 : Nat} : ∀ (E : List Itm) (cur : Nat) {z : Itm}, z ∈ E → ∃ p, lE c1 cur E z = some p
 | [], _, _, h => by cases h
 | e :: l, cur, z, h => by
  rw [lE]
  by_cases he : z = e
  ·exact ⟨_, if_pos he⟩
  ·rw [if_neg he]
   rcases List.mem_cons.1 h with h | h
   ·exact absurd h he
   ·exact lE_some l _ h
theorem flat_disj {α : Type} {e : α} : ∀ (l : List (List α)) (x y : Nat), l.flatten.Nodup → x ≠ y → e ∈ l.getD x [] → e ∈ l.getD y [] → False
 | [], _, _, _, _, h, _ => by simp at h
 | a :: l, 0, 0, _, h, _, _ => h rfl
 | a :: l, 0, y + 1, hn, _, h1, h2 => by
  rw [List.flatten_cons] at hn
  exact (List.nodup_append.1 hn).2.2 e h1 e (mem_flatten_getD (z := y) h2) rfl
 | a :: l, x + 1, 0, hn, _, h1, h2 => by
  rw [List.flatten_cons] at hn
  exact (List.nodup_append.1 hn).2.2 e h2 e (mem_flatten_getD (z := x) h1) rfl
 | a :: l, x + 1, y + 1, hn, h, h1, h2 => by
  rw [List.flatten_cons] at hn
  exact flat_disj l x y (List.nodup_append.1 hn).2.1 (fun e => h (by rw [e])) h1 h2
structure VerL (L R : Itm → Nat) (m : Nat) (ab E : List Itm) : Prop where
 ch : ∃ c c', chn L R c ab c' ∧ (E ≠ [] → chn L R c E c') ∧ (E = [] → c = m ∧ c' = m)
 top : ∀ a l1 l2, E = l1 ++ a :: l2 → l2 ≠ [] → a.1 ≠ -1 → R a = a.1.toNat
 loose : ∀ a ∈ E, a.1 = -1 → L a = R a
theorem VerL.congr {L R L' R' : Itm → Nat} {m : Nat} {ab E : List Itm} (h : VerL L R m ab E) (h1 : ∀ e ∈ ab, L' e = L e ∧ R' e = R e) (h2 : ∀ e ∈ E, L' e = L e ∧ R' e = R e) : VerL L' R' m ab E := by
 obtain ⟨⟨c, c', k1, k2, k3⟩, ht, hl⟩ := h
 refine ⟨⟨c, c', chn_congr _ h1 k1, fun hE => chn_congr _ h2 (k2 hE), k3⟩, fun a l1 l2 e h3 h4 => ?_, fun a ha h3 => ?_⟩
 ·rw [(h2 a (by rw [e]; simp)).2]; exact ht a l1 l2 e h3 h4
 ·rw [(h2 a ha).1, (h2 a ha).2]; exact hl a ha h3
section
variable {N : Nat} {es : List (Int × Int)} {outs : List (List Int)}
def SrcI (s : Nat) (st : SwSt) : Prop := (st.2.1 = [] ∧ st.1 = []) ∨ (s : Int) ∈ st.2.1
theorem SrcI.step {s x : Nat} {r : List Itm} {pl : List Int} {en : List (List Itm)} {A E B : List Itm} (h : SrcI s (r, pl, en)) (hs : ∀ y, y < N → inD es y = 0 → y = s) (hx : x < N) (hp : (x : Int) ∉ pl) (hc : CutR es r x A E B) : SrcI s (A ++ outA es outs x ++ B, pl ++ [(x : Int)], en.set x E) ∧ (E = [] → r = []) := by
 by_cases hE : E = []
 ·have := hs x hx (hc.nil hE).2
  subst this
  rcases h with ⟨_, h⟩ | h
  ·exact ⟨.inr (by simp), fun _ => h⟩
  ·exact absurd h hp
 ·rcases h with ⟨_, h⟩ | h
  ·have := hc.row
   have h : r = [] := h
   rw [h] at this
   exact absurd (List.append_eq_nil_iff.1 (List.append_eq_nil_iff.1 this.symm).1).2 hE
  ·exact ⟨.inr (List.mem_append_left _ h), fun e => absurd e hE⟩
def finF (en : List (List Itm)) (x : Nat) : List Itm := en.getD x []
theorem run_labs (hO : OutsP N es outs) {s : Nat} (hs : ∀ y, y < N → inD es y = 0 → y = s) {m : Nat} {fin st : SwSt} {rest : List Nat} (hw : Walk es outs st rest fin) (hr : ∀ x ∈ rest, x < N) (hS : SrcI s st) (h : SwI N es outs st.1 st.2.1 st.2.2) :
  chn (labL m (outA es outs) (finF fin.2.2) rest) (labR m (outA es outs) (finF fin.2.2) rest) m st.1 m ∧
  (∀ x ∈ rest, VerL (labL m (outA es outs) (finF fin.2.2) rest) (labR m (outA es outs) (finF fin.2.2) rest) m (outA es outs x) (finF fin.2.2 x)) ∧
  ∀ z : Itm, z.1 = -1 → labL m (outA es outs) (finF fin.2.2) rest z = labR m (outA es outs) (finF fin.2.2) rest z := by
 induction hw with
 | nil st => exact ⟨chn_const m _, fun x hx => absurd hx (by simp), fun _ _ => rfl⟩
 | @cons r pl en x A E B rest fin hp hc hw ih =>
  have hx := hr x (List.mem_cons_self ..)
  have hr' : ∀ y ∈ rest, y < N := fun y hy => hr y (List.mem_cons_of_mem _ hy)
  have h' := h.step (outs := outs) hx hp hc
  obtain ⟨hS', hsrc⟩ := hS.step (outs := outs) hs hx hp hc
  obtain ⟨hch, hver, hlo⟩ := ih hr' hS' h'
  have hxl : x < en.length := by rw [h.len]; exact hx
  have hF : finF fin.2.2 x = E := by
   unfold finF
   rw [hw.kept (fun y hy => by show y < (en.set x E).length; rw [List.length_set, h.len]; exact hr' y hy) (z := x) (by simp)]
   show (en.set x E).getD x [] = E
   rw [getD_set hxl, if_pos rfl]
  have hfin := hw.inv hr' h'
  have hnf := (List.nodup_append.1 (hfin.nodup hO)).2.1
  have hplf : fin.2.1 = (pl ++ [(x : Int)]) ++ natI rest := hw.placed
  have hndr := h.nodup hO
  rw [hc.row] at hndr
  have hEn : E.Nodup := (List.nodup_append.1 (List.nodup_append.1 (List.nodup_append.1 hndr).1).1).2.1
  have hAE : ∀ e, e ∈ A ∨ e ∈ B → e ∉ E := fun e he hE => by
   have h1 := (List.nodup_append.1 hndr).1
   rcases he with he | he
   ·exact (List.nodup_append.1 (List.nodup_append.1 h1).1).2.2 e he e hE rfl
   ·exact (List.nodup_append.1 h1).2.2 e (List.mem_append_right _ hE) e he rfl
  obtain ⟨a, ha⟩ : ∃ a, (outA es outs x).head? = some a := by
   cases hq : (outA es outs x).head? with
   | some a => exact ⟨a, rfl⟩
   | none => exact absurd (List.head?_eq_none_iff.1 hq) (outA_ne x)
  obtain ⟨b, hb⟩ : ∃ b, (outA es outs x).getLast? = some b := by
   cases hq : (outA es outs x).getLast? with
   | some b => exact ⟨b, rfl⟩
   | none => exact absurd (List.getLast?_eq_none_iff.1 hq) (outA_ne x)
  obtain ⟨c', hc1, hc2⟩ := (chn_append _).1 hch
  obtain ⟨c, hc3, hc4⟩ := (chn_append _).1 hc1
  have ea := chn_head hc4 ha
  have eb := chn_last hc4 hb
  have hold : ∀ z, z ∉ E → labL m (outA es outs) (finF fin.2.2) (x :: rest) z = labL m (outA es outs) (finF fin.2.2) rest z ∧ labR m (outA es outs) (finF fin.2.2) (x :: rest) z = labR m (outA es outs) (finF fin.2.2) rest z := fun z hz => by
   unfold labL labR
   rw [labs_old (by rw [hF]; exact hz)]
   exact ⟨rfl, rfl⟩
  have hnew : ∀ z ∈ E, ∃ p, lE c' c E z = some p ∧ labL m (outA es outs) (finF fin.2.2) (x :: rest) z = p.1 ∧ labR m (outA es outs) (finF fin.2.2) (x :: rest) z = p.2 := fun z hz => by
   obtain ⟨p, hp⟩ := lE_some (c1 := c') E c hz
   refine ⟨p, hp, ?_⟩
   unfold labL labR
   rw [labs_new ha hb, hF, ea, eb, hp]
   exact ⟨rfl, rfl⟩
  have hEc : E ≠ [] → chn (labL m (outA es outs) (finF fin.2.2) (x :: rest)) (labR m (outA es outs) (finF fin.2.2) (x :: rest)) c E c' := fun hE => lE_chn E c hEn hE hnew
  have hEr : ∀ e ∈ E, e ∈ r := fun e he => by rw [hc.row]; simp [he]
  have habE : ∀ y, y < N → (y : Int) ∉ pl → ∀ e ∈ outA es outs y, e ∉ E := fun y hy hpy e he hE => by
   have h1 := outA_tail hO hy he
   rcases h.item hO (List.mem_append_left en.flatten (hEr e hE)) with ⟨i, _, h2, h3⟩ | ⟨u, h2, _, h3⟩
   ·rw [h3] at h1
    exact hpy (by rw [← h1]; exact h2)
   ·rw [h3] at h1
    exact hpy (by rw [← h1]; exact h2)
  have hElo : ∀ e ∈ E, e.1 = -1 → labL m (outA es outs) (finF fin.2.2) (x :: rest) e = labR m (outA es outs) (finF fin.2.2) (x :: rest) e := fun e he h1 => by
   have hne : E ≠ [] := List.ne_nil_of_mem he
   obtain ⟨l1, l2, hl⟩ := List.append_of_mem he
   have hl2 : l2 ≠ [] := by
    intro e2
    obtain ⟨_, u, hu, hux⟩ := hc.ends hne
    rw [hl, e2] at hu
    simp at hu
    subst hu
    rcases h.item hO (List.mem_append_left en.flatten (hEr e he)) with ⟨i, _, _, h3⟩ | ⟨w, _, _, h3⟩
    ·rw [h3] at h1; simp [itE] at h1
    ·rw [h3] at hux
     simp at hux
   obtain ⟨p, h3, _, h4⟩ := lE_top (c1 := c') E c hEn hl hl2
   obtain ⟨q, h5, h6, h7⟩ := hnew e he
   rw [h3] at h5
   injection h5 with h5
   rw [h6, h7, ← h5, h4 h1]
  refine ⟨?_, fun y hy => ?_, fun z hz => ?_⟩
  ·show chn _ _ m r m
   by_cases hE : E = []
   ·rw [hsrc hE]
    rfl
   ·rw [hc.row, chn_append, ]
    refine ⟨c', (chn_append _).2 ⟨c, chn_congr _ (fun e he => hold e (hAE e (.inl he))) hc3, hEc hE⟩, chn_congr _ (fun e he => hold e (hAE e (.inr he))) hc2⟩
  ·rcases List.mem_cons.1 hy with rfl | hy
   ·rw [hF]
    refine ⟨⟨c, c', chn_congr _ (fun e he => hold e (habE _ hx hp e he)) hc4, hEc, fun hE => ?_⟩, fun a l1 l2 e h1 h2 => ?_, fun e he h1 => ?_⟩
    ·have hA := (hc.nil hE).1
     have hB : B = [] := by have := hc.row; rw [hsrc hE] at this; exact (List.append_eq_nil_iff.1 this.symm).2
     rw [hA] at hc3
     rw [hB] at hc2
     exact ⟨hc3.symm, hc2⟩
    ·obtain ⟨p, h3, h4, _⟩ := lE_top (c1 := c') E c hEn e h1
     obtain ⟨q, h5, _, h6⟩ := hnew a (by rw [e]; simp)
     rw [h3] at h5
     injection h5 with h5
     rw [h6, ← h5, h4 h2]
    ·exact hElo e he h1
   ·have hyN := hr' y hy
    have hyp : (y : Int) ∉ pl ++ [(x : Int)] := fun hm => by
     have h1 := hfin.nd
     rw [hplf] at h1
     exact (List.nodup_append.1 h1).2.2 _ hm _ (List.mem_map.2 ⟨y, hy, rfl⟩) rfl
    rw [List.mem_append, not_or] at hyp
    refine (hver y hy).congr (fun e he => hold e (habE y hyN hyp.1 e he)) (fun e he => hold e (fun hE => ?_))
    have hxy : x ≠ y := fun e' => hyp.2 (by rw [e']; simp)
    rw [← hF] at hE
    exact flat_disj _ x y hnf hxy hE he
  ·rcases Classical.em (z ∈ E) with he | he
   ·exact hElo z he hz
   ·rw [(hold z he).1, (hold z he).2]; exact hlo z hz
end
end Go.Proofs.YtneeknlhlkpnpaaGreat
namespace Go.Proofs.YtneeknlhlkpnpaaGreat
open Go.RowKit
structure PlanR (N : Nat) (es : List (Int × Int)) (ord : List Int) (outs : List (List Int)) (en : List (List Itm)) (l : List Nat) (rF : List Itm) (s : Nat) : Prop where
 good : GoodP N es
 onat : ord = natI l
 perm : l.Perm (List.range N)
 outp : OutsP N es outs
 outl : outs.length = N
 walk : Walk es outs ([], [], List.replicate N []) l (rF, ord, en)
 sN : s < N
 src : ∀ y, y < N → inD es y = 0 → y = s
 sin : inD es s = 0
section
variable {N : Nat} {es : List (Int × Int)} {ord : List Int} {outs : List (List Int)} {en : List (List Itm)} {l : List Nat} {rF : List Itm} {s : Nat}
theorem inD_zero {y : Nat} : inD es y = 0 ↔ ∀ i, i < es.length → (es.getD i (0, 0)).2 ≠ (y : Int) := by
 unfold inD
 rw [List.length_eq_zero_iff]
 constructor
 ·intro h i hi e
  have := mem_endsF.2 ⟨i, rfl, hi, e⟩
  rw [h] at this
  cases this
 ·intro h
  rw [List.eq_nil_iff_forall_not_mem]
  intro a ha
  obtain ⟨i, _, hi, e⟩ := mem_endsF.1 ha
  exact h i hi e
theorem good_src (hg : GoodP N es) : ∃ s, s < N ∧ inD es s = 0 ∧ ∀ y, y < N → inD es y = 0 → y = s := by
 have hs := hg.src
 rw [Int.toNat_natCast] at hs
 have hb : ∀ y, y ∈ bareV N es Prod.snd ↔ y < N ∧ inD es y = 0 := fun y => by rw [mem_bareV, inD_zero]
 have hin := may_inN hg.may
 have ho := hg.ord
 rw [Int.toNat_natCast] at ho
 obtain ⟨L, hL⟩ := rank_of_ord hin ho
 have h0 : 0 < N := by have := (may_parts hg.may).1; omega
 have key : ∀ k x, x < N → L x = k → ∃ s, s < N ∧ inD es s = 0 := by
  intro k
  induction k using Nat.strongRecOn with
  | _ k ih =>
   intro x hx hk
   by_cases hz : inD es x = 0
   ·exact ⟨x, hx, hz⟩
   ·rw [inD_zero] at hz
    obtain ⟨i, hi, he⟩ : ∃ i, i < es.length ∧ (es.getD i (0, 0)).2 = (x : Int) := Classical.byContradiction fun hno => hz fun i hi e => hno ⟨i, hi, e⟩
    have hm := getD_mem hi
    have hbd := hin _ hm
    have hr := hL _ hm
    obtain ⟨t, ht⟩ := Int.eq_ofNat_of_zero_le hbd.1
    rw [he, ht, Int.toNat_natCast, Int.toNat_natCast] at hr
    exact ih (L t) (by omega) t (by omega) rfl
 obtain ⟨s, hsN, hs0⟩ := key _ 0 h0 rfl
 refine ⟨s, hsN, hs0, fun y hy h => ?_⟩
 obtain ⟨i, hi, ei⟩ := List.getElem_of_mem ((hb s).2 ⟨hsN, hs0⟩)
 obtain ⟨j, hj, ej⟩ := List.getElem_of_mem ((hb y).2 ⟨hy, h⟩)
 have e1 : i = j := by omega
 subst e1
 rw [← ei, ← ej]
theorem run_plan (hg : GoodP N es) (h : runO N es ord outs = some en) : ∃ l rF s, PlanR N es ord outs en l rF s := by
 unfold runO at h
 split at h
 ·rename_i hof
  obtain ⟨h1, h2, h3, h4⟩ := ofB_iff.1 hof
  have hperm : ord.Perm (upI N) := by rw [← h3]; exact (List.mergeSort_perm ord leI).symm
  have hnat : ord = natI (ord.map Int.toNat) := by
   unfold natI
   rw [List.map_map]
   conv => lhs; rw [← List.map_id ord]
   apply List.map_congr_left
   intro a ha
   have := hperm.mem_iff.1 ha
   unfold upI at this
   obtain ⟨k, _, rfl⟩ := List.mem_map.1 this
   rfl
  have hl : (ord.map Int.toNat).Perm (List.range N) := by
   refine (hperm.map _).trans (List.Perm.of_eq ?_)
   unfold upI
   rw [List.map_map]
   conv => rhs; rw [← List.map_id (List.range N)]
   apply List.map_congr_left
   intro a _
   rfl
  have hO : OutsP N es outs := fun x hx => by rw [← h4 x hx]; exact (List.mergeSort_perm _ leI).symm
  unfold runS at h
  cases hq : ord.foldl (stepR es outs) (some ([], [], List.replicate N [])) with
  | none => rw [hq] at h; cases h
  | some fin =>
   rw [hq] at h
   simp only [Option.map_some, Option.some.injEq] at h
   subst h
   have hw : Walk es outs ([], [], List.replicate N []) (ord.map Int.toNat) fin := by
    rw [hnat] at hq
    exact (walk_fold _ _).1 hq
   have hp := hw.placed
   simp only [List.nil_append] at hp
   rw [← hnat] at hp
   obtain ⟨s, hs1, hs2, hs3⟩ := good_src hg
   refine ⟨ord.map Int.toNat, fin.1, s, hg, hnat, hl, hO, h1, ?_, hs1, hs3, hs2⟩
   rw [show ((fin.1, ord, fin.2.2) : SwSt) = fin from by rw [← hp]]
   exact hw
 ·cases h
theorem PlanR.lt (h : PlanR N es ord outs en l rF s) : ∀ x ∈ l, x < N := fun _x hx => List.mem_range.1 (h.perm.mem_iff.1 hx)
theorem PlanR.mem (h : PlanR N es ord outs en l rF s) {x : Nat} (hx : x < N) : (x : Int) ∈ ord := by
 rw [h.onat]; exact List.mem_map.2 ⟨x, h.perm.mem_iff.2 (List.mem_range.2 hx), rfl⟩
theorem PlanR.inv (h : PlanR N es ord outs en l rF s) : SwI N es outs rF ord en := h.walk.inv h.lt SwI.start
theorem PlanR.m (h : PlanR N es ord outs en l rF s) {i : Nat} (hi : i < es.length) : ∃ t u : Nat, es.getD i (0, 0) = ((t : Int), (u : Int)) ∧ t < N ∧ u < N ∧ t ≠ u := by
 obtain ⟨t, u, e, ht, hu⟩ := (may_inN h.good.may).at_ hi
 have e2 : es.getD i (0, 0) = ((t : Int), (u : Int)) := by rw [List.getD_eq_getElem?_getD, List.getElem?_eq_getElem hi]; exact e
 refine ⟨t, u, e2, ht, hu, fun e3 => h.good.loop i hi ?_⟩
 rw [e2, e3]
theorem PlanR.item (h : PlanR N es ord outs en l rF s) {x : Nat} (hx : x < N) {e : Itm} (he : e ∈ en.getD x []) : (∃ i : Nat, i < es.length ∧ (es.getD i (0, 0)).2 = (x : Int) ∧ e = itE es i) ∨ e.1 = -1 := by
 rcases h.inv.item h.outp (List.mem_append_right _ (mem_flatten_getD he)) with ⟨i, hi, _, rfl⟩ | ⟨u, _, _, rfl⟩
 ·refine .inl ⟨i, hi, ?_, rfl⟩
  rcases h.inv.hd x hx _ he with h1 | h1
  ·exact h1
  ·obtain ⟨t, u, e2, _⟩ := h.m hi
   have h1 : (es.getD i (0, 0)).2 = -1 := h1
   rw [e2] at h1
   simp at h1
 ·exact .inr rfl
theorem PlanR.edge (h : PlanR N es ord outs en l rF s) {x i : Nat} (hx : x < N) (hi : i < es.length) (he : (es.getD i (0, 0)).2 = (x : Int)) : itE es i ∈ en.getD x [] := (h.inv.ended h.outp hx (h.mem hx) hi he).1
theorem PlanR.outm (h : PlanR N es ord outs en l rF s) {x : Nat} (hx : x < N) {a : Int} : a ∈ outs.getD x [] ↔ ∃ i : Nat, a = i ∧ i < es.length ∧ (es.getD i (0, 0)).1 = (x : Int) := ((h.outp x hx).mem_iff).trans mem_endsF
theorem mem_turnRow {o : List Int} {E : List Itm} {a : Int} : a ∈ turnRow o E ↔ (∃ i ∈ o, a = 2 * i) ∨ ∃ e ∈ E, e.1 ≠ -1 ∧ a = 2 * e.1 + 1 := by
 unfold turnRow outH inH
 simp only [List.mem_append, List.mem_map, List.mem_filter, List.mem_reverse, decide_eq_true_eq]
 constructor
 ·rintro (⟨i, h1, h2⟩ | ⟨e, ⟨h1, h2⟩, h3⟩)
  ·exact .inl ⟨i, h1, h2.symm⟩
  ·exact .inr ⟨e, h1, h2, h3.symm⟩
 ·rintro (⟨i, h1, h2⟩ | ⟨e, h1, h2, h3⟩)
  ·exact .inl ⟨i, h1, h2.symm⟩
  ·exact .inr ⟨e, ⟨h1, h2⟩, h3.symm⟩
theorem turnR_at {x : Nat} (hx : x < N) : (turnR N outs en).getD x [] = turnRow (outs.getD x []) (en.getD x []) := by
 unfold turnR
 rw [List.getD_eq_getElem?_getD, List.getElem?_map, List.getElem?_range hx]; rfl
theorem PlanR.right (h : PlanR N es ord outs en l rF s) : RightP N es (turnR N outs en) := by
 have hget : ∀ x (hx : x < (turnR N outs en).length), (turnR N outs en)[x] = turnRow (outs.getD x []) (en.getD x []) := fun x hx => by
  have := turnR_at (outs := outs) (en := en) (x := x) (N := N) (by simpa [turnR_length] using hx)
  rw [List.getD_eq_getElem?_getD, List.getElem?_eq_getElem hx] at this
  exact this
 refine ⟨h.good.may, by rw [turnR_length], fun x hx a ha => ?_, fun x hx => ?_, fun d hd => ?_⟩
 ·rw [hget x hx] at ha
  have hxN : x < N := by simpa [turnR_length] using hx
  rcases mem_turnRow.1 ha with ⟨i, hi, rfl⟩ | ⟨e, he, h1, rfl⟩
  ·obtain ⟨k, rfl, hk, ht⟩ := (h.outm hxN).1 hi
   refine ⟨by omega, by omega, ?_⟩
   unfold atE
   rw [show (2 * (k : Int)).toNat = 2 * k by omega, if_pos (by omega), show 2 * k / 2 = k by omega]
   exact ht
  ·rcases h.item hxN he with ⟨k, hk, ht, rfl⟩ | h2
   ·have e1 : (itE es k).1 = (k : Int) := rfl
    rw [e1]
    refine ⟨by omega, by omega, ?_⟩
    unfold atE
    rw [show (2 * (k : Int) + 1).toNat = 2 * k + 1 by omega, if_neg (by omega), show (2 * k + 1) / 2 = k by omega]
    exact ht
   ·exact absurd h2 h1
 ·rw [hget x hx]
  have hxN : x < N := by simpa [turnR_length] using hx
  have n1 : (outs.getD x []).Nodup := (h.outp x hxN).nodup_iff.2 (endsF_nodup _ _ _ _)
  have n2 : (en.getD x []).Nodup := nodup_getD (List.nodup_append.1 (h.inv.nodup h.outp)).2.1 x
  unfold turnRow
  rw [List.nodup_append]
  refine ⟨?_, ?_, fun a ha b hb e => ?_⟩
  ·unfold outH
   rw [List.nodup_iff_pairwise_ne, List.pairwise_map]
   exact (List.nodup_iff_pairwise_ne.1 n1).imp fun h e => h (by omega)
  ·unfold inH
   have n3 : (((en.getD x []).reverse).filter fun e => decide (e.1 ≠ -1)).Nodup := (((List.reverse_perm _).nodup_iff.2 n2).filter _)
   rw [List.nodup_iff_pairwise_ne, List.pairwise_map]
   refine (List.nodup_iff_pairwise_ne.1 n3).imp_of_mem fun {a b} ha hb h3 e => h3 ?_
   simp only [List.mem_filter, List.mem_reverse, decide_eq_true_eq] at ha hb
   rcases h.item hxN ha.1 with ⟨i, _, _, ea⟩ | ea
   ·rcases h.item hxN hb.1 with ⟨j, _, _, eb⟩ | eb
    ·rw [ea, eb] at e ⊢
     simp only [itE] at e
     rw [show i = j by omega]
    ·exact absurd eb hb.2
   ·exact absurd ea ha.2
  ·obtain ⟨i, _, h1⟩ := List.mem_map.1 ha
   obtain ⟨j, _, h2⟩ := List.mem_map.1 hb
   omega
 ·obtain ⟨t, u, e2, ht, hu, _⟩ := h.m (i := d / 2) (by omega)
  rcases Nat.mod_two_eq_zero_or_one d with hd2 | hd2
  ·refine ⟨t, by rw [turnR_length]; exact ht, ?_⟩
   rw [hget]
   exact mem_turnRow.2 (.inl ⟨((d / 2 : Nat) : Int), (h.outm ht).2 ⟨d / 2, rfl, by omega, by rw [e2]⟩, by omega⟩)
  ·refine ⟨u, by rw [turnR_length]; exact hu, ?_⟩
   rw [hget]
   refine mem_turnRow.2 (.inr ⟨itE es (d / 2), h.edge hu (by omega) (by rw [e2]), ?_, ?_⟩)
   ·simp only [itE]; omega
   ·simp only [itE]; omega
def labD (es : List (Int × Int)) (L R : Itm → Nat) (h : Nat) : Nat := if h % 2 = 0 then L (itE es (h / 2)) else R (itE es (h / 2))
theorem labD_even (L R : Itm → Nat) (i : Nat) : labD es L R (2 * i) = L (itE es i) := by
 unfold labD; rw [if_pos (by omega), show 2 * i / 2 = i by omega]
theorem labD_odd (L R : Itm → Nat) (i : Nat) : labD es L R (2 * i + 1) = R (itE es i) := by
 unfold labD; rw [if_neg (by omega), show (2 * i + 1) / 2 = i by omega]
theorem chn_map {α β : Type} {f : α → β} {L R : β → Nat} {L' R' : α → Nat} : ∀ (l : List α) {a b : Nat}, (∀ e ∈ l, L (f e) = L' e ∧ R (f e) = R' e) → chn L' R' a l b → chn L R a (l.map f) b
 | [], _, _, _, h => h
 | e :: l, a, b, hc, h => by
  have h0 := hc e (List.mem_cons_self ..)
  refine ⟨h0.1.trans h.1, ?_⟩
  rw [h0.2]
  exact chn_map l (fun e he => hc e (List.mem_cons_of_mem _ he)) h.2
theorem chn_rev {α : Type} {L R : α → Nat} : ∀ (l : List α) {a b : Nat}, chn L R a l b → chn R L b l.reverse a
 | [], a, b, h => Eq.symm h
 | e :: l, a, b, h => by
  rw [List.reverse_cons, chn_append]
  exact ⟨R e, chn_rev l h.2, rfl, h.1⟩
theorem chn_filter {α : Type} {L R : α → Nat} {p : α → Bool} : ∀ (l : List α) {a b : Nat}, (∀ e ∈ l, p e = false → L e = R e) → chn L R a l b → chn L R a (l.filter p) b
 | [], _, _, _, h => h
 | e :: l, a, b, hc, h => by
  have ih := chn_filter l (fun e he => hc e (List.mem_cons_of_mem _ he)) h.2
  rw [List.filter_cons]
  cases hp : p e with
  | true => exact ⟨h.1, ih⟩
  | false =>
   have := hc e (List.mem_cons_self ..) hp
   rw [← this, h.1] at ih
   exact ih
theorem chn_get {α : Type} {L R : α → Nat} : ∀ (l : List α) {a b : Nat} (j : Nat) (h : j + 1 < l.length), chn L R a l b → L l[j + 1] = R (l[j]'(by omega))
 | [], _, _, _, h, _ => absurd h (by simp)
 | [_], _, _, j, h, _ => absurd h (by simp)
 | x :: y :: l, a, b, 0, h, hc => hc.2.1
 | x :: y :: l, a, b, j + 1, h, hc => chn_get (y :: l) j (by simpa using h) hc.2
theorem chn_cyc {α : Type} {L R : α → Nat} {l : List α} {c j : Nat} (hj : j < l.length) (h : chn L R c l c) : L (l[(j + 1) % l.length]'(Nat.mod_lt _ (by omega))) = R l[j] := by
 by_cases h1 : j + 1 < l.length
 ·have e : (j + 1) % l.length = j + 1 := Nat.mod_eq_of_lt h1
  simp only [e]
  exact chn_get l j h1 h
 ·have e : (j + 1) % l.length = 0 := by rw [show j + 1 = l.length by omega]; exact Nat.mod_self _
  simp only [e]
  have e1 : L (l[0]'(by omega)) = c := chn_head h (by rw [List.head?_eq_getElem?]; exact List.getElem?_eq_getElem _)
  have e2 : R l[j] = c := chn_last h (by rw [List.getLast?_eq_getElem?, show l.length - 1 = j by omega]; exact List.getElem?_eq_getElem _)
  rw [e1, e2]
def planL (es : List (Int × Int)) (outs : List (List Int)) (en : List (List Itm)) (l : List Nat) : Itm → Nat := labL es.length (outA es outs) (finF en) l
def planR (es : List (Int × Int)) (outs : List (List Int)) (en : List (List Itm)) (l : List Nat) : Itm → Nat := labR es.length (outA es outs) (finF en) l
theorem PlanR.ver (h : PlanR N es ord outs en l rF s) : (∀ x, x < N → VerL (planL es outs en l) (planR es outs en l) es.length (outA es outs x) (finF en x)) ∧ ∀ z : Itm, z.1 = -1 → planL es outs en l z = planR es outs en l z := by
 obtain ⟨_, h1, h2⟩ := run_labs h.outp h.src (m := es.length) h.walk h.lt (.inl ⟨rfl, rfl⟩) SwI.start
 exact ⟨fun x hx => h1 x (h.perm.mem_iff.2 (List.mem_range.2 hx)), h2⟩
theorem PlanR.ring (h : PlanR N es ord outs en l rF s) {x : Nat} (hx : x < N) : ∃ c, chn (fun a : Int => labD es (planL es outs en l) (planR es outs en l) a.toNat) (fun a : Int => labD es (planL es outs en l) (planR es outs en l) (ot a.toNat)) c (turnRow (outs.getD x []) (en.getD x [])) c := by
 obtain ⟨hv, hlo⟩ := h.ver
 obtain ⟨⟨c, c', k1, k2, k3⟩, _, hl⟩ := hv x hx
 have hI : ∀ {a b : Nat}, chn (planL es outs en l) (planR es outs en l) a (en.getD x []) b → chn (fun a : Int => labD es (planL es outs en l) (planR es outs en l) a.toNat) (fun a : Int => labD es (planL es outs en l) (planR es outs en l) (ot a.toNat)) b (inH (en.getD x []).reverse) a := fun hc => by
  unfold inH
  refine chn_map _ ?_ (chn_filter _ ?_ (chn_rev _ hc))
  ·intro e he
   simp only [List.mem_filter, List.mem_reverse, decide_eq_true_eq] at he
   rcases h.item hx he.1 with ⟨i, _, _, rfl⟩ | e1
   ·have e2 : (2 * (itE es i).1 + 1).toNat = 2 * i + 1 := by simp only [itE]; omega
    simp only [e2]
    rw [labD_odd, ot_odd, labD_even]
    exact ⟨rfl, rfl⟩
   ·exact absurd e1 he.2
  ·intro e he hp
   simp only [ne_eq, decide_not, Bool.not_eq_false', decide_eq_true_eq] at hp
   exact (hl e (List.mem_reverse.1 he) hp).symm
 have hO : outs.getD x [] ≠ [] → chn (fun a : Int => labD es (planL es outs en l) (planR es outs en l) a.toNat) (fun a : Int => labD es (planL es outs en l) (planR es outs en l) (ot a.toNat)) c (outH (outs.getD x [])) c' := fun hne => by
  unfold outA aboveR at k1
  rw [if_neg (fun h => hne (List.length_eq_zero_iff.1 h))] at k1
  have k2 : chn (fun i : Int => planL es outs en l (itE es i.toNat)) (fun i : Int => planR es outs en l (itE es i.toNat)) c (outs.getD x []) c' := by
   clear k2 k3
   have : ∀ i ∈ outs.getD x [], (i, (x : Int), (es.getD i.toNat (0, 0)).2) = itE es i.toNat := fun i hi => by
    obtain ⟨k, rfl, _, ht⟩ := (h.outm hx).1 hi
    unfold itE
    rw [← ht]; rfl
   have e : ((outs.getD x []).map fun i => ((i, (x : Int), (es.getD i.toNat (0, 0)).2) : Itm)) = (outs.getD x []).map fun i => itE es i.toNat := List.map_congr_left this
   rw [e] at k1
   have back : ∀ (q : List Int) {a b : Nat}, chn (planL es outs en l) (planR es outs en l) a (q.map fun i => itE es i.toNat) b → chn (fun i : Int => planL es outs en l (itE es i.toNat)) (fun i : Int => planR es outs en l (itE es i.toNat)) a q b := by
    intro q
    induction q with
    | nil => exact fun h => h
    | cons i q ih => exact fun h => ⟨h.1, ih h.2⟩
   exact back _ k1
  unfold outH
  refine chn_map _ ?_ k2
  intro i hi
  obtain ⟨k, rfl, _, _⟩ := (h.outm hx).1 hi
  have e2 : (2 * (k : Int)).toNat = 2 * k := by omega
  simp only [e2, Int.toNat_natCast]
  rw [labD_even, ot_even, labD_odd]
  exact ⟨rfl, rfl⟩
 unfold turnRow
 by_cases ho : outs.getD x [] = []
 · -- a sink
  have e1 : c = c' := by
   unfold outA aboveR at k1
   rw [if_pos (by rw [ho]; rfl)] at k1
   exact k1.1.symm.trans ((hlo _ rfl).trans k1.2)
  subst e1
  rw [ho]
  by_cases hE : en.getD x [] = []
  ·rw [hE]; exact ⟨0, rfl⟩
  ·exact ⟨c, hI (k2 hE)⟩
 ·by_cases hE : en.getD x [] = []
  ·obtain ⟨e1, e2⟩ := k3 hE
   have := hO ho
   rw [hE, e1, e2] at *
   exact ⟨es.length, (chn_append _).2 ⟨_, this, rfl⟩⟩
  ·exact ⟨c, (chn_append _).2 ⟨c', hO ho, hI (k2 hE)⟩⟩
theorem PlanR.lab_next (h : PlanR N es ord outs en l rF s) {d : Nat} (hd : d < 2 * es.length) : labD es (planL es outs en l) (planR es outs en l) (nxf es (turnR N outs en) d) = labD es (planL es outs en l) (planR es outs en l) d := by
 have hR := h.right
 obtain ⟨x, j, hx, hj, he, hv⟩ := hR.pos (d := ot d) (ot_lt hd)
 have h1 := sig_pos hR hx hj he
 have e0 : sig es (turnR N outs en) (ot d) = nxf es (turnR N outs en) d := by unfold sig; rw [ot_ot]
 rw [e0] at h1
 have hxN : x < N := by simpa [turnR_length] using hx
 obtain ⟨c, hc⟩ := h.ring hxN
 rw [← turnR_at (N := N) hxN] at hc
 have eg : (turnR N outs en).getD x [] = (turnR N outs en)[x] := by rw [List.getD_eq_getElem?_getD, List.getElem?_eq_getElem hx]; rfl
 rw [eg] at hc
 have h2 := chn_cyc hj hc
 simp only [h1, he, Int.toNat_natCast, ot_ot] at h2
 exact h2
end
end Go.Proofs.YtneeknlhlkpnpaaGreat
namespace Go.Proofs.YtneeknlhlkpnpaaGreat
open Go.RowKit
section
variable {N : Nat} {es : List (Int × Int)} {ord : List Int} {outs : List (List Int)} {en : List (List Itm)} {l : List Nat} {rF : List Itm} {s : Nat}
theorem countP_le_of {p q : Nat → Bool} {n : Nat} (h : ∀ k, k < n → p k = true → q k = true) : (List.range n).countP p ≤ (List.range n).countP q :=
 List.countP_mono_left fun k hk => h k (List.mem_range.1 hk)
theorem cls_coarse' {R : Nat → Nat → Prop} {v : Nat → Nat} {N : Nat} (h : ∀ x y, x < N → y < N → R x y → v x = v y) : cls (fun x y => v x = v y) N ≤ cls R N := by
 unfold cls
 refine countP_le_of fun z hz hp => ?_
 rw [tst_iff] at hp ⊢
 exact fun k hk hr => hp k hk (h k z (by omega) hz hr)
def lastE (es : List (Int × Int)) (en : List (List Itm)) (a : Nat) : Bool := decide ((en.getD (es.getD a (0, 0)).2.toNat []).getLast? = some (itE es a))
theorem lastE_iff {a : Nat} : lastE es en a = true ↔ (en.getD (es.getD a (0, 0)).2.toNat []).getLast? = some (itE es a) := decide_eq_true_iff
theorem PlanR.top (h : PlanR N es ord outs en l rF s) {a : Nat} (ha : a < es.length) (hn : lastE es en a = false) : planR es outs en l (itE es a) = a := by
 obtain ⟨t, u, e2, ht, hu, _⟩ := h.m ha
 have hm := h.edge hu ha (by rw [e2])
 obtain ⟨l1, l2, e⟩ := List.append_of_mem hm
 have hl2 : l2 ≠ [] := by
  intro e3
  rw [e3] at e
  refine absurd (lastE_iff.2 ?_) (by rw [hn]; simp)
  rw [e2]
  show (en.getD ((u : Int)).toNat []).getLast? = some (itE es a)
  rw [Int.toNat_natCast, e]
  simp
 have := ((h.ver).1 u hu).top (itE es a) l1 l2 e hl2 (by simp only [itE]; omega)
 rw [this]
 rfl
theorem PlanR.lasts (h : PlanR N es ord outs en l rF s) : (List.range es.length).countP (lastE es en) + 1 ≤ N := by
 rw [List.countP_eq_length_filter]
 have hnd : (((List.range es.length).filter (lastE es en)).map fun a => (es.getD a (0, 0)).2.toNat).Nodup := by
  rw [List.nodup_iff_pairwise_ne, List.pairwise_map]
  refine (List.nodup_iff_pairwise_ne.1 (List.nodup_range.filter _)).imp_of_mem fun {a b} ha hb hne e => hne ?_
  obtain ⟨ha1, ha2⟩ := List.mem_filter.1 ha
  obtain ⟨hb1, hb2⟩ := List.mem_filter.1 hb
  unfold lastE at ha2 hb2
  have ha2 := of_decide_eq_true ha2
  have hb2 := of_decide_eq_true hb2
  rw [e] at ha2
  rw [ha2] at hb2
  injection hb2 with hb2
  have := congrArg Prod.fst hb2
  simp only [itE] at this
  omega
 have hsub : (((List.range es.length).filter (lastE es en)).map fun a => (es.getD a (0, 0)).2.toNat) ⊆ (List.range N).filter fun x => decide (x ≠ s) := by
  intro x hx
  obtain ⟨a, ha, rfl⟩ := List.mem_map.1 hx
  have ha1 := List.mem_range.1 (List.mem_filter.1 ha).1
  obtain ⟨t, u, e2, ht, hu, _⟩ := h.m ha1
  rw [e2, List.mem_filter]
  simp only [Int.toNat_natCast, List.mem_range, decide_eq_true_eq]
  refine ⟨hu, fun e => ?_⟩
  have := inD_zero.1 h.sin a ha1
  rw [e2] at this
  exact this (by rw [e])
 have h1 := List.Nodup.length_le_of_subset hnd hsub
 rw [List.length_map] at h1
 have h2 : ((List.range N).filter fun x => decide (x ≠ s)).length + 1 = N := by
  rw [← List.countP_eq_length_filter]
  have := countP_less (p := fun _ => true) (q := fun x => decide (x ≠ s)) (m := s) rfl (fun k => by simp) N
  rw [if_pos h.sN] at this
  simp at this
  simp only [ne_eq, decide_not]
  omega
 omega
theorem PlanR.srcOut (h : PlanR N es ord outs en l rF s) (he : 0 < es.length) : ∃ i : Nat, i < es.length ∧ planL es outs en l (itE es i) = es.length ∧ (es.getD i (0, 0)).1 = (s : Int) ∧ (outs.getD s []).head? = some (i : Int) ∧ en.getD s [] = [] := by
 obtain ⟨⟨c, c', k1, _, k3⟩, _, _⟩ := h.ver.1 s h.sN
 have hE : finF en s = [] := by
  have h1 := h.inv.cnt s h.sN (h.mem h.sN)
  rw [h.sin] at h1
  apply Classical.byContradiction
  intro hne
  obtain ⟨⟨e, h2, h3⟩, _⟩ := h.inv.ends s h.sN hne
  have : 0 < (en.getD s []).countP fun e => decide (e.2.2 = (s : Int)) := List.countP_pos_iff.2 ⟨e, List.mem_of_head? h2, by simpa using h3⟩
  omega
 obtain ⟨ec, ec'⟩ := k3 hE
 obtain ⟨t, u, e2, ht, hu, htu⟩ := h.m he
 have hne : outs.getD s [] ≠ [] := by
  intro hno
  have hw := h.walk
  cases hw with
  | nil _ =>
   have := h.perm.length_eq
   simp at this
   omega
  | @cons r pl en0 x A E B rest fin hp hc hw2 =>
   have hrow := hc.row
   have hE0 : E = [] := (List.append_eq_nil_iff.1 (List.append_eq_nil_iff.1 hrow.symm).1).2
   have hx : x = s := h.src x (h.lt x (List.mem_cons_self ..)) (hc.nil hE0).2
   have hA : A = [] := (hc.nil hE0).1
   have hB : B = [] := (List.append_eq_nil_iff.1 hrow.symm).2
   cases hw2 with
   | nil _ =>
    have := h.perm.length_eq
    simp at this
    omega
   | @cons r2 pl2 en2 y A2 E2 B2 rest2 fin2 hp2 hc2 _ =>
    have hy : y < N := h.lt y (by simp)
    by_cases hz : E2 = []
    ·have := h.src y hy (hc2.nil hz).2
     rw [this, hx] at hp2
     simp at hp2
    ·obtain ⟨⟨e, he1, he2⟩, _⟩ := hc2.ends hz
     have hm : e ∈ A ++ outA es outs x ++ B := by rw [hc2.row]; simp [List.mem_of_head? he1]
     rw [hA, hB, hx] at hm
     unfold outA aboveR at hm
     rw [if_pos (by rw [hno]; rfl)] at hm
     have : e = (-1, (s : Int), -1) := by simpa using hm
     rw [this] at he2
     simp at he2
 obtain ⟨o, hd⟩ : ∃ o, (outs.getD s []).head? = some o := by
  cases hq : (outs.getD s []).head? with
  | some o => exact ⟨o, rfl⟩
  | none => exact absurd (List.head?_eq_none_iff.1 hq) hne
 obtain ⟨i, rfl, hi, hti⟩ := (h.outm h.sN).1 (List.mem_of_head? hd)
 refine ⟨i, hi, ?_, hti, hd, hE⟩
 have hd2 : (outA es outs s).head? = some (itE es i) := by
  unfold outA aboveR
  rw [if_neg (fun h0 => hne (List.length_eq_zero_iff.1 h0)), List.head?_map, hd]
  simp only [Option.map_some, itE, hti, Int.toNat_natCast]
 rw [chn_head k1 hd2, ec]
theorem PlanR.faces (h : PlanR N es ord outs en l rF s) (he : 0 < es.length) : es.length + 2 ≤ N + (facesOf N es (turnR N outs en)).length := by
 have hR := h.right
 rw [faces_rows hR, rowsUpto_length]
 obtain ⟨v, hv⟩ : ∃ v : Nat → Nat, v = fun d => min (labD es (planL es outs en l) (planR es outs en l) d) es.length := ⟨_, rfl⟩
 have hvs : ∀ d, d < 2 * es.length → v (nxf es (turnR N outs en) d) = v d := fun d hd => by
  rw [hv]; simp only; rw [h.lab_next hd]
 have hP := nxf_perm hR
 have h1 := cls_coarse' (R := Orb (nxf es (turnR N outs en))) (v := v) (N := 2 * es.length) (fun x y hx _ ⟨i, hi⟩ => by
  subst hi
  have : ∀ (i x : Nat), x < 2 * es.length → v x = v (iter (nxf es (turnR N outs en)) i x) := by
   intro i
   induction i with
   | zero => intro x _; rfl
   | succ i ih => intro x hx; rw [← hvs x hx]; exact ih _ (hP.lt x hx)
  exact this i x hx)
 rw [cls_map (M := es.length + 1) _ (fun d _ => by rw [hv]; simp only; omega)] at h1
 have h2 : (List.range (es.length + 1)).countP (fun x => decide (x = es.length) || !lastE es en x) ≤ (List.range (es.length + 1)).countP fun x => tst (∃ d, d < 2 * es.length ∧ v d = x) := by
  refine countP_le_of fun a ha hp => ?_
  rw [tst_iff]
  by_cases hae : a = es.length
  ·obtain ⟨i, hi, hL, _⟩ := h.srcOut he
   refine ⟨2 * i, by omega, ?_⟩
   rw [hv]
   simp only
   rw [labD_even, hL, hae, Nat.min_self]
  ·have hnl : lastE es en a = false := by simpa [hae] using hp
   refine ⟨2 * a + 1, by omega, ?_⟩
   rw [hv]
   simp only
   rw [labD_odd, h.top (by omega) hnl]
   omega
 have h2 := Nat.le_trans h2 h1
 rw [List.range_succ, List.countP_append] at h2
 have h3 : (List.range es.length).countP (fun x => decide (x = es.length) || !lastE es en x) = (List.range es.length).countP (fun x => !lastE es en x) := by
  apply List.countP_congr
  intro x hx
  have := List.mem_range.1 hx
  rw [decide_eq_false (by omega : ¬ x = es.length), Bool.false_or]
 have h4 : (List.range es.length).countP (lastE es en) + (List.range es.length).countP (fun x => !lastE es en x) = es.length := by
  have := List.length_eq_countP_add_countP (lastE es en) (l := List.range es.length)
  rw [List.length_range] at this
  have e : (List.range es.length).countP (fun a => decide ¬lastE es en a = true) = (List.range es.length).countP (fun x => !lastE es en x) := by
   apply List.countP_congr; intro x _; simp
  omega
 have h5 := h.lasts
 have h6 : [es.length].countP (fun x => decide (x = es.length) || !lastE es en x) = 1 := by simp
 rw [h3, h6] at h2
 generalize cls (Orb (nxf es (turnR N outs en))) (2 * es.length) = C at *
 generalize (List.range es.length).countP (lastE es en) = La at *
 generalize (List.range es.length).countP (fun x => !lastE es en x) = Lb at *
 omega
theorem PlanR.gen (h : PlanR N es ord outs en l rF s) : gen N es (turnR N outs en) = 0 := by
 have hR := h.right
 have hin := right_inN hR
 have hg := gen_spec hR hin
 rw [turnR_length] at hg hin
 obtain ⟨s', hs', hq⟩ := good_conn h.good
 have h0 : 0 < N := by have := h.sN; omega
 have hc1 : cls (Q es es.length) N = 1 := one_cls h0 fun x hx => Star.trans (Q.symm (hq 0 h0)) (hq x hx)
 rw [hc1] at hg
 rcases Nat.eq_zero_or_pos es.length with he | he
 ·rw [he] at hg
  omega
 ·have := h.faces he
  omega
theorem PlanR.wrapped (h : PlanR N es ord outs en l rF s) : turnW N outs en = turnR N outs en := by
 unfold turnW turnR
 apply List.map_congr_left
 intro x hx
 have hxN := List.mem_range.1 hx
 have hm := (may_parts h.good.may).2.2
 unfold turnRowW turnRow outH
 congr 1
 ·apply List.map_congr_left
  intro i hi
  obtain ⟨k, rfl, hk, _⟩ := (h.outm hxN).1 hi
  unfold wrap64
  omega
 ·unfold inHw inH
  apply List.map_congr_left
  intro e he
  simp only [List.mem_filter, List.mem_reverse, decide_eq_true_eq] at he
  rcases h.item hxN he.1 with ⟨k, hk, _, rfl⟩ | e1
  ·simp only [itE]
   unfold wrap64
   omega
  ·exact absurd e1 he.2
theorem run_flat {n : Int} {es : List (Int × Int)} {ord : List Int} {outs : List (List Int)} {en : List (List Itm)} (hg : GoodP n es) (hr : runO n.toNat es ord outs = some en) : RightP n es (turnW n.toNat outs en) ∧ askA n es (turnW n.toNat outs en) = true := by
 obtain ⟨N, rfl⟩ : ∃ N : Nat, n = (N : Int) := ⟨n.toNat, by have := (may_parts hg.may).1; omega⟩
 rw [Int.toNat_natCast] at hr ⊢
 obtain ⟨l, rF, s, h⟩ := run_plan hg hr
 have hR := h.right
 rw [h.wrapped]
 refine ⟨hR, fask_ask ?_⟩
 unfold faskB
 rw [show goodB (N : Int) es = true from tst_iff.2 hg, right_iff.2 hR, decide_eq_true h.gen]
 rfl
end
end Go.Proofs.YtneeknlhlkpnpaaGreat
