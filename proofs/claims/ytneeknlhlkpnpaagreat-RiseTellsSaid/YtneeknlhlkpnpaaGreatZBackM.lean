import Derived.Test.YtneeknlhlkpnpaaGreatZMirP
import Derived.Test.YtneeknlhlkpnpaaGreatZHalv
/-
 A list of rows that is made here, in memory: a row put in another one's place; two lists joined. Written by an AI agent.
-/
namespace Go.Proofs.YtneeknlhlkpnpaaGreat
open Go.RowKit
theorem concatO_rot (a : List Int) (k : Nat) (hk : k ≤ a.length) (W : World) (q : Nat) (A1 A2 : Option Addr) (c1 c2 : Nat) (hq : Blk W q 25 #[.slice A1 (a.length - k) c1, .slice A2 k c2]) (h1 : Cells W W.heap.size A1 (intCells (a.drop k))) (h2 : Cells W W.heap.size A2 (intCells (a.take k))) (hl : a.length ≤ 100000) :
  Calls Tryz.prog 74 #[.slice (some ⟨q, 0, none⟩) 2 2] W (fun e w' => ∃ A c, e = .returned (.slice A a.length c) ∧ Below W.heap.size W w' ∧ w'.ownsRow W.heap.size 3 1 (.slice A a.length c) a.length (intCells (rot a k))) := by
 have e1 : (a.drop k).length = a.length - k := by simp
 have e2 : (a.take k).length = k := by simp; omega
 have hR : RowsAt W W.heap.size (some ⟨q, 0, none⟩) [a.drop k, a.take k] := fun _ => by
  refine ⟨q, 0, rfl, hq.lt, fun i hi => ?_⟩
  match i with
  | 0 => exact ⟨A1, c1, by rw [Nat.zero_add, hq.cell]; show _ = some (Value.slice A1 (a.drop k).length c1); rw [e1]; rfl, h1⟩
  | 1 => exact ⟨A2, c2, by rw [Nat.zero_add, hq.cell]; show _ = some (Value.slice A2 (a.take k).length c2); rw [e2]; rfl, h2⟩
  | i + 2 => exact absurd hi (by simp)
 have hf : ([a.drop k, a.take k] : List (List Int)).flatten = rot a k := by simp [rot]
 have h := concatO_any (some ⟨q, 0, none⟩) 2 [a.drop k, a.take k] W hR (by simp) (by rw [hf, rot_length]; exact hl)
 rw [hf, rot_length] at h
 exact h
theorem FacesOwn.set_ {w : World} {base gU cap x c : Nat} {A : Option Addr} {F : List (List Int)} {f : List Int} (h : FacesOwn w base (.slice (some ⟨gU, 0, none⟩) F.length cap) F) (hx : x < F.length) (hf : w.ownsRow base 3 1 (.slice A f.length c) f.length (intCells f)) :
  FacesOwn (w.setCell ⟨gU, x, none⟩ (.slice A f.length c)) base (.slice (some ⟨gU, 0, none⟩) F.length cap) (F.set x f) ∧ Evo base [25] w (w.setCell ⟨gU, x, none⟩ (.slice A f.length c)) ∧ (∃ u, w.cell? ⟨gU, x, none⟩ = some u) ∧ w.frozen? ⟨gU, x, none⟩ = false := by
 obtain ⟨sl, h1, h2⟩ := h
 obtain ⟨g, cap', R, e, hg, hb, hR, hcap, hcm, hxl⟩ := own_blk h1 (by omega)
 injection e with e _ e2
 injection e with e
 injection e with e
 subst e e2
 have hE : Evo base [25] w (w.setCell ⟨gU, x, none⟩ (.slice A f.length c)) := Evo.set_ hb (List.mem_singleton.2 rfl) hg x _
 refine ⟨⟨sl.set x (.slice A f.length c), ?_, fun i hi => ?_⟩, hE, ⟨sl[x]'(by omega), ?_⟩, hb.frozen x⟩
 ·rw [List.length_set]
  have hb2 := hb.set_ x (.slice A f.length c)
  refine blk_own (R := R) hg ?_ (by rw [List.length_set]; exact hR) hcap hcm (by rw [List.length_set]; exact hxl)
  have e3 : (sl.toArray ++ R).setIfInBounds x (.slice A f.length c) = (sl.set x (.slice A f.length c)).toArray ++ R := by
   apply Array.ext'
   simp only [Array.toList_setIfInBounds, Array.toList_append]
   show (sl ++ R.toList).set x _ = sl.set x _ ++ R.toList
   rw [List.set_append_left _ _ (by omega)]
  rw [← e3]
  exact hb2
 ·rw [List.length_set] at hi
  by_cases hk : x = i
  ·subst hk
   refine ⟨A, c, ?_, ?_⟩
   ·rw [List.getElem_set_self, List.getElem?_set_self (by omega)]
   ·rw [List.getElem_set_self]
    exact own_evo hf hE (by decide)
  ·obtain ⟨Ai, ci, h3, h4⟩ := h2 i hi
   refine ⟨Ai, ci, ?_, ?_⟩
   ·rw [List.getElem_set_ne hk, List.getElem?_set_ne hk]
    exact h3
   ·rw [List.getElem_set_ne hk]
    exact own_evo h4 hE (by decide)
 ·rw [hb.cell x, Array.getElem?_append_left (by show x < sl.length; omega), List.getElem?_toArray, List.getElem?_eq_getElem (by omega)]
end Go.Proofs.YtneeknlhlkpnpaaGreat
