/-
  One edge more: no level is less, no more vertices are apart, no more chains are wanted (plain law). Written by an AI agent.
-/
import Derived.Test.YtnjikhhegebkiaaDoorWidLaw
import Derived.Test.YtnjikhhegebkiaaDoorLawSt
namespace Go.Proofs.YtnjikhhegebkiaaDoor
open Go.RowKit

theorem edge_snoc {es : List (Int × Int)} {p q : Nat} (x y : Nat) : Edge1 false (fun _ => true) (es ++ [((p : Int), (q : Int))]) x y ↔ Edge1 false (fun _ => true) es x y ∨ (x = p ∧ y = q) := by
  constructor
  · rintro ⟨i, hi, _, h⟩
    simp only [Bool.false_eq_true, false_and, or_false] at h
    by_cases hlt : i < es.length
    · rw [List.getElem_append_left hlt] at h
      exact .inl ⟨i, hlt, rfl, .inl h⟩
    · rw [List.getElem_append_right (by omega)] at h
      simp only [List.getElem_singleton, Prod.mk.injEq] at h
      exact .inr ⟨by omega, by omega⟩
  · rintro (⟨i, hi, _, h⟩ | ⟨rfl, rfl⟩)
    · simp only [Bool.false_eq_true, false_and, or_false] at h
      exact ⟨i, by simp; omega, rfl, .inl (by rw [List.getElem_append_left hi]; exact h)⟩
    · exact ⟨es.length, by simp, rfl, .inl (by simp)⟩

theorem InN.snoc {n : Nat} {es : List (Int × Int)} (h : InN n es) {p q : Nat} (hp : p < n) (hq : q < n) : InN n (es ++ [((p : Int), (q : Int))]) := by
  intro e he
  rcases List.mem_append.1 he with h1 | h1
  · exact h e h1
  · simp only [List.mem_singleton] at h1
    subst h1
    simp only
    omega
theorem mask_bd (a : Int) : 0 ≤ bits .and .i64 a 65535 ∧ bits .and .i64 a 65535 ≤ 65535 := by
  show 0 ≤ IntKind.i64.wrap ((BitVec.ofInt 64 a &&& BitVec.ofInt 64 65535).toNat : Int) ∧ IntKind.i64.wrap ((BitVec.ofInt 64 a &&& BitVec.ofInt 64 65535).toNat : Int) ≤ 65535
  have h : (BitVec.ofInt 64 a &&& BitVec.ofInt 64 65535).toNat ≤ 65535 := by
    rw [BitVec.toNat_and]
    exact Nat.le_trans Nat.and_le_right (by decide)
  rw [IntKind.wrap_i64]
  omega

/-- no level is less -/
theorem lev_grows {n : Nat} {es : List (Int × Int)} {x : Int × Int} {L L' : Nat → Int} (hE : EdgesIn n es) (hL : Lev n es L) (hL' : Lev n (es ++ [x]) L') : ∀ (d v : Nat), v < n → L v ≤ d → L v ≤ L' v
  | 0, v, hv, h => by
    have h1 : 0 ≤ L' v := hL'.nn v
    have h2 : L v ≤ ((0 : Nat) : Int) := h
    omega
  | d + 1, v, hv, h => by
    rcases hL.of v hv with h0 | ⟨e, he, h1, h2⟩
    · have h1 : 0 ≤ L' v := hL'.nn v
      omega
    · obtain ⟨q0, q1, q2, q3⟩ := hE e he
      have ih := lev_grows hE hL hL' d e.1.toNat (by omega) (by omega)
      have h3 := hL'.up e (List.mem_append_left _ he)
      have : e.2.toNat = v := by omega
      rw [this] at h3
      omega
theorem grown_le {n : Nat} {es : List (Int × Int)} {x : Int × Int} {T T' : List Nat} {ls ls' : List (List Int)} {a a' : List Int} (hE : EdgesIn n es) (hE' : EdgesIn n (es ++ [x])) (hord : (orderF es n).length = n) (hn : n ≤ 64) (h : Grown1 false (fun _ => true) n es T) (h' : Grown1 false (fun _ => true) n (es ++ [x]) T') (hd : Dil n (abF T n) ls a) (hd' : Dil n (abF T' n) ls' a') : a'.length ≤ a.length := by
  rw [← hd.len]
  have ha' := (dil_apart (show InN n (es ++ [x]) from hE') hn h' hd').anti
  refine anti_le hE hord hn h (dil_chained hE hn h hd) (fun i j hi hj hij => ?_) hd'.rise hd'.arng
  have h1 := ha' i j hi hj hij
  obtain ⟨p, hp, hpn⟩ := hd'.arng _ (List.getElem_mem hi)
  rw [hp] at h1 ⊢
  simp only [Int.toNat_natCast] at h1 ⊢
  cases hh : reachB n es p a'[j].toNat with
  | false => rfl
  | true =>
    have h2 := (reachB_iff (show InN n es from hE) hpn _).1 hh
    have h3 := (reachB_iff (show InN n (es ++ [x]) from hE') hpn a'[j].toNat).2 (h2.mono fun u v ⟨i, hi, _, e⟩ => ⟨i, by simp; omega, rfl, by rw [List.getElem_append_left hi]; exact e⟩)
    rw [h3] at h1
    cases h1
end Go.Proofs.YtnjikhhegebkiaaDoor
