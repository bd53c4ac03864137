/-
  Plain law: what poset.Apart gathers. Written by an AI agent.
-/
import Derived.Test.YtnjikhhegebkiaaDoorMatchLaw
namespace Go.Proofs.YtnjikhhegebkiaaDoor

def Bit (s x : Nat) : Prop := s.testBit x = true
/-- on the way: vertices B that were met from those joined with none, what they reach M, and those to come; x is being asked -/
structure Alt (n : Nat) (Ab : List Nat) (t : St) (B M : Nat) (todo : List Int) (x : Option Nat) : Prop where
  b : B < 18446744073709551616
  m : M < 18446744073709551616
  lt : ∀ a, Bit B a → a < n
  tl : ∀ z ∈ todo, ∃ k : Nat, z = k ∧ k < n
  free : ∀ a, a < n → nxt t a = -1 → Bit B a ∨ (a : Int) ∈ todo
  up : ∀ a, Bit B a → x ≠ some a → ∀ y, Up Ab a y → Bit M y
  here : ∀ a, x = some a → Bit B a
  back : ∀ y, Bit M y → bck t y = -1 ∨ ∃ z : Nat, bck t y = z ∧ z < n ∧ (Bit B z ∨ (z : Int) ∈ todo)
  low : ∀ D, Closed n Ab (bck t) D → (∀ a, a < n → nxt t a = -1 → ∀ y, Up Ab a y → D y) → (∀ a, (Bit B a ∨ (a : Int) ∈ todo) → ∀ y, Up Ab a y → D y) ∧ ∀ y, Bit M y → D y
def freeL (nx : List Int) (k : Nat) : List Int := ((List.range k).filter fun x => decide (nx.getD x 0 = -1)).map fun x : Nat => (x : Int)
theorem freeL_succ {nx : List Int} {k : Nat} : freeL nx (k + 1) = freeL nx k ++ if nx.getD k 0 = -1 then [(k : Int)] else [] := by
  unfold freeL
  rw [List.range_succ, List.filter_append, List.map_append]
  congr 1
  by_cases h : nx.getD k 0 = -1
  · rw [if_pos h, List.filter_cons_of_pos (by simpa using h)]; rfl
  · rw [if_neg h, List.filter_cons_of_neg (by simpa using h)]; rfl
theorem mem_freeL {nx : List Int} {k : Nat} {z : Int} : z ∈ freeL nx k ↔ ∃ a : Nat, z = a ∧ a < k ∧ nx.getD a 0 = -1 := by
  unfold freeL
  rw [List.mem_map]
  constructor
  · rintro ⟨a, ha, rfl⟩
    rw [List.mem_filter, List.mem_range] at ha
    exact ⟨a, rfl, ha.1, by simpa using ha.2⟩
  · rintro ⟨a, rfl, h1, h2⟩
    exact ⟨a, List.mem_filter.2 ⟨List.mem_range.2 h1, by simpa using h2⟩, rfl⟩
theorem freeL_length (nx : List Int) (k : Nat) : (freeL nx k).length ≤ k := by
  unfold freeL; rw [List.length_map]; exact Nat.le_trans (List.length_filter_le _ _) (by simp)
theorem no_bit (a : Nat) : ¬ Bit 0 a := by unfold Bit; simp
theorem or_bit {s y : Nat} (hy : y < 64) {a : Nat} : Bit (s ||| ofSet [(y : Int)]) a ↔ Bit s a ∨ y = a := by
  unfold Bit
  rw [ofSet_one y hy, Nat.testBit_or, one_bit]
  simp
theorem or_small {s : Nat} (hs : s < 18446744073709551616) (l : List Int) : s ||| ofSet l < 18446744073709551616 := Nat.or_lt_two_pow (n := 64) hs (ofSet_lt _)
section
variable {n : Nat} {Ab : List Nat} {t : St} {B M : Nat} {todo : List Int} {x : Nat}
theorem Alt.start : Alt n Ab t 0 0 (freeL t.nx n) none := by
  refine ⟨by decide, by decide, fun a h => absurd h (no_bit a), fun z hz => ?_, fun a ha h => .inr (mem_freeL.2 ⟨a, rfl, ha, h⟩), fun a h => absurd h (no_bit a), (fun a h => (by cases h)), fun y h => absurd h (no_bit y), fun D hD h => ⟨fun a ha => ?_, fun y hy => absurd hy (no_bit y)⟩⟩
  · obtain ⟨a, rfl, ha, _⟩ := mem_freeL.1 hz
    exact ⟨a, rfl, ha⟩
  · rcases ha with ha | ha
    · exact absurd ha (no_bit a)
    · obtain ⟨c, hc, h1, h2⟩ := mem_freeL.1 ha
      have : a = c := by omega
      subst this
      exact h a h1 h2
theorem Alt.pass (h : Alt n Ab t B M ((x : Int) :: todo) none) (hx : Bit B x) : Alt n Ab t B M todo none := by
  have key : ∀ a : Nat, (Bit B a ∨ (a : Int) ∈ (x : Int) :: todo) → (Bit B a ∨ (a : Int) ∈ todo) := fun a ha => by
    rcases ha with ha | ha
    · exact .inl ha
    · rcases List.mem_cons.1 ha with ha | ha
      · have : a = x := by omega
        subst this; exact .inl hx
      · exact .inr ha
  refine ⟨h.b, h.m, h.lt, fun z hz => h.tl z (by simp [hz]), fun a ha hf => key a (h.free a ha hf), h.up, h.here, fun y hy => ?_, fun D hD hf => ?_⟩
  · rcases h.back y hy with h1 | ⟨z, h1, h2, h3⟩
    · exact .inl h1
    · exact .inr ⟨z, h1, h2, key z h3⟩
  · obtain ⟨h1, h2⟩ := h.low D hD hf
    exact ⟨fun a ha => h1 a (ha.imp id fun h => by simp [h]), h2⟩
theorem Alt.grab (h : Alt n Ab t B M ((x : Int) :: todo) none) (hn : n ≤ 64) : Alt n Ab t (B ||| ofSet [(x : Int)]) M todo (some x) := by
  obtain ⟨k, hk, hkn⟩ := h.tl x (by simp)
  have hxn : x < n := by omega
  have hx64 : x < 64 := by omega
  have key : ∀ a : Nat, (Bit B a ∨ (a : Int) ∈ (x : Int) :: todo) ↔ (Bit (B ||| ofSet [(x : Int)]) a ∨ (a : Int) ∈ todo) := fun a => by
    rw [or_bit hx64, List.mem_cons]
    constructor
    · rintro (h | h | h)
      · exact .inl (.inl h)
      · exact .inl (.inr (by omega))
      · exact .inr h
    · rintro ((h | h) | h)
      · exact .inl h
      · exact .inr (.inl (by omega))
      · exact .inr (.inr h)
  refine ⟨or_small h.b _, h.m, fun a ha => ?_, fun z hz => h.tl z (by simp [hz]), fun a ha hf => (key a).1 (h.free a ha hf), fun a ha hax y hu => ?_, fun a ha => ?_, fun y hy => ?_, fun D hD hf => ?_⟩
  · rcases (or_bit hx64).1 ha with ha | ha
    · exact h.lt a ha
    · omega
  · rcases (or_bit hx64).1 ha with ha | ha
    · exact h.up a ha (by simp) y hu
    · subst ha; exact absurd rfl hax
  · injection ha with ha
    subst ha
    exact (or_bit hx64).2 (.inr rfl)
  · rcases h.back y hy with h1 | ⟨z, h1, h2, h3⟩
    · exact .inl h1
    · exact .inr ⟨z, h1, h2, (key z).1 h3⟩
  · obtain ⟨h1, h2⟩ := h.low D hD hf
    exact ⟨fun a ha => h1 a ((key a).2 ha), h2⟩
theorem Alt.meet {y : Nat} (h : Alt n Ab t B M todo (some x)) (hn : n ≤ 64) (hy : y < n) (hu : Up Ab x y) (hg : Good n Ab (nxt t) (bck t)) : Alt n Ab t B (M ||| ofSet [(y : Int)]) (todo ++ if bck t y = -1 then [] else [bck t y]) (some x) := by
  have hy64 : y < 64 := by omega
  have hbx := h.here x rfl
  have key : ∀ a : Nat, (Bit B a ∨ (a : Int) ∈ todo) → (Bit B a ∨ (a : Int) ∈ todo ++ if bck t y = -1 then [] else [bck t y]) := fun a ha => ha.imp id fun h => List.mem_append_left _ h
  refine ⟨h.b, or_small h.m _, h.lt, fun z hz => ?_, fun a ha hf => key a (h.free a ha hf), fun a ha hax y' hu' => (or_bit hy64).2 (.inl (h.up a ha hax y' hu')), h.here, fun y' hy' => ?_, fun D hD hf => ?_⟩
  · rcases List.mem_append.1 hz with hz | hz
    · exact h.tl z hz
    · split at hz
      · cases hz
      · rcases hg.v1 y hy with h1 | ⟨c, h1, h2⟩
        · contradiction
        · exact ⟨c, by simpa [h1] using hz, h2⟩
  · rcases (or_bit hy64).1 hy' with h1 | h1
    · rcases h.back y' h1 with h1 | ⟨z, h1, h2, h3⟩
      · exact .inl h1
      · exact .inr ⟨z, h1, h2, key z h3⟩
    · subst h1
      rcases hg.v1 y hy with h1 | ⟨c, h1, h2⟩
      · exact .inl h1
      · exact .inr ⟨c, h1, h2, .inr (List.mem_append_right _ (by rw [if_neg (by omega)]; simp [h1]))⟩
  · obtain ⟨h1, h2⟩ := h.low D hD hf
    have hDy := h1 x (.inl hbx) y hu
    refine ⟨fun a ha => ?_, fun y' hy' => ?_⟩
    · rcases ha with ha | ha
      · exact h1 a (.inl ha)
      · rcases List.mem_append.1 ha with ha | ha
        · exact h1 a (.inr ha)
        · split at ha
          · cases ha
          · obtain ⟨z, hz, hzn, hcl⟩ := hD y hy hDy
            have : a = z := by have : (a : Int) = bck t y := by simpa using ha
                               omega
            subst this
            exact hcl
    · rcases (or_bit hy64).1 hy' with h3 | h3
      · exact h2 y' h3
      · subst h3; exact hDy
theorem Alt.close (h : Alt n Ab t B M todo (some x)) (hall : ∀ y, Up Ab x y → Bit M y) : Alt n Ab t B M todo none := by
  refine ⟨h.b, h.m, h.lt, h.tl, h.free, fun a ha _ y hu => ?_, (fun a ha => (by cases ha)), h.back, h.low⟩
  by_cases e : a = x
  · subst e; exact hall y hu
  · exact h.up a ha (fun e2 => e (by injection e2 with e2; exact e2.symm)) y hu
end
/-- what is told: in B, and not in M -/
def apartF (B M k : Nat) : List Int := ((List.range k).filter fun x => B.testBit x && !M.testBit x).map fun x : Nat => (x : Int)
theorem apartF_succ {B M k : Nat} : apartF B M (k + 1) = apartF B M k ++ if (B.testBit k && !M.testBit k) = true then [(k : Int)] else [] := by
  unfold apartF
  rw [List.range_succ, List.filter_append, List.map_append]
  congr 1
  by_cases h : (B.testBit k && !M.testBit k) = true
  · rw [if_pos h, List.filter_cons_of_pos (p := fun x => B.testBit x && !M.testBit x) h]; rfl
  · rw [if_neg h, List.filter_cons_of_neg (by simpa using h)]; rfl
theorem apartF_length (B M k : Nat) : (apartF B M k).length ≤ k := by
  unfold apartF; rw [List.length_map]; exact Nat.le_trans (List.length_filter_le _ _) (by simp)
theorem mem_apartF {B M k : Nat} {z : Int} : z ∈ apartF B M k ↔ ∃ a : Nat, z = a ∧ a < k ∧ Bit B a ∧ ¬ Bit M a := by
  unfold apartF Bit
  rw [List.mem_map]
  constructor
  · rintro ⟨a, ha, rfl⟩
    rw [List.mem_filter, List.mem_range] at ha
    exact ⟨a, rfl, ha.1, by simpa using ha.2⟩
  · rintro ⟨a, rfl, h1, h2⟩
    exact ⟨a, List.mem_filter.2 ⟨List.mem_range.2 h1, by simpa using h2⟩, rfl⟩
end Go.Proofs.YtnjikhhegebkiaaDoor
