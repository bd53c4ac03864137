/-
  poset.grow as a function: what it does to the pairing. Written by an AI agent.
-/
import Derived.Test.YtnjikhhegebkiaaDoorBits
namespace Go.Proofs.YtnjikhhegebkiaaDoor

structure St where
  nx : List Int
  pv : List Int
  s : Nat
/-- x is joined with y -/
def St.put (t : St) (x : Nat) (y : Int) : St := ⟨t.nx.set x y, t.pv.set y.toNat x, t.s⟩
def St.see (t : St) (y : Int) : St := ⟨t.nx, t.pv, t.s ||| ofSet [y]⟩
/-- the vertex that y is joined with, or -1 -/
def St.back (t : St) (y : Int) : Int := t.pv.getD y.toNat 0
/-- the ways on, one by one -/
def growL (rec : Nat → St → Bool × St) (x : Nat) : List Int → St → Bool × St
  | [], t => (false, t)
  | y :: r, t =>
    if setHas t.s y = true then growL rec x r t
    else if (t.see y).back y = -1 then (true, (t.see y).put x y)
    else if (rec ((t.see y).back y).toNat (t.see y)).1 = true then (true, (rec ((t.see y).back y).toNat (t.see y)).2.put x y)
    else growL rec x r (rec ((t.see y).back y).toNat (t.see y)).2
def growF (Ab : List Nat) : Nat → Nat → St → Bool × St
  | 0, _, t => (false, t)
  | f + 1, x, t => growL (growF Ab f) x (bitsL (Ab.getD x 0) 64) t
/-- how many numbers are not seen yet -/
def unseen (s : Nat) : Nat := (List.range 64).countP fun i => !s.testBit i
structure StOk (n : Nat) (t : St) : Prop where
  nx : t.nx.length = n
  pv : t.pv.length = n
  s : t.s < 18446744073709551616
  back : ∀ y, y < n → -1 ≤ t.pv.getD y 0 ∧ t.pv.getD y 0 < n
structure AbOk (n : Nat) (Ab : List Nat) : Prop where
  len : Ab.length = n
  lt : ∀ x, Ab.getD x 0 < 18446744073709551616
  bit : ∀ x y, (Ab.getD x 0).testBit y = true → y < n
theorem mem_bitsL {s j : Nat} {y : Int} : y ∈ bitsL s j ↔ ∃ k : Nat, y = k ∧ k < j ∧ s.testBit k = true := by
  unfold bitsL
  rw [List.mem_map]
  constructor
  · rintro ⟨k, hk, rfl⟩
    rw [List.mem_filter, List.mem_range] at hk
    exact ⟨k, rfl, hk⟩
  · rintro ⟨k, rfl, h1, h2⟩
    exact ⟨k, List.mem_filter.2 ⟨List.mem_range.2 h1, h2⟩, rfl⟩
theorem ofSet_one (y : Nat) (hy : y < 64) : ofSet [(y : Int)] = 1 <<< y := by
  unfold ofSet ofStep
  simp only [List.foldl_cons, List.foldl_nil]
  rw [if_pos (by omega)]
  simp
theorem one_bit (y i : Nat) : (1 <<< y).testBit i = decide (y = i) := by
  rw [Nat.one_shiftLeft, Nat.testBit_two_pow]
theorem see_bit (t : St) (y : Nat) (hy : y < 64) (i : Nat) : (t.see (y : Int)).s.testBit i = (t.s.testBit i || decide (y = i)) := by
  unfold St.see
  rw [ofSet_one y hy, Nat.testBit_or, one_bit]
theorem setHas_nat (s y : Nat) (hy : y < 64) : setHas s (y : Int) = s.testBit y := by
  have : (y : Int) < 64 := by omega
  unfold setHas
  simp [this]
theorem unseen_le {s s' : Nat} (h : ∀ i, i < 64 → s.testBit i = true → s'.testBit i = true) : unseen s' ≤ unseen s := by
  unfold unseen
  refine List.countP_mono_left fun i hi hb => ?_
  cases hs : s.testBit i with
  | false => rfl
  | true => rw [h i (List.mem_range.1 hi) hs] at hb; cases hb
theorem unseen_lt {s s' y : Nat} (hy : y < 64) (h : ∀ i, i < 64 → s.testBit i = true → s'.testBit i = true) (h0 : s.testBit y = false) (h1 : s'.testBit y = true) : unseen s' < unseen s := by
  unfold unseen
  have key : ∀ l : List Nat, (∀ i ∈ l, i < 64) → l.countP (fun i => !s'.testBit i) ≤ l.countP (fun i => !s.testBit i) ∧ (y ∈ l → l.countP (fun i => !s'.testBit i) < l.countP (fun i => !s.testBit i)) := by
    intro l hl
    induction l with
    | nil => exact ⟨Nat.le_refl _, fun h => by cases h⟩
    | cons a r ih =>
      obtain ⟨h3, h4⟩ := ih fun i hi => hl i (by simp [hi])
      have ha := hl a (by simp)
      rw [List.countP_cons, List.countP_cons]
      refine ⟨?_, fun hm => ?_⟩
      · cases hs : s.testBit a with
        | false => cases s'.testBit a <;> simp <;> omega
        | true => rw [h a ha hs]; simpa using h3
      · rcases List.mem_cons.1 hm with rfl | hm
        · rw [h0, h1]; simp; omega
        · have := h4 hm
          cases hs : s.testBit a with
          | false => cases s'.testBit a <;> simp <;> omega
          | true => rw [h a ha hs]; simpa using this
  exact (key _ fun i hi => List.mem_range.1 hi).2 (List.mem_range.2 hy)
theorem see_lt {t : St} {y : Nat} (hy : y < 64) (h0 : t.s.testBit y = false) : unseen (t.see (y : Int)).s < unseen t.s :=
  unseen_lt hy (fun i _ h => by rw [see_bit t y hy, h]; rfl) h0 (by rw [see_bit t y hy]; simp)
theorem StOk.see {n : Nat} {t : St} (h : StOk n t) (y : Int) : StOk n (t.see y) := ⟨h.nx, h.pv, by unfold St.see; exact Nat.or_lt_two_pow (n := 64) h.s (ofSet_lt _), h.back⟩
theorem StOk.put {n : Nat} {t : St} (h : StOk n t) {x y : Nat} (hx : x < n) : StOk n (t.put x (y : Int)) := by
  refine ⟨by simp [St.put, h.nx], by simp [St.put, h.pv], h.s, fun z hz => ?_⟩
  unfold St.put
  simp only [Int.toNat_natCast]
  by_cases e : y = z
  · subst e
    rw [List.getD_eq_getElem?_getD, List.getElem?_set_self (by rw [h.pv]; exact hz)]
    simp only [Option.getD_some]
    omega
  · rw [List.getD_eq_getElem?_getD, List.getElem?_set_ne e, ← List.getD_eq_getElem?_getD]
    exact h.back z hz
/-- seen stays seen -/
def More (t t' : St) : Prop := ∀ i, t.s.testBit i = true → t'.s.testBit i = true
theorem growL_ok {n : Nat} {rec : Nat → St → Bool × St} (hr : ∀ x t, x < n → StOk n t → StOk n (rec x t).2 ∧ More t (rec x t).2) {x : Nat} (hx : x < n) (hn : n ≤ 64) : ∀ (l : List Int) (t : St), (∀ y ∈ l, ∃ k : Nat, y = k ∧ k < n) → StOk n t → StOk n (growL rec x l t).2 ∧ More t (growL rec x l t).2
  | [], t, _, h => ⟨h, fun _ h => h⟩
  | y :: r, t, hl, h => by
    obtain ⟨k, rfl, hk⟩ := hl y (by simp)
    have hl2 : ∀ y ∈ r, ∃ k : Nat, y = k ∧ k < n := fun y hy => hl y (by simp [hy])
    have hsee : More t (t.see (k : Int)) := fun i hi => by rw [see_bit t k (by omega), hi]; rfl
    unfold growL
    split
    · exact growL_ok hr hx hn r t hl2 h
    · split
      · exact ⟨(h.see _).put hx, hsee⟩
      · rename_i h1 h2
        have hb := (h.see (k : Int)).back k hk
        have e : (t.see (k : Int)).back (k : Int) = (t.see (k : Int)).pv.getD k 0 := by unfold St.back; simp
        rw [e] at h2 ⊢
        obtain ⟨h3, h4⟩ := hr ((t.see (k : Int)).pv.getD k 0).toNat (t.see (k : Int)) (by omega) (h.see _)
        split
        · exact ⟨h3.put hx, fun i hi => h4 i (hsee i hi)⟩
        · obtain ⟨h5, h6⟩ := growL_ok hr hx hn r _ hl2 h3
          exact ⟨h5, fun i hi => h6 i (h4 i (hsee i hi))⟩
theorem growF_ok {n : Nat} {Ab : List Nat} (hA : AbOk n Ab) (hn : n ≤ 64) : ∀ (f x : Nat) (t : St), x < n → StOk n t → StOk n (growF Ab f x t).2 ∧ More t (growF Ab f x t).2
  | 0, _, t, _, h => ⟨h, fun _ h => h⟩
  | f + 1, x, t, hx, h => growL_ok (fun x t hx h => growF_ok hA hn f x t hx h) hx hn _ t (fun y hy => by
      obtain ⟨k, rfl, _, hb⟩ := mem_bitsL.1 hy
      exact ⟨k, rfl, hA.bit x k hb⟩) h
end Go.Proofs.YtnjikhhegebkiaaDoor
