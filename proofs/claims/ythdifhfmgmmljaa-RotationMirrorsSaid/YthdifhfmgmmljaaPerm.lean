/-
  Plain laws of permutations of the numbers below N: orbits, how many, and what a change of places does to their number. Written by an AI agent.
-/
namespace Go.Proofs.Ythdifhfmgmmljaa

/-- f, i times -/
def iter (f : Nat → Nat) : Nat → Nat → Nat
  | 0, x => x
  | i + 1, x => iter f i (f x)
theorem iter_add (f : Nat → Nat) (i j x : Nat) : iter f (i + j) x = iter f j (iter f i x) := by
  induction i generalizing x with
  | zero => rw [Nat.zero_add]; rfl
  | succ i ih => rw [Nat.add_right_comm]; exact ih (f x)
theorem iter_succ (f : Nat → Nat) (i x : Nat) : iter f (i + 1) x = f (iter f i x) := by rw [iter_add f i 1 x]; rfl

/-- a permutation of the numbers below N -/
structure Perm (N : Nat) (f : Nat → Nat) : Prop where
  lt : ∀ x, x < N → f x < N
  inj : ∀ x y, x < N → y < N → f x = f y → x = y
section
variable {N : Nat} {f : Nat → Nat}
theorem Perm.iter_lt (h : Perm N f) (i : Nat) {x : Nat} (hx : x < N) : iter f i x < N := by
  induction i generalizing x with
  | zero => exact hx
  | succ i ih => exact ih (h.lt x hx)
theorem Perm.iter_inj (h : Perm N f) (i : Nat) {x y : Nat} (hx : x < N) (hy : y < N) (e : iter f i x = iter f i y) : x = y := by
  induction i generalizing x y with
  | zero => exact e
  | succ i ih => exact h.inj x y hx hy (ih (h.lt x hx) (h.lt y hy) e)
theorem Perm.period (h : Perm N f) {x : Nat} (hx : x < N) : ∃ p, 0 < p ∧ p ≤ N ∧ iter f p x = x := by
  apply Classical.byContradiction
  intro hno
  have hne : ∀ p, 0 < p → p ≤ N → iter f p x ≠ x := fun p h1 h2 h3 => hno ⟨p, h1, h2, h3⟩
  have hnd : ((List.range (N + 1)).map fun i => iter f i x).Nodup := by
    rw [List.nodup_iff_pairwise_ne, List.pairwise_map]
    refine List.Pairwise.imp_of_mem ?_ (List.pairwise_lt_range (n := N + 1))
    intro i j hi hj hij e
    have hj := List.mem_range.1 hj
    have e2 : iter f i x = iter f i (iter f (j - i) x) := by
      rw [← iter_add f (j - i) i x, show j - i + i = j by omega]; exact e
    exact hne (j - i) (by omega) (by omega) (h.iter_inj i hx (h.iter_lt _ hx) e2).symm
  have hsub : ((List.range (N + 1)).map fun i => iter f i x) ⊆ List.range N := by
    intro y hy
    obtain ⟨i, _, rfl⟩ := List.mem_map.1 hy
    exact List.mem_range.2 (h.iter_lt i hx)
  have := List.Nodup.length_le_of_subset hnd hsub
  simp at this
  omega
/-- y lies on the way from x -/
def Orb (f : Nat → Nat) (x y : Nat) : Prop := ∃ i, iter f i x = y
theorem Orb.refl (f : Nat → Nat) (x : Nat) : Orb f x x := ⟨0, rfl⟩
theorem Orb.trans {x y z : Nat} (h : Orb f x y) (k : Orb f y z) : Orb f x z := by
  obtain ⟨i, rfl⟩ := h
  obtain ⟨j, rfl⟩ := k
  exact ⟨i + j, iter_add f i j x⟩
theorem Orb.step (f : Nat → Nat) (x : Nat) : Orb f x (f x) := ⟨1, rfl⟩
theorem Orb.lt (h : Perm N f) {x y : Nat} (hx : x < N) (o : Orb f x y) : y < N := by
  obtain ⟨i, rfl⟩ := o; exact h.iter_lt i hx
theorem iter_mul {p x : Nat} (hp : iter f p x = x) (k : Nat) : iter f (p * k) x = x := by
  induction k with
  | zero => rfl
  | succ k ih => rw [Nat.mul_succ, iter_add, ih, hp]
theorem Orb.symm (h : Perm N f) {x y : Nat} (hx : x < N) (o : Orb f x y) : Orb f y x := by
  obtain ⟨i, rfl⟩ := o
  obtain ⟨p, hp, _, hpx⟩ := h.period hx
  refine ⟨p * i - i, ?_⟩
  have : i ≤ p * i := Nat.le_mul_of_pos_left i hp
  rw [← iter_add, show i + (p * i - i) = p * i by omega, iter_mul hpx]
theorem Orb.induct {R : Nat → Nat → Prop} (h0 : ∀ x, R x x) (ht : ∀ x y z, R x y → R y z → R x z) (hs : ∀ x, R x (f x)) {x y : Nat} (o : Orb f x y) : R x y := by
  obtain ⟨i, rfl⟩ := o
  induction i generalizing x with
  | zero => exact h0 x
  | succ i ih => exact ht _ _ _ (hs x) ih
end

/-- is it so? -/
noncomputable def tst (p : Prop) : Bool := @decide p (Classical.propDecidable p)
theorem tst_iff {p : Prop} : tst p = true ↔ p := by unfold tst; exact @decide_eq_true_iff p (Classical.propDecidable p)
theorem tst_not {p : Prop} : tst p = false ↔ ¬ p := by rw [← Bool.not_eq_true, tst_iff]
/-- how many classes a relation has among the numbers below N: those that no less one is related to -/
noncomputable def cls (R : Nat → Nat → Prop) (N : Nat) : Nat := (List.range N).countP fun h => tst (∀ k, k < h → ¬ R k h)
theorem countP_less {p q : Nat → Bool} {m : Nat} (hm : p m = true) (hq : ∀ h, q h = (p h && !decide (h = m))) : ∀ N, (List.range N).countP p = (List.range N).countP q + if m < N then 1 else 0
  | 0 => by simp
  | N + 1 => by
    rw [List.range_succ, List.countP_append, List.countP_append, countP_less hm hq N]
    simp only [List.countP_cons, List.countP_nil, hq N]
    by_cases hN : N = m
    · subst hN
      simp [hm]
    · rcases Nat.lt_or_gt_of_ne hN with h | h
      · simp [hN, show ¬ m < N by omega, show ¬ m < N + 1 by omega]
      · simp [hN, h, show m < N + 1 by omega]; omega
theorem cls_congr {R S : Nat → Nat → Prop} {N : Nat} (h : ∀ x y, x < N → y < N → (R x y ↔ S x y)) : cls R N = cls S N := by
  unfold cls
  apply List.countP_congr
  intro x hx
  have hx := List.mem_range.1 hx
  simp only [tst_iff]
  exact ⟨fun g k hk hS => g k hk ((h k x (by omega) hx).2 hS), fun g k hk hR => g k hk ((h k x (by omega) hx).1 hR)⟩
/-- an equivalence among the numbers below N -/
structure Equ (N : Nat) (R : Nat → Nat → Prop) : Prop where
  refl : ∀ x, x < N → R x x
  symm : ∀ x y, x < N → y < N → R x y → R y x
  trans : ∀ x y z, x < N → y < N → z < N → R x y → R y z → R x z
theorem least_of {P : Nat → Prop} {a : Nat} (h : P a) : ∃ m, m ≤ a ∧ P m ∧ ∀ k, k < m → ¬ P k := by
  induction a using Nat.strongRecOn with
  | _ a ih =>
    by_cases hk : ∃ k, k < a ∧ P k
    · obtain ⟨k, hka, hk⟩ := hk
      obtain ⟨m, h1, h2, h3⟩ := ih k hka hk
      exact ⟨m, by omega, h2, h3⟩
    · exact ⟨a, Nat.le_refl _, h, fun k hka hP => hk ⟨k, hka, hP⟩⟩
/-- the classes of a and b made one -/
def Merge (R : Nat → Nat → Prop) (a b x y : Nat) : Prop := R x y ∨ (R x a ∧ R b y) ∨ (R x b ∧ R a y)
theorem cls_merge1 {N : Nat} {R : Nat → Nat → Prop} (hR : Equ N R) {a b ma mb : Nat} (ha : a < N) (hb : b < N) (hma : ma ≤ a) (hmb : mb ≤ b) (ra : R ma a) (rb : R mb b) (la : ∀ k, k < ma → ¬ R k a) (lb : ∀ k, k < mb → ¬ R k b) (hlt : ma < mb) :
    cls R N = cls (Merge R a b) N + 1 := by
  have hmbN : mb < N := by omega
  have hmaN : ma < N := by omega
  have key : ∀ h, h < N → ((∀ k, k < h → ¬ Merge R a b k h) ↔ (∀ k, k < h → ¬ R k h) ∧ h ≠ mb) := by
    intro h hh
    constructor
    · intro g
      refine ⟨fun k hk hr => g k hk (.inl hr), fun e => ?_⟩
      subst e
      exact g ma hlt (.inr (.inl ⟨ra, hR.symm _ _ hmbN hb rb⟩))
    · rintro ⟨g, hne⟩ k hk hM
      have hkN : k < N := by omega
      rcases hM with h1 | ⟨h1, h2⟩ | ⟨h1, h2⟩
      · exact g k hk h1
      · -- h in b's class, least of it: it is mb
        have hhb : R h b := hR.symm _ _ hb hh h2
        rcases Nat.lt_trichotomy h mb with h3 | h3 | h3
        · exact lb h h3 hhb
        · exact hne h3
        · exact g mb h3 (hR.trans _ _ _ hmbN hb hh rb h2)
      · -- h in a's class: it is ma; k in b's class and less
        have hha : R h a := hR.symm _ _ ha hh h2
        rcases Nat.lt_trichotomy h ma with h3 | h3 | h3
        · exact la h h3 hha
        · subst h3
          exact lb k (by omega) h1
        · exact g ma h3 (hR.trans _ _ _ hmaN ha hh ra h2)
  have e : cls (Merge R a b) N = (List.range N).countP fun h => tst (∀ k, k < h → ¬ R k h) && !decide (h = mb) := by
    unfold cls
    apply List.countP_congr
    intro x hx
    rw [tst_iff, key x (List.mem_range.1 hx), Bool.and_eq_true, tst_iff]
    simp
  rw [e]
  unfold cls
  have h := countP_less (p := fun h => tst (∀ k, k < h → ¬ R k h)) (q := fun h => tst (∀ k, k < h → ¬ R k h) && !decide (h = mb)) (m := mb) (by
    rw [tst_iff]
    intro k hk hr
    exact lb k hk (hR.trans _ _ _ (by omega) hmbN hb hr rb)) (fun h => rfl) N
  rw [h, if_pos hmbN]
theorem Merge.comm {R : Nat → Nat → Prop} {a b x y : Nat} : Merge R a b x y ↔ Merge R b a x y := by
  unfold Merge
  constructor
  · rintro (h | h | h)
    · exact .inl h
    · exact .inr (.inr h)
    · exact .inr (.inl h)
  · rintro (h | h | h)
    · exact .inl h
    · exact .inr (.inr h)
    · exact .inr (.inl h)
theorem cls_merge {N : Nat} {R : Nat → Nat → Prop} (hR : Equ N R) {a b : Nat} (ha : a < N) (hb : b < N) (hab : ¬ R a b) : cls R N = cls (Merge R a b) N + 1 := by
  obtain ⟨ma, h1, ra, la⟩ := least_of (P := fun k => R k a) (hR.refl a ha)
  obtain ⟨mb, h2, rb, lb⟩ := least_of (P := fun k => R k b) (hR.refl b hb)
  rcases Nat.lt_trichotomy ma mb with h | h | h
  · exact cls_merge1 hR ha hb h1 h2 ra rb la lb h
  · subst h
    exact absurd (hR.trans _ _ _ ha (by omega) hb (hR.symm _ _ (by omega) ha ra) rb) hab
  · rw [cls_congr (S := Merge R b a) (fun x y _ _ => Merge.comm)]
    exact cls_merge1 hR hb ha h2 h1 rb ra lb la h
theorem cls_same {N : Nat} {R : Nat → Nat → Prop} (hR : Equ N R) {a b : Nat} (ha : a < N) (hb : b < N) (hab : R a b) : cls (Merge R a b) N = cls R N := by
  apply cls_congr
  intro x y hx hy
  constructor
  · rintro (h | ⟨h1, h2⟩ | ⟨h1, h2⟩)
    · exact h
    · exact hR.trans _ _ _ hx ha hy h1 (hR.trans _ _ _ ha hb hy hab h2)
    · exact hR.trans _ _ _ hx hb hy h1 (hR.trans _ _ _ hb ha hy (hR.symm _ _ ha hb hab) h2)
  · exact .inl

/-- a and b change places ahead of f -/
def swp (a b x : Nat) : Nat := if x = a then b else if x = b then a else x
theorem swp_lt {N a b x : Nat} (ha : a < N) (hb : b < N) (hx : x < N) : swp a b x < N := by
  unfold swp
  split
  · exact hb
  · split
    · exact ha
    · exact hx
theorem swp_swp (a b x : Nat) : swp a b (swp a b x) = x := by
  unfold swp
  by_cases h1 : x = a
  · subst h1; by_cases h2 : b = x <;> simp [h2]
  · by_cases h2 : x = b
    · subst h2; simp [h1]
    · simp [h1, h2]
theorem Perm.swp {N : Nat} {f : Nat → Nat} (h : Perm N f) {a b : Nat} (ha : a < N) (hb : b < N) : Perm N (fun x => f (swp a b x)) :=
  ⟨fun x hx => h.lt _ (swp_lt ha hb hx), fun x y hx hy e => by
    have := h.inj _ _ (swp_lt ha hb hx) (swp_lt ha hb hy) e
    have := congrArg (Go.Proofs.Ythdifhfmgmmljaa.swp a b) this
    rwa [swp_swp, swp_swp] at this⟩
theorem Perm.equ {N : Nat} {f : Nat → Nat} (h : Perm N f) : Equ N (Orb f) :=
  ⟨fun x _ => Orb.refl f x, fun _ _ hx _ o => Orb.symm h hx o, fun _ _ _ _ _ _ o p => o.trans p⟩

section
variable {N : Nat} {f : Nat → Nat} {a b : Nat}
/-- of two orbits one comes -/
theorem orb_merge (h : Perm N f) (ha : a < N) (hb : b < N) (hab : ¬ Orb f a b) {x y : Nat} (hx : x < N) (hy : y < N) : Orb (fun z => f (swp a b z)) x y ↔ Merge (Orb f) a b x y := by
  have hne : a ≠ b := fun e => hab (e ▸ Orb.refl f a)
  have hba : ¬ Orb f b a := fun o => hab (o.symm h hb)
  have ga : (fun z => f (swp a b z)) a = f b := by simp [swp]
  have gb : (fun z => f (swp a b z)) b = f a := by simp [swp, Ne.symm hne]
  have gx : ∀ z, z ≠ a → z ≠ b → (fun z => f (swp a b z)) z = f z := fun z h1 h2 => by simp [swp, h1, h2]
  generalize (fun z => f (swp a b z)) = g at *
  constructor
  · rintro ⟨i, rfl⟩
    clear hy
    induction i generalizing x with
    | zero => exact .inl (Orb.refl f x)
    | succ i ih =>
      have hgx : g x < N := by
        by_cases h1 : x = a
        · rw [h1, ga]; exact h.lt b hb
        · by_cases h2 : x = b
          · rw [h2, gb]; exact h.lt a ha
          · rw [gx x h1 h2]; exact h.lt x hx
      have hM := ih hgx
      show Merge (Orb f) a b x (iter g i (g x))
      by_cases h1 : x = a
      · subst h1
        rw [ga] at hM ⊢
        rcases hM with o | ⟨o1, o2⟩ | ⟨o1, o2⟩
        · exact .inr (.inl ⟨Orb.refl f x, (Orb.step f b).trans o⟩)
        · exact absurd ((Orb.step f b).trans o1) hba
        · exact .inl o2
      · by_cases h2 : x = b
        · subst h2
          rw [gb] at hM ⊢
          rcases hM with o | ⟨o1, o2⟩ | ⟨o1, o2⟩
          · exact .inr (.inr ⟨Orb.refl f x, (Orb.step f a).trans o⟩)
          · exact .inl o2
          · exact absurd ((Orb.step f a).trans o1) hab
        · rw [gx x h1 h2] at hM ⊢
          rcases hM with o | ⟨o1, o2⟩ | ⟨o1, o2⟩
          · exact .inl ((Orb.step f x).trans o)
          · exact .inr (.inl ⟨(Orb.step f x).trans o1, o2⟩)
          · exact .inr (.inr ⟨(Orb.step f x).trans o1, o2⟩)
  · -- along f towards c where the other one isn't met
    have toB : ∀ i z, iter f i z = b → Orb g z b := by
      intro i
      induction i with
      | zero => rintro z rfl; exact Orb.refl g _
      | succ i ih =>
        intro z hz
        by_cases h2 : z = b
        · subst h2; exact Orb.refl g _
        · have h1 : z ≠ a := fun e => hab (e ▸ ⟨i + 1, hz⟩)
          have := ih (f z) hz
          rw [← gx z h1 h2] at this
          exact (Orb.step g z).trans this
    have toA : ∀ i z, iter f i z = a → Orb g z a := by
      intro i
      induction i with
      | zero => rintro z rfl; exact Orb.refl g _
      | succ i ih =>
        intro z hz
        by_cases h1 : z = a
        · subst h1; exact Orb.refl g _
        · have h2 : z ≠ b := fun e => hba (e ▸ ⟨i + 1, hz⟩)
          have := ih (f z) hz
          rw [← gx z h1 h2] at this
          exact (Orb.step g z).trans this
    have oab : Orb g a b := by
      obtain ⟨i, hi⟩ := (Orb.step f b).symm h hb
      have := toB i (f b) hi
      rw [← ga] at this
      exact (Orb.step g a).trans this
    have oba : Orb g b a := by
      obtain ⟨i, hi⟩ := (Orb.step f a).symm h ha
      have := toA i (f a) hi
      rw [← gb] at this
      exact (Orb.step g b).trans this
    have all : ∀ z, Orb g z (f z) := fun z => by
      by_cases h1 : z = a
      · subst h1
        have := Orb.step g b
        rw [gb] at this
        exact oab.trans this
      · by_cases h2 : z = b
        · subst h2
          have := Orb.step g a
          rw [ga] at this
          exact oba.trans this
        · have := Orb.step g z
          rw [gx z h1 h2] at this
          exact this
    have up : ∀ {z v}, Orb f z v → Orb g z v := fun o => Orb.induct (R := Orb g) (fun x => Orb.refl g x) (fun _ _ _ p q => p.trans q) all o
    rintro (o | ⟨o1, o2⟩ | ⟨o1, o2⟩)
    · exact up o
    · exact (up o1).trans (oab.trans (up o2))
    · exact (up o1).trans (oba.trans (up o2))
/-- one orbit falls into two -/
theorem orb_split (h : Perm N f) (ha : a < N) (hb : b < N) (hne : a ≠ b) (hab : Orb f a b) : ¬ Orb (fun z => f (swp a b z)) a b := by
  have ga : (fun z => f (swp a b z)) a = f b := by simp [swp]
  have gx : ∀ z, z ≠ a → z ≠ b → (fun z => f (swp a b z)) z = f z := fun z h1 h2 => by simp [swp, h1, h2]
  generalize (fun z => f (swp a b z)) = g at *
  -- what comes to a without b
  have hS : ∀ i z, (∃ k, iter f k z = a ∧ ∀ j, j ≤ k → iter f j z ≠ b) → ∃ k, iter f k (iter g i z) = a ∧ ∀ j, j ≤ k → iter f j (iter g i z) ≠ b := by
    intro i
    induction i with
    | zero => exact fun z h => h
    | succ i ih =>
      rintro z ⟨k, hk, hj⟩
      refine ih (g z) ?_
      have h2 : z ≠ b := hj 0 (Nat.zero_le _)
      by_cases h1 : z = a
      · subst h1
        rw [ga]
        obtain ⟨k0, hk0⟩ : Orb f (f b) z := ((Orb.step f b).symm h hb).trans (hab.symm h ha)
        obtain ⟨m, _, hm, hl⟩ := least_of (P := fun k => iter f k (f b) = z) hk0
        refine ⟨m, hm, fun j hjm e => ?_⟩
        -- f^j (f b) = b: then m is not the least
        have hjlt : j < m := by
          rcases Nat.lt_or_ge j m with h3 | h3
          · exact h3
          · have : j = m := by omega
            subst this
            rw [hm] at e
            exact absurd e hne
        have e2 : iter f (j + 1) (f b) = f b := by rw [iter_succ, e]
        have : iter f (m - (j + 1)) (f b) = z := by
          rw [← hm]
          conv => rhs; rw [show m = (j + 1) + (m - (j + 1)) by omega, iter_add, e2]
        exact hl _ (by omega) this
      · rw [gx z h1 h2]
        obtain ⟨k, rfl⟩ : ∃ k', k = k' + 1 := by
          cases k with
          | zero => exact absurd hk h1
          | succ k => exact ⟨k, rfl⟩
        exact ⟨k, hk, fun j hjk => hj (j + 1) (by omega)⟩
  rintro ⟨i, hi⟩
  obtain ⟨k, _, hj⟩ := hS i a ⟨0, rfl, fun j hj => by
    have : j = 0 := by omega
    subst this; exact hne⟩
  exact hj 0 (Nat.zero_le _) hi
theorem swp_self (f : Nat → Nat) (a b : Nat) : (fun z => (fun z => f (swp a b z)) (swp a b z)) = f := by
  funext z; simp only [swp_swp]
/-- how many orbits there are where two change places -/
theorem cls_apart (h : Perm N f) (ha : a < N) (hb : b < N) (hab : ¬ Orb f a b) : cls (Orb f) N = cls (Orb (fun z => f (swp a b z))) N + 1 := by
  rw [cls_merge h.equ ha hb hab, cls_congr (fun x y hx hy => (orb_merge h ha hb hab hx hy).symm)]
theorem cls_joined (h : Perm N f) (ha : a < N) (hb : b < N) (hne : a ≠ b) (hab : Orb f a b) : cls (Orb (fun z => f (swp a b z))) N = cls (Orb f) N + 1 := by
  have := cls_apart (h.swp ha hb) ha hb (orb_split h ha hb hne hab)
  rw [swp_self] at this
  exact this
end
end Go.Proofs.Ythdifhfmgmmljaa
