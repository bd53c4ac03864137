/-
  Plain law: faces, vertices, edges and parts: handles are never fewer than none, and what is halved is even. Written by an AI agent.
-/
import Derived.Test.YthdifhfmgmmljaaRight
import Derived.Test.YthdifhfmgmmljaaPerm
import Derived.Test.YthdifhfmgmmljaaPartLaw
namespace Go.Proofs.Ythdifhfmgmmljaa
open Go.RowKit

/-- the half edge behind one along its face -/
def nxf (es : List (Int × Int)) (rs : List (List Int)) (h : Nat) : Nat := ((nextsL es.length rs).getD h 0).toNat
/-- .. in its list -/
def sig (es : List (Int × Int)) (rs : List (List Int)) (h : Nat) : Nat := nxf es rs (ot h)
def vtx (es : List (Int × Int)) (h : Nat) : Nat := (atE es h).toNat
/-- faces where only the edges below k hold their halves together -/
def phik (es : List (Int × Int)) (rs : List (List Int)) (k h : Nat) : Nat := sig es rs (if h < 2 * k then ot h else h)
def Q (es : List (Int × Int)) (k : Nat) : Nat → Nat → Prop := Star (Edge1 true (fun i => decide (i < k)) es)
def iso (rs : List (List Int)) : Nat := (List.range rs.length).countP fun x => decide ((rs.getD x []).length = 0)

section
variable {n : Int} {es : List (Int × Int)} {rs : List (List Int)}
theorem RightP.pos (h : RightP n es rs) {d : Nat} (hd : d < 2 * es.length) : ∃ x i, ∃ hx : x < rs.length, ∃ hi : i < rs[x].length, rs[x][i] = (d : Int) ∧ vtx es d = x := by
  obtain ⟨x, hx, hm⟩ := h.cov d hd
  obtain ⟨i, hi, he⟩ := List.mem_iff_getElem.1 hm
  refine ⟨x, i, hx, hi, he, ?_⟩
  have := (h.at_ x hx _ hm).2.2
  unfold vtx
  rw [show ((d : Nat) : Int).toNat = d from rfl] at this
  rw [this]; rfl
theorem RightP.nat (h : RightP n es rs) {x i : Nat} (hx : x < rs.length) (hi : i < rs[x].length) : ∃ d : Nat, rs[x][i] = (d : Int) ∧ d < 2 * es.length ∧ vtx es d = x := by
  obtain ⟨a1, a2, a3⟩ := h.at_ x hx _ (List.getElem_mem hi)
  refine ⟨rs[x][i].toNat, by omega, by omega, ?_⟩
  unfold vtx
  rw [a3]; rfl
theorem sig_at (h : RightP n es rs) {x i : Nat} (hx : x < rs.length) (hi : i < rs[x].length) {d : Nat} (hd : rs[x][i] = (d : Int)) : sig es rs d = (rs[x][(i + 1) % rs[x].length]'(Nat.mod_lt _ (by omega))).toNat := by
  have := nexts_at h hx hi
  rw [hd] at this
  unfold sig nxf
  rw [show ((d : Nat) : Int).toNat = d from rfl] at this
  rw [this]
theorem sig_pos (h : RightP n es rs) {x i : Nat} (hx : x < rs.length) (hi : i < rs[x].length) {d : Nat} (hd : rs[x][i] = (d : Int)) : rs[x][(i + 1) % rs[x].length]'(Nat.mod_lt _ (by omega)) = (sig es rs d : Nat) := by
  obtain ⟨e, he, _, _⟩ := h.nat hx (i := (i + 1) % rs[x].length) (Nat.mod_lt _ (by omega))
  rw [sig_at h hx hi hd, he]; rfl
theorem vtx_sig (h : RightP n es rs) {d : Nat} (hd : d < 2 * es.length) : sig es rs d < 2 * es.length ∧ vtx es (sig es rs d) = vtx es d := by
  obtain ⟨x, i, hx, hi, he, hv⟩ := h.pos hd
  obtain ⟨e, h1, h2, h3⟩ := h.nat hx (i := (i + 1) % rs[x].length) (Nat.mod_lt _ (by omega))
  have := sig_pos h hx hi he
  rw [h1] at this
  have : e = sig es rs d := by omega
  rw [← this]
  exact ⟨h2, h3.trans hv.symm⟩
theorem mod_succ_inj {a b n : Nat} (ha : a < n) (hb : b < n) (h : (a + 1) % n = (b + 1) % n) : a = b := by
  by_cases h1 : a + 1 = n
  · by_cases h2 : b + 1 = n
    · omega
    · rw [h1, Nat.mod_self, Nat.mod_eq_of_lt (by omega)] at h; omega
  · by_cases h2 : b + 1 = n
    · rw [h2, Nat.mod_self, Nat.mod_eq_of_lt (by omega)] at h; omega
    · rw [Nat.mod_eq_of_lt (by omega), Nat.mod_eq_of_lt (by omega)] at h; omega
theorem sig_perm (h : RightP n es rs) : Perm (2 * es.length) (sig es rs) := by
  refine ⟨fun d hd => (vtx_sig h hd).1, fun d e hd he hde => ?_⟩
  obtain ⟨x, i, hx, hi, h1, hv⟩ := h.pos hd
  obtain ⟨y, j, hy, hj, h2, hw⟩ := h.pos he
  have hxy : x = y := by
    rw [← hv, ← hw, ← (vtx_sig h hd).2, ← (vtx_sig h he).2, hde]
  subst hxy
  have e1 := sig_pos h hx hi h1
  have e2 := sig_pos h hx hj h2
  rw [hde, ← e2] at e1
  have := mod_succ_inj hi hj (nodup_inj (h.nd x hx) _ _ e1)
  subst this
  rw [h1] at h2
  omega
theorem phik_zero : phik es rs 0 = sig es rs := by funext d; simp [phik]
theorem ot_even (k : Nat) : ot (2 * k) = 2 * k + 1 := by unfold ot; rw [if_pos (by omega)]
theorem ot_odd (k : Nat) : ot (2 * k + 1) = 2 * k := by unfold ot; rw [if_neg (by omega)]; omega
theorem phik_succ (k : Nat) : phik es rs (k + 1) = fun z => phik es rs k (swp (2 * k) (2 * k + 1) z) := by
  funext z
  unfold phik swp
  by_cases h1 : z = 2 * k
  · subst h1
    rw [if_pos (by omega), if_pos rfl, if_neg (by omega), ot_even]
  · by_cases h2 : z = 2 * k + 1
    · subst h2
      rw [if_pos (by omega), if_neg h1, if_pos rfl, if_neg (by omega), ot_odd]
    · rw [if_neg h1, if_neg h2]
      by_cases h3 : z < 2 * k
      · rw [if_pos h3, if_pos (by omega)]
      · rw [if_neg h3, if_neg (by omega)]
theorem phik_perm (h : RightP n es rs) : ∀ k, k ≤ es.length → Perm (2 * es.length) (phik es rs k)
  | 0, _ => by rw [phik_zero]; exact sig_perm h
  | k + 1, hk => by rw [phik_succ]; exact (phik_perm h k (by omega)).swp (by omega) (by omega)
theorem phik_all {d : Nat} (hd : d < 2 * es.length) : phik es rs es.length d = nxf es rs d := by
  unfold phik sig
  rw [if_pos hd, ot_ot]
theorem at_even {k : Nat} (hk : k < es.length) : atE es (2 * k) = es[k].1 := by
  unfold atE
  rw [if_pos (by omega), show 2 * k / 2 = k by omega, List.getD_eq_getElem?_getD, List.getElem?_eq_getElem hk]; rfl
theorem at_odd {k : Nat} (hk : k < es.length) : atE es (2 * k + 1) = es[k].2 := by
  unfold atE
  rw [if_neg (by omega), show (2 * k + 1) / 2 = k by omega, List.getD_eq_getElem?_getD, List.getElem?_eq_getElem hk]; rfl
theorem vtx_edge {N : Nat} (hin : InN N es) {k : Nat} (hk : k < es.length) : es[k] = ((vtx es (2 * k) : Int), (vtx es (2 * k + 1) : Int)) ∧ vtx es (2 * k) < N ∧ vtx es (2 * k + 1) < N := by
  obtain ⟨t, u, e, ht, hu⟩ := hin.at_ hk
  unfold vtx
  rw [at_even hk, at_odd hk, e]
  exact ⟨rfl, ht, hu⟩
theorem vtx_lt {N : Nat} (hin : InN N es) {d : Nat} (hd : d < 2 * es.length) : vtx es d < N := by
  obtain ⟨_, h1, h2⟩ := vtx_edge hin (k := d / 2) (by omega)
  rcases Nat.mod_two_eq_zero_or_one d with h | h
  · rw [show d = 2 * (d / 2) by omega]; exact h1
  · rw [show d = 2 * (d / 2) + 1 by omega]; exact h2
theorem Q.symm {k x y : Nat} (h : Q es k x y) : Q es k y x := Star.sym (fun _ _ e => e.symm) h
theorem Q.mono {k x y : Nat} (h : Q es k x y) : Q es (k + 1) x y := Star.mono (fun _ _ ⟨i, hi, hc, r⟩ => ⟨i, hi, by simp at hc ⊢; omega, r⟩) h
theorem Q.lt {N : Nat} (hin : InN N es) {k x y : Nat} (hx : x < N) (h : Q es k x y) : y < N := Star.inv (P := fun z => z < N) (fun _ _ e _ => (e.lt hin).2) h hx
theorem Q_equ (N k : Nat) : Equ N (Q es k) := ⟨fun x _ => .refl x, fun _ _ _ _ h => h.symm, fun _ _ _ _ _ _ h g => h.trans g⟩
theorem Q_zero {x y : Nat} : Q es 0 x y ↔ x = y := by
  constructor
  · intro h
    cases h with
    | refl => rfl
    | head e _ => obtain ⟨i, _, hc, _⟩ := e; simp at hc
  · rintro rfl; exact .refl _
theorem Q_edge {N : Nat} (hin : InN N es) {k j : Nat} (hj : j < es.length) (hjk : j < k) : Q es k (vtx es (2 * j)) (vtx es (2 * j + 1)) :=
  .one ⟨j, hj, by simpa using hjk, .inl (vtx_edge hin hj).1⟩
theorem Q_succ {N : Nat} (hin : InN N es) {k : Nat} (hk : k < es.length) {x y : Nat} : Q es (k + 1) x y ↔ Merge (Q es k) (vtx es (2 * k)) (vtx es (2 * k + 1)) x y := by
  obtain ⟨he, _, _⟩ := vtx_edge hin hk
  generalize ht : vtx es (2 * k) = t at *
  generalize hu : vtx es (2 * k + 1) = u at *
  constructor
  · intro h
    induction h with
    | refl x => exact .inl (.refl x)
    | @head x y z e _ ih =>
      obtain ⟨i, hi, hc, r⟩ := e
      have hc : i < k + 1 := by simpa using hc
      by_cases hik : i = k
      · subst hik
        have hxy : (x = t ∧ y = u) ∨ (x = u ∧ y = t) := by
          rw [he] at r
          rcases r with r | ⟨_, r⟩ <;> simp only [Prod.mk.injEq] at r
          · exact .inl ⟨by omega, by omega⟩
          · exact .inr ⟨by omega, by omega⟩
        rcases hxy with ⟨rfl, rfl⟩ | ⟨rfl, rfl⟩
        · rcases ih with h1 | ⟨h1, h2⟩ | ⟨h1, h2⟩
          · exact .inr (.inl ⟨.refl _, h1⟩)
          · exact .inr (.inl ⟨.refl _, h2⟩)
          · exact .inl h2
        · rcases ih with h1 | ⟨h1, h2⟩ | ⟨h1, h2⟩
          · exact .inr (.inr ⟨.refl _, h1⟩)
          · exact .inl h2
          · exact .inr (.inr ⟨.refl _, h2⟩)
      · have hq : Q es k x y := .one ⟨i, hi, by simp; omega, r⟩
        rcases ih with h1 | ⟨h1, h2⟩ | ⟨h1, h2⟩
        · exact .inl (hq.trans h1)
        · exact .inr (.inl ⟨hq.trans h1, h2⟩)
        · exact .inr (.inr ⟨hq.trans h1, h2⟩)
  · have htu : Q es (k + 1) t u := by rw [← ht, ← hu]; exact Q_edge hin hk (by omega)
    rintro (h | ⟨h1, h2⟩ | ⟨h1, h2⟩)
    · exact h.mono
    · exact (h1.mono.trans htu).trans h2.mono
    · exact (h1.mono.trans htu.symm).trans h2.mono
theorem orb_Q (h : RightP n es rs) {N : Nat} (hin : InN N es) {k : Nat} (hk : k ≤ es.length) {x y : Nat} (hx : x < 2 * es.length) (o : Orb (phik es rs k) x y) : Q es k (vtx es x) (vtx es y) := by
  obtain ⟨i, rfl⟩ := o
  induction i generalizing x with
  | zero => exact .refl _
  | succ i ih =>
    have hlt := (phik_perm h k hk).lt x hx
    refine Star.trans ?_ (ih hlt)
    unfold phik
    split
    · rename_i h1
      rw [(vtx_sig h (ot_lt hx)).2]
      have hj : x / 2 < es.length := by omega
      have hq := Q_edge (k := k) hin hj (by omega)
      rcases Nat.mod_two_eq_zero_or_one x with h2 | h2
      · have e1 : x = 2 * (x / 2) := by omega
        rw [show ot x = 2 * (x / 2) + 1 by unfold ot; rw [if_pos h2]; omega]
        have e2 : vtx es x = vtx es (2 * (x / 2)) := congrArg _ e1
        rw [e2]
        exact hq
      · have e1 : x = 2 * (x / 2) + 1 := by omega
        rw [show ot x = 2 * (x / 2) by unfold ot; rw [if_neg (by omega)]; omega]
        have e2 : vtx es x = vtx es (2 * (x / 2) + 1) := congrArg _ e1
        rw [e2]
        exact hq.symm
    · rw [(vtx_sig h hx).2]
      exact .refl _

/-- where classes are told by a number -/
theorem cls_map {v : Nat → Nat} {M : Nat} : ∀ N, (∀ h, h < N → v h < M) → cls (fun x y => v x = v y) N = (List.range M).countP (fun x => tst (∃ h, h < N ∧ v h = x))
  | 0, _ => by
    unfold cls
    rw [List.range_zero, List.countP_nil, eq_comm, List.countP_eq_zero]
    intro x _ h
    obtain ⟨h, hh, _⟩ := tst_iff.1 h
    omega
  | N + 1, hv => by
    have ih := cls_map N (fun h hh => hv h (by omega))
    unfold cls at ih ⊢
    rw [List.range_succ, List.countP_append, ih]
    simp only [List.countP_cons, List.countP_nil, Nat.zero_add]
    by_cases hN : ∃ k, k < N ∧ v k = v N
    · rw [if_neg (by
        rw [tst_iff]
        intro g
        obtain ⟨k, hk, e⟩ := hN
        exact g k hk e), Nat.add_zero]
      apply List.countP_congr
      intro x _
      rw [tst_iff, tst_iff]
      constructor
      · rintro ⟨h, hh, e⟩; exact ⟨h, by omega, e⟩
      · rintro ⟨h, hh, e⟩
        by_cases hhN : h = N
        · obtain ⟨k, hk, e2⟩ := hN
          exact ⟨k, hk, by rw [e2, ← hhN, e]⟩
        · exact ⟨h, by omega, e⟩
    · rw [if_pos (by
        rw [tst_iff]
        intro k hk e
        exact hN ⟨k, hk, e⟩)]
      have := countP_less (p := fun x => tst (∃ h, h < N + 1 ∧ v h = x)) (q := fun x => tst (∃ h, h < N + 1 ∧ v h = x) && !decide (x = v N)) (m := v N) (by rw [tst_iff]; exact ⟨N, by omega, rfl⟩) (fun _ => rfl) M
      rw [this, if_pos (hv N (by omega))]
      congr 1
      apply List.countP_congr
      intro x _
      rw [Bool.and_eq_true, tst_iff, tst_iff, Bool.not_eq_true', decide_eq_false_iff_not]
      constructor
      · rintro ⟨h, hh, e⟩
        exact ⟨⟨h, by omega, e⟩, fun e2 => hN ⟨h, hh, by rw [e, e2]⟩⟩
      · rintro ⟨⟨h, hh, e⟩, hne⟩
        refine ⟨h, ?_, e⟩
        have : h ≠ N := fun e2 => hne (by rw [← e, e2])
        omega
theorem iter_sig (h : RightP n es rs) {x i : Nat} (hx : x < rs.length) (hi : i < rs[x].length) {d : Nat} (hd : rs[x][i] = (d : Int)) : ∀ t, rs[x][(i + t) % rs[x].length]'(Nat.mod_lt _ (by omega)) = (iter (sig es rs) t d : Nat)
  | 0 => by
    have : (i + 0) % rs[x].length = i := Nat.mod_eq_of_lt hi
    simp only [this]
    exact hd
  | t + 1 => by
    have := sig_pos h hx (Nat.mod_lt (i + t) (by omega)) (iter_sig h hx hi hd t)
    rw [iter_succ, ← this]
    congr 1
    rw [← Nat.add_assoc, Nat.mod_add_mod]
theorem orb_sig (h : RightP n es rs) {a b : Nat} (ha : a < 2 * es.length) (hb : b < 2 * es.length) : Orb (sig es rs) a b ↔ vtx es a = vtx es b := by
  constructor
  · rintro ⟨i, rfl⟩
    clear hb
    induction i generalizing a with
    | zero => rfl
    | succ i ih =>
      obtain ⟨h1, h2⟩ := vtx_sig h ha
      exact h2.symm.trans (ih h1)
  · intro e
    obtain ⟨x, i, hx, hi, h1, hv⟩ := h.pos ha
    obtain ⟨y, j, hy, hj, h2, hw⟩ := h.pos hb
    have hxy : x = y := by rw [← hv, ← hw, e]
    subst hxy
    refine ⟨j + rs[x].length - i, ?_⟩
    have := iter_sig h hx hi h1 (j + rs[x].length - i)
    have e1 : (i + (j + rs[x].length - i)) % rs[x].length = j := by
      rw [show i + (j + rs[x].length - i) = j + rs[x].length by omega, Nat.add_mod_right, Nat.mod_eq_of_lt hj]
    simp only [e1] at this
    rw [h2] at this
    omega
theorem cls_sig (h : RightP n es rs) (hin : InN rs.length es) : cls (Orb (sig es rs)) (2 * es.length) + iso rs = rs.length := by
  rw [cls_congr (S := fun x y => vtx es x = vtx es y) (fun x y hx hy => orb_sig h hx hy), cls_map (M := rs.length) _ (fun d hd => vtx_lt hin hd)]
  have e : (List.range rs.length).countP (fun x => tst (∃ h, h < 2 * es.length ∧ vtx es h = x)) = (List.range rs.length).countP (fun a => decide ¬(decide ((rs.getD a []).length = 0)) = true) := by
    apply List.countP_congr
    intro x hx
    have hx := List.mem_range.1 hx
    have e1 : rs.getD x [] = rs[x] := by rw [List.getD_eq_getElem?_getD, List.getElem?_eq_getElem hx]; rfl
    rw [e1, tst_iff, decide_eq_true_eq, decide_eq_true_eq]
    constructor
    · rintro ⟨d, hd, e2⟩
      obtain ⟨y, i, hy, hi, _, hv⟩ := h.pos hd
      have : y = x := by rw [← hv, e2]
      subst this
      omega
    · intro hne
      obtain ⟨d, _, hd, hv⟩ := h.nat hx (i := 0) (by omega)
      exact ⟨d, hd, hv⟩
  have e2 := List.length_eq_countP_add_countP (fun x => decide ((rs.getD x []).length = 0)) (l := List.range rs.length)
  rw [List.length_range] at e2
  unfold iso
  rw [e]
  omega
/-- EULER -/
theorem euler (h : RightP n es rs) (hin : InN rs.length es) : ∀ k, k ≤ es.length → ∃ g : Nat, 2 * cls (Q es k) rs.length + k = rs.length + iso rs + cls (Orb (phik es rs k)) (2 * es.length) + 2 * g
  | 0, _ => by
    refine ⟨0, ?_⟩
    have h1 : cls (Q es 0) rs.length = rs.length := by
      unfold cls
      have : (List.range rs.length).countP (fun h => tst (∀ k, k < h → ¬ Q es 0 k h)) = (List.range rs.length).length := by
        rw [List.countP_eq_length]
        intro x _
        rw [tst_iff]
        intro k hk hq
        rw [Q_zero] at hq
        omega
      rw [this, List.length_range]
    have h2 := cls_sig h hin
    rw [phik_zero]
    omega
  | k + 1, hk => by
    obtain ⟨g, hg⟩ := euler h hin k (by omega)
    have hP := phik_perm h k (by omega)
    have hkl : k < es.length := by omega
    obtain ⟨_, ht, hu⟩ := vtx_edge hin hkl
    have hQ : cls (Q es (k + 1)) rs.length = cls (Merge (Q es k) (vtx es (2 * k)) (vtx es (2 * k + 1))) rs.length := cls_congr fun x y _ _ => Q_succ hin hkl
    have h2a : 2 * k < 2 * es.length := by omega
    have h2b : 2 * k + 1 < 2 * es.length := by omega
    by_cases ho : Orb (phik es rs k) (2 * k) (2 * k + 1)
    · have e1 := cls_joined hP h2a h2b (by omega) ho
      rw [← phik_succ] at e1
      have hq := orb_Q h hin (by omega) h2a ho
      rw [cls_same (Q_equ _ k) ht hu hq] at hQ
      exact ⟨g, by omega⟩
    · have e1 := cls_apart hP h2a h2b ho
      rw [← phik_succ] at e1
      by_cases hq : Q es k (vtx es (2 * k)) (vtx es (2 * k + 1))
      · rw [cls_same (Q_equ _ k) ht hu hq] at hQ
        exact ⟨g + 1, by omega⟩
      · have := cls_merge (Q_equ rs.length k) ht hu hq
        exact ⟨g, by omega⟩
end
end Go.Proofs.Ythdifhfmgmmljaa
