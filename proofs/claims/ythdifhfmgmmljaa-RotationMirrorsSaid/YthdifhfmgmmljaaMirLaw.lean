/-
  Plain law of mirrored rotations: as many faces, of as many half edges, and as many handles. Written by an AI agent.
-/
import Derived.Test.YthdifhfmgmmljaaSwapLaw
import Derived.Test.YthdifhfmgmmljaaGenus
import Derived.Test.YthdifhfmgmmljaaSameR
namespace Go.Proofs.Ythdifhfmgmmljaa
open Go.RowKit

section
variable {N : Nat} {f g α : Nat → Nat}
theorem conj_iter (hf : Perm N f) (H : ∀ x, x < N → g (α (f x)) = α x) : ∀ i x, x < N → iter g i (α (iter f i x)) = α x
  | 0, _, _ => rfl
  | i + 1, x, hx => by
    rw [iter_succ f i x]
    show iter g i (g (α (f (iter f i x)))) = α x
    rw [H _ (hf.iter_lt i hx)]
    exact conj_iter hf H i x hx
theorem per_same (hf : Perm N f) (hg : Perm N g) {a b : Nat} (ha : a < N) (hb : b < N) (h : ∀ p, iter g p a = a ↔ iter f p b = b) : per g a = per f b := by
  obtain ⟨a1, _, a3, a4⟩ := per_spec hg ha
  obtain ⟨b1, _, b3, b4⟩ := per_spec hf hb
  rcases Nat.lt_trichotomy (per g a) (per f b) with h1 | h1 | h1
  · exact absurd ((h _).1 a3) (b4 _ a1 h1)
  · exact h1
  · exact absurd ((h _).2 b3) (a4 _ b1 h1)
theorem conj_per (hf : Perm N f) (hg : Perm N g) (ha : ∀ x, x < N → α x < N) (haa : ∀ x, α (α x) = x) (H : ∀ x, x < N → g (α (f x)) = α x) {x : Nat} (hx : x < N) : per g (α x) = per f x := by
  refine per_same hf hg (ha x hx) hx fun p => ?_
  have k := conj_iter hf H p x hx
  constructor
  · intro h
    have e := hg.iter_inj p (ha _ (hf.iter_lt p hx)) (ha x hx) (k.trans h.symm)
    have := congrArg α e
    rwa [haa, haa] at this
  · intro h
    rw [h] at k
    exact k
theorem per_orb (hf : Perm N f) {x y : Nat} (hx : x < N) (o : Orb f x y) : per f y = per f x := by
  obtain ⟨i, rfl⟩ := o
  refine per_same hf hf (hf.iter_lt i hx) hx fun p => ?_
  rw [← iter_add, Nat.add_comm, iter_add]
  constructor
  · intro h; exact hf.iter_inj i (hf.iter_lt p hx) hx h
  · intro h; rw [h]
theorem conj_back (hf : Perm N f) (ha : ∀ x, x < N → α x < N) (haa : ∀ x, α (α x) = x) (H : ∀ x, x < N → g (α (f x)) = α x) : ∀ y, y < N → f (α (g y)) = α y := by
  intro y hy
  obtain ⟨p1, _, p3, _⟩ := per_spec hf (ha y hy)
  have e : f (iter f (per f (α y) - 1) (α y)) = α y := by
    rw [← iter_succ f, show per f (α y) - 1 + 1 = per f (α y) by omega]; exact p3
  have hx := hf.iter_lt (per f (α y) - 1) (ha y hy)
  generalize iter f (per f (α y) - 1) (α y) = x at e hx
  have k := H x hx
  rw [e, haa] at k
  rw [k, haa, e]
open Classical in
theorem count_conj_le (hf : Perm N f) (hg : Perm N g) (ha : ∀ x, x < N → α x < N) (haa : ∀ x, α (α x) = x) (H : ∀ x, x < N → g (α (f x)) = α x) (q : Nat → Bool) :
    (List.range N).countP (fun k => leastB f k && q (per f k)) ≤ (List.range N).countP (fun k => leastB g k && q (per g k)) := by
  have ex : ∀ k, k < N → ∃ m, m ≤ α k ∧ Orb g m (α k) ∧ ∀ j, j < m → ¬ Orb g j (α k) := fun k hk => by
    obtain ⟨m, h1, h2, h3⟩ := least_of (P := fun m => Orb g m (α k)) (a := α k) (Orb.refl g (α k))
    exact ⟨m, h1, h2, h3⟩
  obtain ⟨F, hF⟩ : ∃ F : Nat → Nat, ∀ k, k < N → F k ≤ α k ∧ Orb g (F k) (α k) ∧ ∀ j, j < F k → ¬ Orb g j (α k) :=
    ⟨fun k => if h : k < N then Classical.choose (ex k h) else 0, fun k hk => by simp only [dif_pos hk]; exact Classical.choose_spec (ex k hk)⟩
  rw [List.countP_eq_length_filter, List.countP_eq_length_filter, ← List.length_map (f := F)]
  apply List.Nodup.length_le_of_subset
  · rw [List.nodup_iff_pairwise_ne, List.pairwise_map]
    refine List.Pairwise.imp_of_mem ?_ ((List.pairwise_lt_range (n := N)).filter _)
    intro a b h1 h2 hab e
    obtain ⟨h1, l1⟩ := List.mem_filter.1 h1
    obtain ⟨h2, l2⟩ := List.mem_filter.1 h2
    have h1 := List.mem_range.1 h1
    have h2 := List.mem_range.1 h2
    rw [Bool.and_eq_true] at l1 l2
    obtain ⟨_, o1, _⟩ := hF a h1
    obtain ⟨c2, o2, _⟩ := hF b h2
    rw [← e] at o2
    have hm : F a < N := Nat.lt_of_le_of_lt (hF a h1).1 (ha a h1)
    have o := (o1.symm hg hm).trans o2
    obtain ⟨i, hi⟩ := o
    have k := conj_iter hg (conj_back hf ha haa H) i (α a) (ha a h1)
    rw [hi, haa, haa] at k
    exact (tst_iff.1 l2.1) a hab (Orb.symm hf h2 ⟨i, k⟩)
  · intro m hm
    obtain ⟨k, hk, rfl⟩ := List.mem_map.1 hm
    obtain ⟨hk, lk⟩ := List.mem_filter.1 hk
    have hk := List.mem_range.1 hk
    rw [Bool.and_eq_true] at lk
    obtain ⟨c1, o1, c3⟩ := hF k hk
    have hmN : F k < N := Nat.lt_of_le_of_lt c1 (ha k hk)
    refine List.mem_filter.2 ⟨List.mem_range.2 hmN, ?_⟩
    rw [Bool.and_eq_true]
    refine ⟨tst_iff.2 fun j hj o => c3 j hj (o.trans o1), ?_⟩
    rw [← per_orb hg hmN o1, conj_per hf hg ha haa H hk]
    exact lk.2
theorem count_conj (hf : Perm N f) (hg : Perm N g) (ha : ∀ x, x < N → α x < N) (haa : ∀ x, α (α x) = x) (H : ∀ x, x < N → g (α (f x)) = α x) (q : Nat → Bool) :
    (List.range N).countP (fun k => leastB f k && q (per f k)) = (List.range N).countP (fun k => leastB g k && q (per g k)) :=
  Nat.le_antisymm (count_conj_le hf hg ha haa H q) (count_conj_le hg hf ha haa (conj_back hf ha haa H) q)
theorem rows_count (f : Nat → Nat) (N : Nat) (q : Nat → Bool) : (rowsUpto f N).countP (fun l => q l.length) = (List.range N).countP (fun k => leastB f k && q (per f k)) := by
  unfold rowsUpto
  rw [List.countP_map, List.countP_filter]
  refine List.countP_congr fun k _ => ?_
  simp [rowOf, Bool.and_comm]
end

/-- the other way round -/
def mir (rs : List (List Int)) : List (List Int) := rs.map List.reverse
section
variable {n : Int} {es : List (Int × Int)} {rs : List (List Int)}
theorem mir_length : (mir rs).length = rs.length := by simp [mir]
theorem mir_mir : mir (mir rs) = rs := by
  simp only [mir, List.map_map]
  exact (List.map_congr_left (g := id) (fun l _ => List.reverse_reverse l)).trans (List.map_id _)
theorem mir_at {x : Nat} (hx : x < rs.length) : (mir rs)[x]'(by rw [mir_length]; exact hx) = rs[x].reverse := by simp [mir]
theorem mir_right (h : RightP n es rs) : RightP n es (mir rs) := by
  refine ⟨h.may, by rw [mir_length]; exact h.len, fun x hx a ha => ?_, fun x hx => ?_, fun d hd => ?_⟩
  · have hx' : x < rs.length := by rwa [mir_length] at hx
    rw [mir_at hx'] at ha
    exact h.at_ x hx' a (List.mem_reverse.1 ha)
  · have hx' : x < rs.length := by rwa [mir_length] at hx
    rw [mir_at hx']
    exact List.nodup_iff_pairwise_ne.2 (List.pairwise_reverse.2 ((List.nodup_iff_pairwise_ne.1 (h.nd x hx')).imp fun h => h.symm))
  · obtain ⟨x, hx, hm⟩ := h.cov d hd
    exact ⟨x, by rw [mir_length]; exact hx, by rw [mir_at hx]; exact List.mem_reverse.2 hm⟩
theorem rev_getD {l : List Int} {t : Nat} (ht : t < l.length) : l.reverse.getD t 0 = l.getD (l.length - 1 - t) 0 := by
  rw [List.getD_eq_getElem?_getD, List.getD_eq_getElem?_getD, List.getElem?_reverse ht]
theorem sig_mir (h : RightP n es rs) {d : Nat} (hd : d < 2 * es.length) : sig es (mir rs) (sig es rs d) = d := by
  obtain ⟨x, i, hx, hi, e, _⟩ := h.pos hd
  have hx' : x < (mir rs).length := by rw [mir_length]; exact hx
  have e1 := sig_getD h hx hi
  have e0 : rs[x].getD i 0 = (d : Int) := by rw [List.getD_eq_getElem?_getD, List.getElem?_eq_getElem hi]; exact e
  rw [e0, Int.toNat_natCast] at e1
  have hj : (i + 1) % rs[x].length < rs[x].length := Nat.mod_lt _ (by omega)
  have hlen : (mir rs)[x].length = rs[x].length := by rw [mir_at hx, List.length_reverse]
  have ht : rs[x].length - 1 - (i + 1) % rs[x].length < (mir rs)[x].length := by rw [hlen]; omega
  have e2 := sig_getD (mir_right h) hx' ht
  rw [hlen, mir_at hx, rev_getD (by omega), rev_getD (Nat.mod_lt _ (by omega))] at e2
  rw [show rs[x].length - 1 - (rs[x].length - 1 - (i + 1) % rs[x].length) = (i + 1) % rs[x].length by omega, ← e1] at e2
  rw [e2]
  have e3 : rs[x].length - 1 - (rs[x].length - 1 - (i + 1) % rs[x].length + 1) % rs[x].length = i := by
    by_cases hl : i + 1 = rs[x].length
    · rw [hl, Nat.mod_self]
      have : rs[x].length - 1 - 0 + 1 = rs[x].length := by omega
      rw [this, Nat.mod_self]
      omega
    · rw [Nat.mod_eq_of_lt (show i + 1 < rs[x].length by omega)]
      rw [Nat.mod_eq_of_lt (show rs[x].length - 1 - (i + 1) + 1 < rs[x].length by omega)]
      omega
  rw [e3, e0, Int.toNat_natCast]
theorem nxf_mir (h : RightP n es rs) {x : Nat} (hx : x < 2 * es.length) : nxf es (mir rs) (ot (nxf es rs x)) = ot x := by
  have k := sig_mir h (ot_lt hx)
  unfold sig at k
  rw [ot_ot] at k
  exact k
theorem faces_mir (h : RightP n es rs) (q : Nat → Bool) : (facesOf n es rs).countP (fun l => q l.length) = (facesOf n es (mir rs)).countP (fun l => q l.length) := by
  rw [faces_rows h, faces_rows (mir_right h), rows_count, rows_count]
  exact count_conj (nxf_perm h) (nxf_perm (mir_right h)) (fun x hx => ot_lt hx) ot_ot (fun x hx => nxf_mir h hx) q
theorem faces_mir_length (h : RightP n es rs) : (facesOf n es (mir rs)).length = (facesOf n es rs).length := by
  have := faces_mir h (fun _ => true)
  simpa using this.symm
theorem iso_mir : iso (mir rs) = iso rs := by
  unfold iso
  rw [mir_length]
  refine List.countP_congr fun x hx => ?_
  have hx := List.mem_range.1 hx
  rw [getD_row (show x < (mir rs).length by rw [mir_length]; exact hx), getD_row hx, mir_at hx, List.length_reverse]
theorem gen_mir (h : RightP n es rs) : gen n es (mir rs) = gen n es rs := by
  unfold gen
  rw [mir_length, iso_mir, faces_mir_length h]
theorem turned_self (l : List Int) : turnedB l l = true := by
  by_cases hl : l.length = 0
  · have : l = [] := List.eq_nil_of_length_eq_zero hl
    subst this
    rfl
  · exact turned_yes (i := 0) (by omega) (by simp [rot])
theorem sameB_of {xs ys : List (List Int)} (hl : xs.length = ys.length) (h : ∀ i (h1 : i < xs.length) (h2 : i < ys.length), turnedB xs[i] ys[i] = true) : sameB xs ys = true := by
  unfold sameB
  rw [decide_eq_true hl, Bool.true_and, List.all_eq_true]
  intro i hi
  have hi := List.mem_range.1 hi
  rw [getD_row hi, getD_row (show i < ys.length by omega)]
  exact h i hi (by omega)
theorem sameB_self (rs : List (List Int)) : sameB rs rs = true := sameB_of rfl fun i _ _ => turned_self _
/-- a list, begun elsewhere, as far as k -/
def turnL (l : List Int) (t k : Nat) : List Int := (List.range k).map fun i => l.getD ((i + t) % l.length) 0
theorem turnL_succ (l : List Int) (t k : Nat) : turnL l t (k + 1) = turnL l t k ++ [l.getD ((k + t) % l.length) 0] := by simp [turnL, List.range_succ]
theorem turnL_length (l : List Int) (t k : Nat) : (turnL l t k).length = k := by simp [turnL]
theorem turnL_rot {l : List Int} (t : Nat) (hl : 0 < l.length) : rot l (t % l.length) = turnL l t l.length := by
  have ht := Nat.mod_lt t hl
  apply List.ext_getElem
  · rw [rot_length, turnL_length]
  · intro k h1 h2
    rw [rot_length] at h1
    simp only [turnL, List.getElem_map, List.getElem_range, rot]
    have e : (k + t) % l.length = (k + t % l.length) % l.length := by rw [Nat.add_mod, Nat.mod_eq_of_lt h1, Nat.add_mod k (t % l.length), Nat.mod_eq_of_lt h1, Nat.mod_mod]
    rw [e]
    by_cases hk : k < l.length - t % l.length
    · rw [List.getElem_append_left (by rw [List.length_drop]; exact hk), List.getElem_drop]
      rw [Nat.mod_eq_of_lt (show k + t % l.length < l.length by omega)]
      rw [List.getD_eq_getElem?_getD, List.getElem?_eq_getElem (by omega)]
      simp [Nat.add_comm]
    · rw [List.getElem_append_right (by rw [List.length_drop]; omega), List.getElem_take]
      have e2 : (k + t % l.length) % l.length = k - (l.length - t % l.length) := by
        rw [Nat.mod_eq_sub_mod (by omega), Nat.mod_eq_of_lt (by omega)]
        omega
      rw [e2, List.getD_eq_getElem?_getD, List.getElem?_eq_getElem (by omega)]
      simp
theorem turned_turnL (l : List Int) (t : Nat) : turnedB l (turnL l t l.length) = true := by
  by_cases hl : 0 < l.length
  · exact turned_yes (Nat.mod_lt t hl) (turnL_rot t hl)
  · have : l = [] := List.eq_nil_of_length_eq_zero (by omega)
    subst this
    rfl
def otherL (rs : List (List Int)) (t : Nat) : List (List Int) := rs.map fun l => turnL l t l.length
theorem same_other (rs : List (List Int)) (t : Nat) : sameB rs (otherL rs t) = true := sameB_of (by simp [otherL]) fun i h1 h2 => by
  simp only [otherL, List.getElem_map]
  exact turned_turnL _ _
theorem same_more (rs : List (List Int)) (t : Nat) (l : List Int) : sameB rs (otherL rs t ++ [l]) = false := by
  unfold sameB
  rw [decide_eq_false (by simp [otherL])]
  rfl
end
end Go.Proofs.Ythdifhfmgmmljaa
