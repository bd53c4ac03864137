import Derived.Test.YtelcofkjpkdjiaaGreatZSinkTree
import Derived.Test.YtelcofkjpkdjiaaGreatZEulerP
import Derived.Test.YtelcofkjpkdjiaaGreatZCountSum
/-
  A part of the web without inner vertices is a tree (plain law). Written by an AI agent.
-/
namespace Go.Proofs.YtelcofkjpkdjiaaGreat
open Go.RowKit

theorem cls_coarse {R : Nat → Nat → Prop} {v : Nat → Nat} {N : Nat} (h : ∀ x y, x < N → y < N → R x y → v x = v y) : cls (fun x y => v x = v y) N ≤ cls R N := by
  unfold cls
  refine countP_mono fun z hz hp => ?_
  rw [tst_iff] at hp ⊢
  exact fun k hk hr => hp k hk (h k z (by omega) hz hr)
theorem cls_all1 {R : Nat → Nat → Prop} {N : Nat} (hN : 0 < N) (h : ∀ x, x < N → R 0 x) : cls R N = 1 := by
  unfold cls
  have e : ((List.range N).countP fun y => tst (∀ k, k < y → ¬ R k y)) = (List.range N).countP fun y => decide (y = 0) := count_congr fun y hy => by
    rw [Bool.eq_iff_iff, tst_iff, decide_eq_true_eq]
    constructor
    · intro hn
      rcases Nat.eq_zero_or_pos y with h0 | h0
      · exact h0
      · exact absurd (h y hy) (hn 0 h0)
    · rintro rfl k hk
      exact absurd hk (Nat.not_lt_zero _)
  rw [e, countP_less (p := fun y => decide (y = 0)) (q := fun _ => false) (m := 0) (by simp) (fun h => by by_cases e : h = 0 <;> simp [e]) N, if_pos hN]
  simp
section
variable {s : Nat → Nat}
theorem ppR_orb {x y : Nat} (h : Orb s x y) : ∀ k, ppR s k x y
  | 0 => h
  | k + 1 => .inl (ppR_orb h k)
theorem ppR_pair {m i : Nat} (hs : Perm (2 * m) s) : ∀ k, k ≤ m → i < k → ppR s k (2 * i) (2 * i + 1)
  | 0, _, h => absurd h (Nat.not_lt_zero _)
  | k + 1, hk, h => by
    have hE := ppR_equ hs k (by omega)
    by_cases e : i = k
    · subst e
      exact .inr (.inl ⟨hE.refl _ (by omega), hE.refl _ (by omega)⟩)
    · exact .inl (ppR_pair hs k (by omega) (by omega))
end
section
variable {n : Int} {es : List (Int × Int)} {rs : List (List Int)}
theorem sink_all (hR : RightP n es rs) {h : Nat} (hh : h < 2 * es.length) (hne : ¬ hasEven es (vtx es h)) : angK es rs h = 2 := by
  obtain ⟨k1, k2⟩ := vtx_sig hR hh
  refine (kindF_high _ _).2 ⟨?_, ?_⟩
  · cases he : ev h with
    | false => rfl
    | true => exact absurd ⟨h, hh, rfl, he⟩ hne
  · cases he : ev (sig es rs h) with
    | false => rfl
    | true => exact absurd ⟨sig es rs h, k1, k2, he⟩ hne
theorem ppk_cut (X : Nat → Prop) {d : Nat} (hd : d < 2 * es.length) : ppk (cutS es rs X) es.length d = cutS es rs X (ot d) := by
  rw [ppk_all, if_pos hd]
/-- from all half edges one comes, by edges back, to the source, though the sinks are cut up -/
theorem cut_one (hG : GoodP (rs.length : Int) es) (hR : RightP n es rs) (hin : InN rs.length es) (h1 : cls (Q es es.length) rs.length = 1) (he : 0 < es.length) {X : Nat → Prop} (hX : ∀ x, X x → ¬ hasEven es x) :
    cls (ppR (cutS es rs X) es.length) (2 * es.length) = 1 := by
  have hP := cutS_perm (es := es) hR X
  have hE := ppR_equ hP es.length (Nat.le_refl _)
  have ho := hG.ord
  rw [Int.toNat_natCast] at ho
  obtain ⟨Lr, hLr⟩ := rank_of_ord hin ho
  have hsrc := src_one hG
  -- two half edges at one vertex that is not cut
  have hv : ∀ a b, a < 2 * es.length → b < 2 * es.length → vtx es a = vtx es b → ¬ X (vtx es a) → ppR (cutS es rs X) es.length a b := fun a b ha hb e hx => by
    obtain ⟨i, hi⟩ := (orb_sig hR ha hb).2 e
    exact ppR_orb ⟨i, by rw [cutS_orb_out hR X i a ha hx]; exact hi⟩ _
  -- the source
  obtain ⟨s, hs⟩ : ∃ s, s ∈ bareV rs.length es Prod.snd := List.exists_mem_of_length_pos (by omega)
  obtain ⟨hsN, hsO⟩ := (mem_src hin).1 hs
  have hsu : ∀ x, x < rs.length → ¬ hasOdd es x → x = s := fun x hx hn => by
    have hm := (mem_src hin).2 ⟨hx, hn⟩
    obtain ⟨i, hi, ei⟩ := List.getElem_of_mem hs
    obtain ⟨j, hj, ej⟩ := List.getElem_of_mem hm
    have : i = j := by omega
    subst this
    rw [← ei, ← ej]
  have hsE : hasEven es s := by
    rcases touch hin h1 he hsN with h | h
    · exact absurd h hsO
    · exact h
  obtain ⟨z, hz, hzv, hze⟩ := hsE
  have hsX : ¬ X s := fun h => hX s h ⟨z, hz, hzv, hze⟩
  -- from any vertex that is not cut
  have key : ∀ r a, a < 2 * es.length → Lr (vtx es a) = r → ¬ X (vtx es a) → ppR (cutS es rs X) es.length a z := by
    intro r
    induction r using Nat.strongRecOn with
    | _ r ih =>
      intro a ha hr hx
      by_cases hOdd : hasOdd es (vtx es a)
      · obtain ⟨k, hk, hkv, hko⟩ := hOdd
        obtain ⟨i, rfl⟩ : ∃ i, k = 2 * i + 1 := ⟨k / 2, by simp [ev] at hko; omega⟩
        have hi : i < es.length := by omega
        have p1 := hv a (2 * i + 1) ha hk hkv.symm hx
        have p2 := ppR_pair (m := es.length) (i := i) hP es.length (Nat.le_refl _) hi
        have hlt : Lr (vtx es (2 * i)) < Lr (vtx es (2 * i + 1)) := by
          obtain ⟨e1, _, _⟩ := vtx_edge hin hi
          have := hLr _ (List.getElem_mem hi)
          rw [e1] at this
          simpa using this
        have p3 := ih (Lr (vtx es (2 * i))) (by rw [hkv] at hlt; omega) (2 * i) (by omega) rfl (fun h => hX _ h ⟨2 * i, by omega, rfl, by simp [ev]⟩)
        exact hE.trans _ _ _ ha hk hz p1 (hE.trans _ _ _ hk (by omega) hz (hE.symm _ _ (by omega) hk p2) p3)
      · have := hsu _ (vtx_lt hin ha) hOdd
        exact hv a z ha hz (by rw [this, hzv]) hx
  have all : ∀ a, a < 2 * es.length → ppR (cutS es rs X) es.length a z := fun a ha => by
    by_cases hx : X (vtx es a)
    · have ho : ¬ ev a = true := fun h => hX _ hx ⟨a, ha, rfl, h⟩
      obtain ⟨i, rfl⟩ : ∃ i, a = 2 * i + 1 := ⟨a / 2, by simp [ev] at ho; omega⟩
      have hi : i < es.length := by omega
      have p2 := ppR_pair (m := es.length) (i := i) hP es.length (Nat.le_refl _) hi
      exact hE.trans _ _ _ ha (by omega) hz (hE.symm _ _ (by omega) ha p2) (key _ (2 * i) (by omega) rfl (fun h => hX _ h ⟨2 * i, by omega, rfl, by simp [ev]⟩))
    · exact key _ a ha rfl hx
  exact cls_all1 (by omega) fun x hx => hE.trans _ _ _ (by omega) hz hx (all 0 (by omega)) (hE.symm _ _ hx hz (all x hx))
end
end Go.Proofs.YtelcofkjpkdjiaaGreat
