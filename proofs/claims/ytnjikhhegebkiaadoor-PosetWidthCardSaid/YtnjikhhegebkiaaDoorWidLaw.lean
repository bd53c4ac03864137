/-
  The reference's Width: as many as can be apart (plain law). Written by an AI agent.
-/
import Derived.Test.YtnjikhhegebkiaaDoorChLaw
namespace Go.Proofs.YtnjikhhegebkiaaDoor
open Go.RowKit

/-- does one of the chosen reach x, or x it? -/
def meets (R : Nat → Nat → Bool) (x : Nat) (ch : List Int) : Bool := ch.any fun c => R c.toNat x || R x c.toNat
/-- the reference's Width, f vertices ahead of the end -/
def widF (R : Nat → Nat → Bool) (n : Nat) : Nat → List Int → Nat
  | 0, ch => ch.length
  | f + 1, ch => if meets R (n - (f + 1)) ch then widF R n f ch else max (widF R n f ch) (widF R n f (ch ++ [((n - (f + 1) : Nat) : Int)]))
theorem widF_ge {R : Nat → Nat → Bool} {n : Nat} : ∀ (f : Nat) (ch : List Int), ch.length ≤ widF R n f ch
  | 0, ch => Nat.le_refl _
  | f + 1, ch => by
    have h := widF_ge (R := R) (n := n) f ch
    unfold widF
    split
    · exact h
    · omega
theorem widF_le {R : Nat → Nat → Bool} {n : Nat} : ∀ (f : Nat) (ch : List Int), widF R n f ch ≤ ch.length + f
  | 0, ch => Nat.le_refl _
  | f + 1, ch => by
    have h := widF_le (R := R) (n := n) f ch
    have h2 := widF_le (R := R) (n := n) f (ch ++ [((n - (f + 1) : Nat) : Int)])
    rw [List.length_append] at h2
    simp only [List.length_cons, List.length_nil] at h2
    unfold widF
    split <;> omega
/-- none reaches another one -/
def Anti (R : Nat → Nat → Bool) (ch : List Int) : Prop := ∀ i j (hi : i < ch.length) (hj : j < ch.length), i ≠ j → R ch[i].toNat ch[j].toNat = false
theorem Anti.push {R : Nat → Nat → Bool} {ch : List Int} {x : Nat} (h : Anti R ch) (hm : meets R x ch = false) : Anti R (ch ++ [(x : Int)]) := by
  unfold meets at hm
  rw [List.any_eq_false] at hm
  have hm : ∀ i (hi : i < ch.length), R ch[i].toNat x = false ∧ R x ch[i].toNat = false := fun i hi => by
    have := hm _ (List.getElem_mem hi)
    simpa using this
  intro i j hi hj hij
  rw [List.length_append, List.length_singleton] at hi hj
  by_cases h1 : i < ch.length
  · by_cases h2 : j < ch.length
    · simp only [List.getElem_append_left h1, List.getElem_append_left h2]
      exact h i j h1 h2 hij
    · have : j = ch.length := by omega
      subst this
      simp only [List.getElem_append_left h1, List.getElem_concat_length]
      exact (hm i h1).1
  · have : i = ch.length := by omega
    subst this
    have h2 : j < ch.length := by omega
    simp only [List.getElem_append_left h2, List.getElem_concat_length]
    exact (hm j h2).2
/-- what Width tells is the length of some vertices that are apart -/
theorem widF_some {R : Nat → Nat → Bool} {n : Nat} : ∀ (f : Nat) (ch : List Int), f ≤ n → Anti R ch → ch.Pairwise (· < ·) → (∀ z ∈ ch, ∃ k : Nat, z = k ∧ k < n - f) →
    ∃ a, Anti R a ∧ a.Pairwise (· < ·) ∧ (∀ z ∈ a, ∃ k : Nat, z = k ∧ k < n) ∧ a.length = widF R n f ch
  | 0, ch, _, h1, h2, h3 => ⟨ch, h1, h2, fun z hz => by obtain ⟨k, h, h'⟩ := h3 z hz; exact ⟨k, h, by omega⟩, rfl⟩
  | f + 1, ch, hf, h1, h2, h3 => by
    have ha := widF_some (R := R) (n := n) f ch (by omega) h1 h2 (fun z hz => by obtain ⟨k, h, h'⟩ := h3 z hz; exact ⟨k, h, by omega⟩)
    unfold widF
    cases hm : meets R (n - (f + 1)) ch with
    | true => rw [if_pos rfl]; exact ha
    | false =>
      rw [if_neg (by simp)]
      have hb := widF_some (R := R) (n := n) f (ch ++ [((n - (f + 1) : Nat) : Int)]) (by omega) (h1.push hm) (by
        rw [List.pairwise_append]
        refine ⟨h2, by simp, fun a ha b hb => ?_⟩
        obtain ⟨k, e, hk⟩ := h3 a ha
        have : b = ((n - (f + 1) : Nat) : Int) := by simpa using hb
        omega) (fun z hz => by
        rcases List.mem_append.1 hz with hz | hz
        · obtain ⟨k, h, h'⟩ := h3 z hz; exact ⟨k, h, by omega⟩
        · exact ⟨n - (f + 1), by simpa using hz, by omega⟩)
      rcases Nat.le_total (widF R n f ch) (widF R n f (ch ++ [((n - (f + 1) : Nat) : Int)])) with h | h
      · rw [Nat.max_eq_right h]; exact hb
      · rw [Nat.max_eq_left h]; exact ha
/-- no vertices that are apart are more -/
theorem widF_all {R : Nat → Nat → Bool} {n : Nat} : ∀ (f : Nat) (ch r : List Int), f ≤ n → Anti R (ch ++ r) → r.Pairwise (· < ·) → (∀ z ∈ r, ∃ k : Nat, z = k ∧ n - f ≤ k ∧ k < n) → (ch ++ r).length ≤ widF R n f ch
  | 0, ch, r, _, _, _, h3 => by
    cases r with
    | nil => simp [widF]
    | cons z r =>
      obtain ⟨k, _, h1, h2⟩ := h3 z (by simp)
      omega
  | f + 1, ch, r, hf, h1, h2, h3 => by
    have hskip : (∀ z ∈ r, ∃ k : Nat, z = k ∧ n - f ≤ k ∧ k < n) → (ch ++ r).length ≤ widF R n (f + 1) ch := fun hr => by
      have := widF_all (R := R) (n := n) f ch r (by omega) h1 h2 hr
      unfold widF
      split
      · exact this
      · omega
    cases r with
    | nil => exact hskip (by simp)
    | cons z r =>
      obtain ⟨k, hz, hk1, hk2⟩ := h3 z (by simp)
      by_cases hk : k = n - (f + 1)
      · subst hk
        subst hz
        have hp := List.pairwise_cons.1 h2
        have ih := widF_all (R := R) (n := n) f (ch ++ [((n - (f + 1) : Nat) : Int)]) r (by omega) (by rwa [List.append_assoc]) hp.2 (fun z hz => by
          obtain ⟨k, h, h', h''⟩ := h3 z (by simp [hz])
          have := hp.1 z hz
          exact ⟨k, h, by omega, h''⟩)
        have hm : meets R (n - (f + 1)) ch = false := by
          unfold meets
          rw [List.any_eq_false]
          intro c hc
          obtain ⟨i, hi, rfl⟩ := List.getElem_of_mem hc
          have e1 := h1 i ch.length (by simp; omega) (by simp) (by omega)
          have e2 := h1 ch.length i (by simp) (by simp; omega) (by omega)
          simp only [List.getElem_append_left hi] at e1 e2
          have e3 : (ch ++ ((n - (f + 1) : Nat) : Int) :: r)[ch.length]'(by simp) = ((n - (f + 1) : Nat) : Int) := by
            rw [List.getElem_append_right (Nat.le_refl _)]; simp
          rw [e3] at e1 e2
          simp only [Int.toNat_natCast] at e1 e2
          simp [e1, e2]
        unfold widF
        rw [hm, if_neg (by simp)]
        rw [List.append_assoc] at ih
        have : (ch ++ ((n - (f + 1) : Nat) : Int) :: r).length ≤ widF R n f (ch ++ [((n - (f + 1) : Nat) : Int)]) := ih
        omega
      · refine hskip fun y hy => ?_
        obtain ⟨j, h, h', h''⟩ := h3 y hy
        rcases List.mem_cons.1 hy with e | e
        · exact ⟨j, h, by omega, h''⟩
        · have := (List.pairwise_cons.1 h2).1 y e
          exact ⟨j, h, by omega, h''⟩
/-- chains that have each vertex once are no fewer than vertices that are apart -/
theorem anti_le {n : Nat} {es : List (Int × Int)} {T : List Nat} (hE : EdgesIn n es) (hord : (orderF es n).length = n) (hn : n ≤ 64) (h : Grown1 false (fun _ => true) n es T) {ls : List (List Int)} (hc : ChainedP n (reachB n es) ls) {a : List Int} (ha : Anti (reachB n es) a) (hp : a.Pairwise (· < ·)) (hr : ∀ z ∈ a, ∃ k : Nat, z = k ∧ k < n) : a.length ≤ ls.length := by
  have hin : InN n es := hE
  have hR := ranked_of hE hord hn h
  have hT := up_trans hin hn h hR
  have hanti : ∀ z z' : Nat, (z : Int) ∈ a → (z' : Int) ∈ a → ¬ Up (abF T n) z z' := fun z z' h1 h2 hu => by
    obtain ⟨i, hi, e1⟩ := List.getElem_of_mem h1
    obtain ⟨j, hj, e2⟩ := List.getElem_of_mem h2
    obtain ⟨p, hp1, hpn⟩ := hr _ h1
    obtain ⟨q, hq1, hqn⟩ := hr _ h2
    have hzn : z < n := by omega
    have hzn' : z' < n := by omega
    obtain ⟨g1, g2⟩ := (reachB_up hin hn h hzn hzn').2 hu
    have hij : i ≠ j := fun e => by subst e; rw [e1] at e2; omega
    have := ha i j hi hj hij
    rw [e1, e2] at this
    simp only [Int.toNat_natCast] at this
    rw [g2] at this
    cases this
  refine cover_le ls a (hp.imp fun h => Int.ne_of_lt h) (fun z hz => ?_) fun l hl z hz z' hz' hzl hzl' => ?_
  · obtain ⟨k, rfl, hk⟩ := hr z hz
    obtain ⟨l, h1, h2⟩ := List.mem_flatten.1 (hc.all k hk)
    exact ⟨l, h1, h2⟩
  · refine steps_one hT (l := l) (fun i hi => ?_) hanti hz hz' hzl hzl'
    obtain ⟨p, hp1, hpn⟩ := hc.rng l hl _ (List.getElem_mem (show i < l.length by omega))
    obtain ⟨q, hq1, hqn⟩ := hc.rng l hl _ (List.getElem_mem hi)
    obtain ⟨g1, g2⟩ := hc.step l hl i hi
    rw [hp1, hq1] at g1 g2
    simp only [Int.toNat_natCast] at g2
    exact ⟨p, q, hp1, hq1, hpn, hqn, (reachB_up hin hn h hpn hqn).1 ⟨fun e => g1 (by rw [e]), g2⟩⟩
theorem apart_anti {n : Nat} {R : Nat → Nat → Bool} {a : List Int} (h : ApartP n R a) : Anti R a := h.anti
/-- Width's answer of a graph is the length of what Apart tells -/
theorem wid_eq {n : Nat} {es : List (Int × Int)} {T : List Nat} {ls : List (List Int)} {a : List Int} (hE : EdgesIn n es) (hord : (orderF es n).length = n) (hn : n ≤ 64) (h : Grown1 false (fun _ => true) n es T) (hd : Dil n (abF T n) ls a) : widF (reachB n es) n n [] = a.length := by
  refine Nat.le_antisymm ?_ ?_
  · obtain ⟨b, h1, h2, h3, h4⟩ := widF_some (R := reachB n es) (n := n) n [] (Nat.le_refl _) (fun i j hi => by simp at hi) List.Pairwise.nil (by simp)
    rw [← h4, ← hd.len]
    exact anti_le hE hord hn h (dil_chained hE hn h hd) h1 h2 h3
  · have := widF_all (R := reachB n es) (n := n) n [] a (Nat.le_refl _) (by rw [List.nil_append]; exact (dil_apart (show InN n es from hE) hn h hd).anti) hd.rise (fun z hz => by obtain ⟨k, e, hk⟩ := hd.arng z hz; exact ⟨k, e, by omega, hk⟩)
    simpa using this
end Go.Proofs.YtnjikhhegebkiaaDoor
