/-
  Plain law: an order of the vertices, tails ahead of heads: taken greedily; the levels. Written by an AI agent.
-/
namespace Go.Proofs.YtnjikhhegebkiaaDoor

/-- may x come next: it is not there yet, and all tails of edges to it are -/
def nextOk (es : List (Int × Int)) (out : List Int) (x : Nat) : Bool := !out.contains (x : Int) && es.all fun e => !decide (e.2 = (x : Int)) || out.contains e.1
/-- the least vertex below n that may come next -/
def nextF (es : List (Int × Int)) (n : Nat) (out : List Int) : Option Nat := (List.range n).find? (nextOk es out)
/-- the order, as far as there is one -/
def runF (es : List (Int × Int)) (n : Nat) : Nat → List Int → List Int
  | 0, out => out
  | f + 1, out => match nextF es n out with
    | none => out
    | some x => runF es n f (out ++ [(x : Int)])
def orderF (es : List (Int × Int)) (n : Nat) : List Int := runF es n n []
/-- the order's words: vertices below n, no one twice, tails ahead -/
structure Ord (es : List (Int × Int)) (n : Nat) (out : List Int) : Prop where
  lt : ∀ a ∈ out, 0 ≤ a ∧ a < n
  nd : out.Nodup
  pre : ∀ k (hk : k < out.length), ∀ e ∈ es, e.2 = out[k] → e.1 ∈ out.take k
theorem Ord.nil (es : List (Int × Int)) (n : Nat) : Ord es n [] := ⟨by simp, List.nodup_nil, fun k hk => absurd hk (by simp)⟩
theorem Ord.push {es : List (Int × Int)} {n : Nat} {out : List Int} (h : Ord es n out) {x : Nat} (hx : nextF es n out = some x) : Ord es n (out ++ [(x : Int)]) := by
  have h1 := List.find?_some hx
  have h2 := List.mem_range.1 (List.mem_of_find?_eq_some hx)
  unfold nextOk at h1
  rw [Bool.and_eq_true] at h1
  obtain ⟨h3, h4⟩ := h1
  have h3 : (x : Int) ∉ out := by simpa using h3
  refine ⟨fun a ha => ?_, ?_, fun k hk e he hek => ?_⟩
  · rcases List.mem_append.1 ha with ha | ha
    · exact h.lt a ha
    · have : a = x := by simpa using ha
      omega
  · rw [List.nodup_append]
    refine ⟨h.nd, by simp, fun a ha b hb e => ?_⟩
    have : b = x := by simpa using hb
    subst e
    rw [this] at ha
    exact h3 ha
  · by_cases hlt : k < out.length
    · rw [List.getElem_append_left hlt] at hek
      have := h.pre k hlt e he hek
      rw [List.take_append_of_le_length (by omega)]
      exact this
    · have hke : k = out.length := by simp at hk; omega
      subst hke
      rw [List.take_left']
      · rw [List.getElem_concat_length (by rfl)] at hek
        have := List.all_eq_true.1 h4 e he
        simp [hek] at this
        exact this
      · rfl
theorem Ord.le {es : List (Int × Int)} {n : Nat} {out : List Int} (h : Ord es n out) : out.length ≤ n := by
  have hs : out ⊆ (List.range n).map fun i : Nat => (i : Int) := fun a ha => by
    obtain ⟨h1, h2⟩ := h.lt a ha
    exact List.mem_map.2 ⟨a.toNat, List.mem_range.2 (by omega), by omega⟩
  have := List.Nodup.length_le_of_subset h.nd hs
  simpa using this
theorem runF_ord {es : List (Int × Int)} {n : Nat} : ∀ (f : Nat) (out : List Int), Ord es n out → Ord es n (runF es n f out)
  | 0, _, h => h
  | f + 1, out, h => by
    unfold runF
    split
    · exact h
    · rename_i x hx
      exact runF_ord f _ (h.push hx)
theorem orderF_ord (es : List (Int × Int)) (n : Nat) : Ord es n (orderF es n) := runF_ord n [] (Ord.nil es n)
theorem runF_stop {es : List (Int × Int)} {n : Nat} {out : List Int} (h : nextF es n out = none) : ∀ f, runF es n f out = out
  | 0 => rfl
  | f + 1 => by rw [runF, h]
theorem runF_more {es : List (Int × Int)} {n : Nat} {f : Nat} {out : List Int} {x : Nat} (h : nextF es n out = some x) : runF es n (f + 1) out = runF es n f (out ++ [(x : Int)]) := by rw [runF, h]
/-- where all vertices are there none comes next -/
theorem nextF_full {es : List (Int × Int)} {n : Nat} {out : List Int} (h : Ord es n out) (hl : out.length = n) : nextF es n out = none := by
  cases hx : nextF es n out with
  | none => rfl
  | some x =>
    have := (h.push hx).le
    simp at this
    omega
end Go.Proofs.YtnjikhhegebkiaaDoor
