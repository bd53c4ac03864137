import Derived.Test.YtneeknlhlkpnpaaGreatZOutsK
import Derived.Test.YtneeknlhlkpnpaaGreatZFlat3
import Derived.Test.YtneeknlhlkpnpaaGreatZRRf
/-
 Plain law: where a plan's turn is a rotation, one of the plans that the rotation tells has it, too. Written by an AI agent.
-/
namespace Go.Proofs.YtneeknlhlkpnpaaGreat
open Go.RowKit
section
variable {N : Nat} {es : List (Int × Int)} {ord : List Int} {outs rs : List (List Int)} {en : List (List Itm)} {l : List Nat} {rF : List Itm} {s : Nat}
def NoPlan (N : Nat) (es : List (Int × Int)) (rs : List (List Int)) (s k : Nat) : Prop := ∀ ord en l rF, PlanR N es ord (outsK rs s k) en l rF s → sameB (turnR N (outsK rs s k) en) rs = false
def NoBack (N : Nat) (es : List (Int × Int)) (rs : List (List Int)) : Prop := (askA N es rs && bimB rs) = false ∨ ∀ s, s < N → inD es s = 0 → ∀ k, (k < (halv (rs.getD s [])).length ∨ k = 0) → NoPlan N es rs s k
theorem TurnsTo.ask {n : Int} {ts : List (List Int)} (h : TurnsTo rs ts) (hR : RightP n es rs) : askA n es ts = askA n es rs := by
 unfold askA
 rw [h.gen_e hR, h.1, right_iff.2 hR, right_iff.2 (h.right hR)]
theorem PlanR.askd (h : PlanR N es ord outs en l rF s) : askA N es (turnR N outs en) = true := by
 apply fask_ask
 unfold faskB
 rw [show goodB (N : Int) es = true from tst_iff.2 h.good, right_iff.2 h.right, decide_eq_true h.gen]
 rfl
theorem back_yes (h : PlanR N es ord outs en l rF s) (hs : sameB (turnR N outs en) rs = true) (hno : NoBack N es rs) : False := by
 have hT := same_turns hs
 rcases hno with hno | hno
 ·rw [hT.ask h.right, hT.bim h.right, h.askd, h.bim] at hno
  cases hno
 ·obtain ⟨k, hk, e⟩ := h.outsK hT
  have h1 := hno s h.sN h.sin k hk ord en l rF
  rw [e] at h1
  have h2 := h1 h
  rw [hs] at h2
  cases h2
theorem noPlan_short {k : Nat} {l2 : List Nat} {r2 : List Itm} {en2 : List (List Itm)} (hw : Walk es (outsK rs s k) ([], [], List.replicate N []) l2 (r2, natI l2, en2)) (hl : ∀ x ∈ l2, x < N) (hno : ∀ x, x < N → readyR es r2 (natI l2) x = false) (h : l2.length ≠ N) : NoPlan N es rs s k := fun ord en l rF hP => by
 have := (hP.greedy hw hl hno).perm.length_eq
 rw [List.length_range] at this
 exact absurd this h
theorem noPlan_still {k : Nat} {l2 : List Nat} {r2 : List Itm} {en2 : List (List Itm)} (hw : Walk es (outsK rs s k) ([], [], List.replicate N []) l2 (r2, natI l2, en2)) (hl : ∀ x ∈ l2, x < N) (hno : ∀ x, x < N → readyR es r2 (natI l2) x = false) (h : ¬ (runO N es (natI l2) (outsK rs s k)).isSome = true) : NoPlan N es rs s k := fun ord en l rF hP => by
 rw [(hP.greedy hw hl hno).run] at h
 exact absurd rfl h
theorem noPlan_other {k : Nat} {l2 : List Nat} {r2 : List Itm} {en2 en3 : List (List Itm)} (hw : Walk es (outsK rs s k) ([], [], List.replicate N []) l2 (r2, natI l2, en2)) (hl : ∀ x ∈ l2, x < N) (hno : ∀ x, x < N → readyR es r2 (natI l2) x = false) (h : runO N es (natI l2) (outsK rs s k) = some en3) (hs : sameB (turnR N (outsK rs s k) en3) rs = false) : NoPlan N es rs s k := fun ord en l rF hP => by
 have := (hP.greedy hw hl hno).run
 rw [h] at this
 rw [← Option.some.inj this]
 exact hs
end
end Go.Proofs.YtneeknlhlkpnpaaGreat
