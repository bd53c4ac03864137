import Derived.Test.YtneeknlhlkpnpaaGreatZOuts
import Derived.Test.YtneeknlhlkpnpaaGreatZEul
import Derived.Test.YtneeknlhlkpnpaaGreatZAng0
import Derived.Test.YtneeknlhlkpnpaaGreatZFits
import Derived.Test.YtneeknlhlkpnpaaGreatZFlat3
import Derived.Test.YtneeknlhlkpnpaaGreatZRRf
import Derived.Test.YtneeknlhlkpnpaaGreatZAng1
import Derived.Test.YtneeknlhlkpnpaaGreatZNorm
import Derived.Test.YtneeknlhlkpnpaaGreatZRPlain
/-
 Plain law: the edges to a vertex that can be placed are a piece of the row, in the vertex' order. Written by an AI agent.
-/
namespace Go.Proofs.YtneeknlhlkpnpaaGreat
open Go.RowKit
section
variable {N : Nat} {es : List (Int × Int)} {rs : List (List Int)} {o s : Nat} {gr : Nat → Nat} {w : Nat} {D P Q : List Nat}
theorem NormR.ndP (h : NormR es rs gr w D P Q) : P.Nodup := by
 have h1 := h.nd
 rw [h.parts] at h1
 have h2 := (List.nodup_append.1 h1).1
 rw [List.nodup_iff_pairwise_ne, List.pairwise_map] at h2
 exact List.nodup_iff_pairwise_ne.2 (h2.imp fun h e => h (by rw [e]))
theorem NormR.memQ (h : NormR es rs gr w D P Q) {a : Nat} : a ∈ Q ↔ a < es.length ∧ vtx es (2 * a + 1) = w := by
 have h1 := h.mem (2 * a + 1)
 rw [h.parts] at h1
 simp only [List.mem_append, List.mem_map, List.mem_reverse] at h1
 constructor
 ·intro ha
  have := h1.1 (.inr ⟨a, ha, rfl⟩)
  exact ⟨by omega, this.2⟩
 ·rintro ⟨h2, h3⟩
  rcases h1.2 ⟨by omega, h3⟩ with ⟨b, _, e⟩ | ⟨b, hb, e⟩
  ·omega
  ·rw [show a = b by omega]; exact hb
theorem NormR.memP (h : NormR es rs gr w D P Q) {a : Nat} : a ∈ P ↔ a < es.length ∧ vtx es (2 * a) = w := by
 have h1 := h.mem (2 * a)
 rw [h.parts] at h1
 simp only [List.mem_append, List.mem_map, List.mem_reverse] at h1
 constructor
 ·intro ha
  have := h1.1 (.inl ⟨a, ha, rfl⟩)
  exact ⟨by omega, this.2⟩
 ·rintro ⟨h2, h3⟩
  rcases h1.2 ⟨by omega, h3⟩ with ⟨b, hb, e⟩ | ⟨b, _, e⟩
  ·rw [show a = b by omega]; exact hb
  ·omega
end
end Go.Proofs.YtneeknlhlkpnpaaGreat
