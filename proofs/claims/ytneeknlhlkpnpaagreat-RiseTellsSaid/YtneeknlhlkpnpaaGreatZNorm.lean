import Derived.Test.YtneeknlhlkpnpaaGreatZRotL
import Derived.Test.YtneeknlhlkpnpaaGreatZOuts
import Derived.Test.YtneeknlhlkpnpaaGreatZEul
import Derived.Test.YtneeknlhlkpnpaaGreatZAng0
import Derived.Test.YtneeknlhlkpnpaaGreatZFits
import Derived.Test.YtneeknlhlkpnpaaGreatZFlat3
import Derived.Test.YtneeknlhlkpnpaaGreatZRRf
import Derived.Test.YtneeknlhlkpnpaaGreatZAng1
/-
 Plain law: a vertex' list, begun so that ups come first, from left to right, then downs; at sources and sinks the great half is the last one. Written by an AI agent.
-/
namespace Go.Proofs.YtneeknlhlkpnpaaGreat
open Go.RowKit
theorem two_runs {α : Type} (p : α → Bool) : ∀ l : List α, (∀ k (h : k + 1 < l.length), p l[k] = false → p l[k + 1] = false) → ∃ A B, l = A ++ B ∧ (∀ a ∈ A, p a = true) ∧ ∀ b ∈ B, p b = false
 | [], _ => ⟨[], [], rfl, by simp, by simp⟩
 | x :: l, h => by
  have hl : ∀ k (h' : k + 1 < l.length), p l[k] = false → p l[k + 1] = false := fun k hk => h (k + 1) (by simpa using hk)
  cases hx : p x with
  | true =>
   obtain ⟨A, B, e, hA, hB⟩ := two_runs p l hl
   refine ⟨x :: A, B, by rw [e]; rfl, fun a ha => ?_, hB⟩
   rcases List.mem_cons.1 ha with rfl | ha
   ·exact hx
   ·exact hA a ha
  | false =>
   refine ⟨[], x :: l, rfl, by simp, ?_⟩
   have key : ∀ k (hk : k < (x :: l).length), p (x :: l)[k] = false := by
    intro k
    induction k with
    | zero => intro _; exact hx
    | succ k ih => intro hk; exact h k hk (ih (by omega))
   intro b hb
   obtain ⟨k, hk, rfl⟩ := List.getElem_of_mem hb
   exact key k hk
section
variable {N : Nat} {es : List (Int × Int)} {rs : List (List Int)} {o s : Nat} {gr : Nat → Nat}
structure NormR (es : List (Int × Int)) (rs : List (List Int)) (gr : Nat → Nat) (w : Nat) (D : List Nat) (P Q : List Nat) : Prop where
 turned : ∃ i, rot (rs.getD w []) i = D.map fun d : Nat => (d : Int)
 parts : D = P.map (fun a => 2 * a) ++ Q.reverse.map fun a => 2 * a + 1
 nd : D.Nodup
 mem : ∀ d, d ∈ D ↔ d < 2 * es.length ∧ vtx es d = w
 next : ∀ k (h : k + 1 < D.length), sig es rs (D[k]'(by omega)) = D[k + 1]
 wrap : ∀ h : 0 < D.length, sig es rs (D[D.length - 1]'(by omega)) = D[0]
 great : tipB es w = true → D.getLast? = some (gr w)
theorem norm_at (hR : RightP N es rs) (hb : bimB rs = true) {g w : Nat} (hg : g < 2 * es.length) (hgv : vtx es g = w) (hg2 : hasOdd es w → hasEven es w → ev g = false ∧ ev (sig es rs g) = true) : ∃ D P Q, NormR es rs (fun _ => g) w D P Q := by
 obtain ⟨y, j, hy, hj, hjd, hyv⟩ := hR.pos hg
 have : y = w := by rw [← hyv, hgv]
 subst this
 have eg : rs.getD y [] = rs[y] := by rw [List.getD_eq_getElem?_getD, List.getElem?_eq_getElem hy]; rfl
 obtain ⟨i, hi⟩ : ∃ i, i = (j + 1) % rs[y].length := ⟨_, rfl⟩
 have hil : i < rs[y].length := by rw [hi]; exact Nat.mod_lt _ (by omega)
 obtain ⟨D, hD⟩ : ∃ D, D = (rot rs[y] i).map Int.toNat := ⟨_, rfl⟩
 have hDl : D.length = rs[y].length := by rw [hD, List.length_map, rot_length]
 have hget : ∀ k (hk : k < D.length), rs[y][(i + k) % rs[y].length]'(Nat.mod_lt _ (by omega)) = (D[k] : Int) ∧ D[k] < 2 * es.length ∧ vtx es D[k] = y := fun k hk => by
  have hk' : k < rs[y].length := by omega
  obtain ⟨d, h1, h2, h3⟩ := hR.nat hy (i := (i + k) % rs[y].length) (Nat.mod_lt _ (by omega))
  have e : D[k] = d := by
   simp only [hD, List.getElem_map]
   rw [rot_get hil hk', h1]; rfl
  rw [e]
  exact ⟨h1, h2, h3⟩
 have hsig : ∀ k (hk : k < D.length), sig es rs D[k] = (rs[y][(i + k + 1) % rs[y].length]'(Nat.mod_lt _ (by omega))).toNat := fun k hk => by
  have h1 := (hget k hk).1
  have h2 := sig_at hR hy (Nat.mod_lt _ (by omega)) h1
  rw [h2]
  have e : ((i + k) % rs[y].length + 1) % rs[y].length = (i + k + 1) % rs[y].length := by rw [Nat.add_mod ((i + k)) 1, Nat.add_mod ((i + k) % rs[y].length) 1, Nat.mod_mod]
  simp only [e]
 have hnext : ∀ k (h : k + 1 < D.length), sig es rs (D[k]'(by omega)) = D[k + 1] := fun k h => by
  rw [hsig k (by omega)]
  have h1 := (hget (k + 1) h).1
  have e : i + k + 1 = i + (k + 1) := by omega
  simp only [e, h1]
  rfl
 have hwrap : ∀ h : 0 < D.length, sig es rs (D[D.length - 1]'(by omega)) = D[0] := fun h => by
  rw [hsig _ (by omega)]
  have h1 := (hget 0 h).1
  have e : (i + (D.length - 1) + 1) % rs[y].length = (i + 0) % rs[y].length := by
   rw [show i + (D.length - 1) + 1 = i + rs[y].length by omega, Nat.add_mod_right]; rfl
  simp only [e, h1]
  rfl
 have hlast : ∀ h : 0 < D.length, D[D.length - 1]'(by omega) = g := fun h => by
  have h1 := (hget (D.length - 1) (by omega)).1
  have e : (i + (D.length - 1)) % rs[y].length = j := by
   rw [hi]
   by_cases h2 : j + 1 = rs[y].length
   ·rw [h2, Nat.mod_self, hDl, Nat.mod_eq_of_lt (by omega)]; omega
   ·rw [Nat.mod_eq_of_lt (show j + 1 < rs[y].length by omega), hDl, show j + 1 + (rs[y].length - 1) = j + rs[y].length by omega, Nat.add_mod_right, Nat.mod_eq_of_lt hj]
  simp only [e, hjd] at h1
  omega
 have hpos : 0 < D.length := by omega
 have hmap : (D.map fun d : Nat => (d : Int)) = rot rs[y] i := by
  apply List.ext_getElem
  ·rw [List.length_map, hDl, rot_length]
  ·intro k h1 h2
   rw [List.length_map] at h1
   rw [List.getElem_map, rot_get hil (by omega), (hget k h1).1]
 have hndD : D.Nodup := by
  have h1 : (rot rs[y] i).Nodup := by
   unfold rot
   have := hR.nd y hy
   rw [← List.take_append_drop i rs[y]] at this
   exact (List.perm_append_comm.nodup_iff).1 this
  rw [← hmap] at h1
  rw [List.nodup_iff_pairwise_ne, List.pairwise_map] at h1
  rw [List.nodup_iff_pairwise_ne]
  exact h1.imp fun h e => h (by rw [e])
 have hmemD : ∀ d, d ∈ D ↔ d < 2 * es.length ∧ vtx es d = y := fun d => by
  constructor
  ·intro h
   obtain ⟨k, hk, rfl⟩ := List.getElem_of_mem h
   exact ⟨(hget k hk).2.1, (hget k hk).2.2⟩
  ·rintro ⟨h1, h2⟩
   obtain ⟨x, t, hx, ht, e, hv⟩ := hR.pos h1
   have : x = y := by rw [← hv, h2]
   subst this
   have hm : (d : Int) ∈ rot rs[x] i := by
    have h3 : (d : Int) ∈ rs[x] := by rw [← e]; exact List.getElem_mem _
    unfold rot
    rw [← List.take_append_drop i rs[x]] at h3
    exact List.mem_append.2 (List.mem_append.1 h3).symm
   rw [← hmap] at hm
   obtain ⟨d', h3, h4⟩ := List.mem_map.1 hm
   rw [show d = d' by omega]; exact h3
 have hstep : ∀ k (h : k + 1 < D.length), ev D[k] = false → ev D[k + 1] = false := fun k hk h1 => by
  have hdk := (hmemD D[k]).1 (List.getElem_mem _)
  have hdk1 := (hmemD D[k + 1]).1 (List.getElem_mem _)
  cases h2 : ev D[k + 1] with
  | false => rfl
  | true =>
   exfalso
   have hodd : hasOdd es y := ⟨D[k], hdk.1, hdk.2, h1⟩
   have heven : hasEven es y := ⟨D[k + 1], hdk1.1, hdk1.2, h2⟩
   obtain ⟨q1, q2⟩ := hg2 hodd heven
   have hkg : D[k] ≠ g := fun e => by
    have := nodup_at hndD (i := k) (j := D.length - 1) (by omega) (by omega) (by rw [e, hlast hpos])
    omega
   have h3 := (bim_iff hR).1 hb y hy
   rw [plain_two hR] at h3
   unfold turnN at h3
   have h4 := countP_less (p := fun d => decide (vtx es d = y) && (!ev d && ev (sig es rs d))) (q := fun d => (decide (vtx es d = y) && (!ev d && ev (sig es rs d))) && !decide (d = g)) (m := g) (by rw [hgv, q1, q2]; simp) (fun _ => rfl) (2 * es.length)
   rw [if_pos hg] at h4
   have h5 : 0 < (List.range (2 * es.length)).countP fun d => (decide (vtx es d = y) && (!ev d && ev (sig es rs d))) && !decide (d = g) := List.countP_pos_iff.2 ⟨D[k], List.mem_range.2 hdk.1, by rw [hdk.2, h1, hnext k hk, h2, decide_eq_false hkg]; simp⟩
   omega
 obtain ⟨A, B, e, hA, hB⟩ := two_runs ev D hstep
 refine ⟨D, A.map (· / 2), (B.map (· / 2)).reverse, ⟨⟨i, by rw [eg]; exact hmap.symm⟩, ?_, hndD, hmemD, hnext, hwrap, fun ht => ?_⟩⟩
 ·rw [List.reverse_reverse, List.map_map, List.map_map]
  have e1 : A.map ((fun a => 2 * a) ∘ fun x => x / 2) = A := by
   conv => rhs; rw [← List.map_id A]
   apply List.map_congr_left
   intro a ha
   have := hA a ha
   have : a % 2 = 0 := by unfold ev at this; simpa using this
   show 2 * (a / 2) = a
   omega
  have e2 : B.map ((fun a => 2 * a + 1) ∘ fun x => x / 2) = B := by
   conv => rhs; rw [← List.map_id B]
   apply List.map_congr_left
   intro a ha
   have := hB a ha
   have : a % 2 = 1 := by unfold ev at this; simpa using this
   show 2 * (a / 2) + 1 = a
   omega
  rw [e1, e2, ← e]
 ·rw [List.getLast?_eq_getElem?, List.getElem?_eq_getElem (by omega), hlast hpos]
end
end Go.Proofs.YtneeknlhlkpnpaaGreat
