/-
  The reference's number: what it tells. Written by an AI agent.
-/
import Derived.Test.YtmlbjcngboegfaaLaid
namespace Go.Proofs.Ytmlbjcngboegfaa
open Go.RowKit

/-- a number as bytes, or none -/
def numO (n : Int) : Option (List Int) := if n < -134217728 ∨ 134217728 ≤ n then none else some (vb (zz n))
/-- bytes, or none -/
def OptPost (o : Option (List Int)) (w : World) (e : Ending) (w' : World) : Prop :=
  Below w.heap.size w w' ∧ (o = none → e = .returned (.tuple #[.slice none 0 0, .bool false])) ∧ ∀ bs, o = some bs → ∃ A c, e = .returned (.tuple #[.slice A bs.length c, .bool true]) ∧ Cells w' w'.heap.size A (byteCells bs) ∧ ∀ ad, A = some ad → w.heap.size ≤ ad.block
theorem Cells.grownFresh {w w' : World} {B : Nat} {A : Option Addr} {xs : List Value} {ob : Option Nat} (h : Cells w B A xs) (hg : w.grownBy w' ob) (hB : B ≤ w.heap.size) (hf : ∀ ad, A = some ad → ∀ k, ob = some k → k < ad.block) : Cells w' B A xs := fun hn => by
  obtain ⟨b, off, rfl, hb, hc⟩ := h hn
  refine ⟨b, off, rfl, hb, fun j u hu => (World.cell?_of_block (a := ⟨b, off + j, none⟩) (hg.block b (Nat.lt_of_lt_of_le hb hB) (fun e => ?_))).trans (hc j u hu)⟩
  have := hf _ rfl b e.symm
  exact Nat.lt_irrefl _ this
theorem own_fresh {w : World} {base size n c : Nat} {e : TypeId} {A : Option Addr} {xs : List Value} (h : w.ownsRow base e size (.slice A n c) n xs) (hn : 0 < n) : ∀ ad, A = some ad → base ≤ ad.block := fun ad ha => by
  obtain ⟨g, cap, hv, hb, _⟩ := h.form hn
  injection hv with hv
  rw [hv] at ha
  injection ha with ha
  subst ha
  exact hb
theorem cells_new (w : World) (t : TypeId) (xs : List Value) : Cells (w.alloc (.cells xs.toArray t)) (w.alloc (.cells xs.toArray t)).heap.size (some ⟨w.heap.size, 0, none⟩) xs := Cells.blk' (Blk.new w t xs.toArray)

set_option maxRecDepth 20000 in
set_option maxHeartbeats 1000000 in
theorem refNumber_any (n : Int) (w : World) : Calls Try.prog 20 #[.int .i64 n] w (OptPost (numO n) w) := by
  by_cases hn : n < -134217728 ∨ 134217728 ≤ n
  · have HP := Lib.hid (show OptPost (numO n) w (.returned (.tuple #[.slice none 0 0, .bool false])) w from ⟨Below.refl _ _, fun _ => rfl, fun bs h => by unfold numO at h; rw [if_pos hn] at h; cases h⟩)
    by_cases hn1 : n < -134217728
    · clear hn
      go_enter Try.func20, Try.ntmps20
      go_wp2_with fail
      go_ret2
      exact HP.out
    · have hn2 : 134217728 ≤ n := by omega
      clear hn
      go_enter Try.func20, Try.ntmps20
      go_wp2_with fail
      go_ret2
      exact HP.out
  · have hz := zz_lt hn
    have HO := Lib.hid (show numO n = some (vb (zz n)) by unfold numO; rw [if_neg hn])
    have hn1 : ¬ n < -134217728 := by omega
    have hn2 : ¬ 134217728 ≤ n := by omega
    have HZ := Lib.hid (show (zz n : Int) = if n < 0 then -2 * n - 1 else 2 * n by unfold zz; split <;> omega)
    clear hn
    have HP := Lib.hid (fun (b : List Int) (hb : vb (zz n) = b) => (⟨((Below.refl _ _).alloc (Nat.le_refl _) _), fun h => (by rw [HO.out] at h; cases h), fun bs h => (by
      rw [HO.out, hb] at h
      injection h with h
      subst h
      exact ⟨_, _, rfl, cells_new w 5 (byteCells b), fun ad h => (by injection h with h; subst h; exact Nat.le_refl _)⟩)⟩ : OptPost (numO n) w (.returned (.tuple #[.slice (some ⟨w.heap.size, 0, none⟩) b.length b.length, .bool true])) (w.alloc (.cells (byteCells b).toArray 5))))
    by_cases hneg : n < 0
    · have hN : -2 * n - 1 = (zz n : Int) := by rw [HZ.out, if_pos hneg]
      have hN' : -(2 * n) - 1 = (zz n : Int) := by omega
      clear HZ HO
      generalize zz n = N at *
      by_cases h1 : N < 128
      · have h1' : (N : Int) < 128 := by omega
        have H := Lib.hid (HP.out _ (vb_lt h1))
        have hw8 : IntKind.u8.wrap (N : Int) = N := by rw [IntKind.wrap_u8]; omega
        clear h1 HP
        go_enter Try.func20, Try.ntmps20
        go_wp2_with fail
        go_ret2
        exact H.out
      by_cases h2 : N < 16384
      · have hvb : vb N = [((N % 128 + 128 : Nat) : Int), ((N / 128 : Nat) : Int)] := by rw [vb_ge h1, vb_lt (by omega)]
        have H := Lib.hid (HP.out _ hvb)
        have hm0 : Int.tmod ((N : Nat) : Int) 128 = ((N % 128 : Nat) : Int) := by rw [Int.tmod_eq_emod_of_nonneg (by omega)]; simp
        have hw0 : IntKind.u8.wrap (((N % 128 : Nat) : Int) + 128) = ((N % 128 + 128 : Nat) : Int) := by rw [IntKind.wrap_u8]; omega
        have hw1 : IntKind.u8.wrap ((N / 128 : Nat) : Int) = ((N / 128 : Nat) : Int) := by rw [IntKind.wrap_u8]; omega
        have hd1 : Int.tdiv (N : Int) 128 = ((N / 128 : Nat) : Int) := by rw [Int.tdiv_eq_ediv_of_nonneg (by omega)]; simp
        have hb0 : N % 128 < 128 := Nat.mod_lt _ (by omega)
        have g1 : ¬ (N : Int) < 128 := by omega
        have g2 : (N : Int) < 16384 := by omega
        clear h1 HP hvb h2
        go_enter Try.func20, Try.ntmps20
        go_wp2_with fail
        go_ret2
        exact H.out
      by_cases h3 : N < 2097152
      · have hdd : N / 128 / 128 = N / 16384 := by rw [Nat.div_div_eq_div_mul]
        have hvb : vb N = [((N % 128 + 128 : Nat) : Int), ((N / 128 % 128 + 128 : Nat) : Int), ((N / 16384 : Nat) : Int)] := by rw [vb_ge h1, vb_ge (by omega), hdd, vb_lt (by omega)]
        have H := Lib.hid (HP.out _ hvb)
        have hm0 : Int.tmod ((N : Nat) : Int) 128 = ((N % 128 : Nat) : Int) := by rw [Int.tmod_eq_emod_of_nonneg (by omega)]; simp
        have hw0 : IntKind.u8.wrap (((N % 128 : Nat) : Int) + 128) = ((N % 128 + 128 : Nat) : Int) := by rw [IntKind.wrap_u8]; omega
        have hm1 : Int.tmod ((N / 128 : Nat) : Int) 128 = ((N / 128 % 128 : Nat) : Int) := by rw [Int.tmod_eq_emod_of_nonneg (by omega)]; simp
        have hw1 : IntKind.u8.wrap (((N / 128 % 128 : Nat) : Int) + 128) = ((N / 128 % 128 + 128 : Nat) : Int) := by rw [IntKind.wrap_u8]; omega
        have hd1 : Int.tdiv (N : Int) 128 = ((N / 128 : Nat) : Int) := by rw [Int.tdiv_eq_ediv_of_nonneg (by omega)]; simp
        have hw2 : IntKind.u8.wrap ((N / 16384 : Nat) : Int) = ((N / 16384 : Nat) : Int) := by rw [IntKind.wrap_u8]; omega
        have hd2 : Int.tdiv (N : Int) 16384 = ((N / 16384 : Nat) : Int) := by rw [Int.tdiv_eq_ediv_of_nonneg (by omega)]; simp
        have hb0 : N % 128 < 128 := Nat.mod_lt _ (by omega)
        have hb1 : N / 128 % 128 < 128 := Nat.mod_lt _ (by omega)
        have g1 : ¬ (N : Int) < 128 := by omega
        have g2 : ¬ (N : Int) < 16384 := by omega
        have g3 : (N : Int) < 2097152 := by omega
        clear h1 HP hvb hdd h2 h3
        go_enter Try.func20, Try.ntmps20
        go_wp2_with fail
        go_ret2
        exact H.out
      · have hdd : N / 128 / 128 = N / 16384 := by rw [Nat.div_div_eq_div_mul]
        have hde : N / 16384 / 128 = N / 2097152 := by rw [Nat.div_div_eq_div_mul]
        have hvb : vb N = [((N % 128 + 128 : Nat) : Int), ((N / 128 % 128 + 128 : Nat) : Int), ((N / 16384 % 128 + 128 : Nat) : Int), ((N / 2097152 : Nat) : Int)] := by rw [vb_ge h1, vb_ge (by omega), hdd, vb_ge (by omega), hde, vb_lt (by omega)]
        have H := Lib.hid (HP.out _ hvb)
        have hm0 : Int.tmod ((N : Nat) : Int) 128 = ((N % 128 : Nat) : Int) := by rw [Int.tmod_eq_emod_of_nonneg (by omega)]; simp
        have hw0 : IntKind.u8.wrap (((N % 128 : Nat) : Int) + 128) = ((N % 128 + 128 : Nat) : Int) := by rw [IntKind.wrap_u8]; omega
        have hm1 : Int.tmod ((N / 128 : Nat) : Int) 128 = ((N / 128 % 128 : Nat) : Int) := by rw [Int.tmod_eq_emod_of_nonneg (by omega)]; simp
        have hw1 : IntKind.u8.wrap (((N / 128 % 128 : Nat) : Int) + 128) = ((N / 128 % 128 + 128 : Nat) : Int) := by rw [IntKind.wrap_u8]; omega
        have hd1 : Int.tdiv (N : Int) 128 = ((N / 128 : Nat) : Int) := by rw [Int.tdiv_eq_ediv_of_nonneg (by omega)]; simp
        have hm2 : Int.tmod ((N / 16384 : Nat) : Int) 128 = ((N / 16384 % 128 : Nat) : Int) := by rw [Int.tmod_eq_emod_of_nonneg (by omega)]; simp
        have hw2 : IntKind.u8.wrap (((N / 16384 % 128 : Nat) : Int) + 128) = ((N / 16384 % 128 + 128 : Nat) : Int) := by rw [IntKind.wrap_u8]; omega
        have hd2 : Int.tdiv (N : Int) 16384 = ((N / 16384 : Nat) : Int) := by rw [Int.tdiv_eq_ediv_of_nonneg (by omega)]; simp
        have hw3 : IntKind.u8.wrap ((N / 2097152 : Nat) : Int) = ((N / 2097152 : Nat) : Int) := by rw [IntKind.wrap_u8]; omega
        have hd3 : Int.tdiv (N : Int) 2097152 = ((N / 2097152 : Nat) : Int) := by rw [Int.tdiv_eq_ediv_of_nonneg (by omega)]; simp
        have hb0 : N % 128 < 128 := Nat.mod_lt _ (by omega)
        have hb1 : N / 128 % 128 < 128 := Nat.mod_lt _ (by omega)
        have hb2 : N / 16384 % 128 < 128 := Nat.mod_lt _ (by omega)
        have g1 : ¬ (N : Int) < 128 := by omega
        have g2 : ¬ (N : Int) < 16384 := by omega
        have g3 : ¬ (N : Int) < 2097152 := by omega
        clear h1 HP hvb hdd hde h2 h3
        go_enter Try.func20, Try.ntmps20
        go_wp2_with fail
        go_ret2
        exact H.out
    · have hN : 2 * n = (zz n : Int) := by rw [HZ.out, if_neg hneg]
      clear HZ HO
      generalize zz n = N at *
      by_cases h1 : N < 128
      · have h1' : (N : Int) < 128 := by omega
        have H := Lib.hid (HP.out _ (vb_lt h1))
        have hw8 : IntKind.u8.wrap (N : Int) = N := by rw [IntKind.wrap_u8]; omega
        clear h1 HP
        go_enter Try.func20, Try.ntmps20
        go_wp2_with fail
        go_ret2
        exact H.out
      by_cases h2 : N < 16384
      · have hvb : vb N = [((N % 128 + 128 : Nat) : Int), ((N / 128 : Nat) : Int)] := by rw [vb_ge h1, vb_lt (by omega)]
        have H := Lib.hid (HP.out _ hvb)
        have hm0 : Int.tmod ((N : Nat) : Int) 128 = ((N % 128 : Nat) : Int) := by rw [Int.tmod_eq_emod_of_nonneg (by omega)]; simp
        have hw0 : IntKind.u8.wrap (((N % 128 : Nat) : Int) + 128) = ((N % 128 + 128 : Nat) : Int) := by rw [IntKind.wrap_u8]; omega
        have hw1 : IntKind.u8.wrap ((N / 128 : Nat) : Int) = ((N / 128 : Nat) : Int) := by rw [IntKind.wrap_u8]; omega
        have hd1 : Int.tdiv (N : Int) 128 = ((N / 128 : Nat) : Int) := by rw [Int.tdiv_eq_ediv_of_nonneg (by omega)]; simp
        have hb0 : N % 128 < 128 := Nat.mod_lt _ (by omega)
        have g1 : ¬ (N : Int) < 128 := by omega
        have g2 : (N : Int) < 16384 := by omega
        clear h1 HP hvb h2
        go_enter Try.func20, Try.ntmps20
        go_wp2_with fail
        go_ret2
        exact H.out
      by_cases h3 : N < 2097152
      · have hdd : N / 128 / 128 = N / 16384 := by rw [Nat.div_div_eq_div_mul]
        have hvb : vb N = [((N % 128 + 128 : Nat) : Int), ((N / 128 % 128 + 128 : Nat) : Int), ((N / 16384 : Nat) : Int)] := by rw [vb_ge h1, vb_ge (by omega), hdd, vb_lt (by omega)]
        have H := Lib.hid (HP.out _ hvb)
        have hm0 : Int.tmod ((N : Nat) : Int) 128 = ((N % 128 : Nat) : Int) := by rw [Int.tmod_eq_emod_of_nonneg (by omega)]; simp
        have hw0 : IntKind.u8.wrap (((N % 128 : Nat) : Int) + 128) = ((N % 128 + 128 : Nat) : Int) := by rw [IntKind.wrap_u8]; omega
        have hm1 : Int.tmod ((N / 128 : Nat) : Int) 128 = ((N / 128 % 128 : Nat) : Int) := by rw [Int.tmod_eq_emod_of_nonneg (by omega)]; simp
        have hw1 : IntKind.u8.wrap (((N / 128 % 128 : Nat) : Int) + 128) = ((N / 128 % 128 + 128 : Nat) : Int) := by rw [IntKind.wrap_u8]; omega
        have hd1 : Int.tdiv (N : Int) 128 = ((N / 128 : Nat) : Int) := by rw [Int.tdiv_eq_ediv_of_nonneg (by omega)]; simp
        have hw2 : IntKind.u8.wrap ((N / 16384 : Nat) : Int) = ((N / 16384 : Nat) : Int) := by rw [IntKind.wrap_u8]; omega
        have hd2 : Int.tdiv (N : Int) 16384 = ((N / 16384 : Nat) : Int) := by rw [Int.tdiv_eq_ediv_of_nonneg (by omega)]; simp
        have hb0 : N % 128 < 128 := Nat.mod_lt _ (by omega)
        have hb1 : N / 128 % 128 < 128 := Nat.mod_lt _ (by omega)
        have g1 : ¬ (N : Int) < 128 := by omega
        have g2 : ¬ (N : Int) < 16384 := by omega
        have g3 : (N : Int) < 2097152 := by omega
        clear h1 HP hvb hdd h2 h3
        go_enter Try.func20, Try.ntmps20
        go_wp2_with fail
        go_ret2
        exact H.out
      · have hdd : N / 128 / 128 = N / 16384 := by rw [Nat.div_div_eq_div_mul]
        have hde : N / 16384 / 128 = N / 2097152 := by rw [Nat.div_div_eq_div_mul]
        have hvb : vb N = [((N % 128 + 128 : Nat) : Int), ((N / 128 % 128 + 128 : Nat) : Int), ((N / 16384 % 128 + 128 : Nat) : Int), ((N / 2097152 : Nat) : Int)] := by rw [vb_ge h1, vb_ge (by omega), hdd, vb_ge (by omega), hde, vb_lt (by omega)]
        have H := Lib.hid (HP.out _ hvb)
        have hm0 : Int.tmod ((N : Nat) : Int) 128 = ((N % 128 : Nat) : Int) := by rw [Int.tmod_eq_emod_of_nonneg (by omega)]; simp
        have hw0 : IntKind.u8.wrap (((N % 128 : Nat) : Int) + 128) = ((N % 128 + 128 : Nat) : Int) := by rw [IntKind.wrap_u8]; omega
        have hm1 : Int.tmod ((N / 128 : Nat) : Int) 128 = ((N / 128 % 128 : Nat) : Int) := by rw [Int.tmod_eq_emod_of_nonneg (by omega)]; simp
        have hw1 : IntKind.u8.wrap (((N / 128 % 128 : Nat) : Int) + 128) = ((N / 128 % 128 + 128 : Nat) : Int) := by rw [IntKind.wrap_u8]; omega
        have hd1 : Int.tdiv (N : Int) 128 = ((N / 128 : Nat) : Int) := by rw [Int.tdiv_eq_ediv_of_nonneg (by omega)]; simp
        have hm2 : Int.tmod ((N / 16384 : Nat) : Int) 128 = ((N / 16384 % 128 : Nat) : Int) := by rw [Int.tmod_eq_emod_of_nonneg (by omega)]; simp
        have hw2 : IntKind.u8.wrap (((N / 16384 % 128 : Nat) : Int) + 128) = ((N / 16384 % 128 + 128 : Nat) : Int) := by rw [IntKind.wrap_u8]; omega
        have hd2 : Int.tdiv (N : Int) 16384 = ((N / 16384 : Nat) : Int) := by rw [Int.tdiv_eq_ediv_of_nonneg (by omega)]; simp
        have hw3 : IntKind.u8.wrap ((N / 2097152 : Nat) : Int) = ((N / 2097152 : Nat) : Int) := by rw [IntKind.wrap_u8]; omega
        have hd3 : Int.tdiv (N : Int) 2097152 = ((N / 2097152 : Nat) : Int) := by rw [Int.tdiv_eq_ediv_of_nonneg (by omega)]; simp
        have hb0 : N % 128 < 128 := Nat.mod_lt _ (by omega)
        have hb1 : N / 128 % 128 < 128 := Nat.mod_lt _ (by omega)
        have hb2 : N / 16384 % 128 < 128 := Nat.mod_lt _ (by omega)
        have g1 : ¬ (N : Int) < 128 := by omega
        have g2 : ¬ (N : Int) < 16384 := by omega
        have g3 : ¬ (N : Int) < 2097152 := by omega
        clear h1 HP hvb hdd hde h2 h3
        go_enter Try.func20, Try.ntmps20
        go_wp2_with fail
        go_ret2
        exact H.out
end Go.Proofs.Ytmlbjcngboegfaa
