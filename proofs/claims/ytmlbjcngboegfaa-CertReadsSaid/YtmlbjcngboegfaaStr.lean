/-
  bytes as strings; bytes.Equal. Written by an AI agent.
-/
import Derived.Test.YtmlbjcngboegfaaWalkR
import Derived.Laws.BytesArg
namespace Go.Proofs.Ytmlbjcngboegfaa
open Go.RowKit

theorem conv_bytes (w : World) {B : Nat} {A : Option Addr} {xs : List Int} (h : Cells w B A (byteCells xs)) (n c : Nat) (hn : n = xs.length) : (convert 35 9 (.slice A n c)).run Try.prog w = .ok (.string (strOfNums xs)) w := by
  subst hn
  have hs : Try.prog.underlying 35 = some (.slice 5) := Try.underlying35
  have he : Try.prog.underlying 5 = some (.int .u8) := Try.underlying5
  have hd : Try.prog.underlying 9 = some .string := Try.underlying9
  rcases Nat.eq_zero_or_pos xs.length with h0 | h0
  · have hx : xs = [] := List.eq_nil_of_length_eq_zero h0
    subst hx
    rw [run_convert_bytes_string w _ _ _ _ _ _ hs he hd]
    cases A <;> simp [Conv.bytesToString, loadCells] <;> rfl
  · obtain ⟨b, off, rfl, _, hc⟩ := h (by rw [byteCells_length]; exact h0)
    refine run_convert_bytes_arg w _ _ hs he b off xs.length c xs rfl (fun i hi => hc i _ ?_) _ hd
    simp [byteCells, hi, List.getD]
theorem str_list {xs ys : List Int} (hx : Bytes xs) (hy : Bytes ys) : (strOfNums xs).data.toList = (strOfNums ys).data.toList ↔ xs = ys := by
  constructor
  · intro h
    simp only [strOfNums_data] at h
    have key : ∀ {zs : List Int}, Bytes zs → (zs.map fun n => UInt8.ofNat n.toNat).map (fun u => (u.toNat : Int)) = zs := fun {zs} hz => by
      rw [List.map_map]
      conv => rhs; rw [← List.map_id zs]
      apply List.map_congr_left
      intro a ha
      obtain ⟨h0, h1⟩ := hz a ha
      show ((UInt8.ofNat a.toNat).toNat : Int) = a
      simp [UInt8.toNat_ofNat']
      omega
    rw [← key hx, ← key hy, h]
  · intro h; rw [h]
theorem str_beq {xs ys : List Int} (hx : Bytes xs) (hy : Bytes ys) : ((strOfNums xs).toList == (strOfNums ys).toList) = decide (xs = ys) := by
  rw [Bool.eq_iff_iff, ByteArray.toList_eq, ByteArray.toList_eq, beq_iff_eq, decide_eq_true_iff]
  exact str_list hx hy

theorem bytesEq_any {B B' : Nat} {A A' : Option Addr} {xs ys : List Int} {c c' : Nat} (w : World) (h : Cells w B A (byteCells xs)) (h' : Cells w B' A' (byteCells ys)) (hx : Bytes xs) (hy : Bytes ys) :
    Calls Try.prog 23 #[.slice A xs.length c, .slice A' ys.length c'] w (fun e w' => e = .returned (.bool (decide (xs = ys))) ∧ w = w') := by
  have h1 := conv_bytes w h xs.length c rfl
  have h2 := conv_bytes w h' ys.length c' rfl
  have HB := Lib.hid (str_beq hx hy)
  clear h h' hx hy
  generalize strOfNums xs = p at *
  generalize strOfNums ys = q at *
  go_enter Try.func23, Try.ntmps23
  go_wp2
  go_ret
  exact ⟨ret_bool HB.out, rfl⟩
end Go.Proofs.Ytmlbjcngboegfaa
