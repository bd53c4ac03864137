/-
  Encode, Decode: what they tell. Written by an AI agent.
-/
import Derived.Test.YtmlbjcngboegfaaWalkR
namespace Go.Proofs.Ytmlbjcngboegfaa
open Go.RowKit

def Encoded (x : Crt) (w : World) (e : Ending) (w' : World) : Prop :=
  Below w.heap.size w w' ∧ (encF x = none → e = .returned (.tuple #[.slice none 0 0, .int .i64 1])) ∧ ∀ b, encF x = some b → ∃ A c, e = .returned (.tuple #[.slice A b.length c, .int .i64 0]) ∧ b.length ≤ c ∧ Cells w' w'.heap.size A (byteCells b)

theorem own_cap {w : World} {base size n c : Nat} {e : TypeId} {A : Option Addr} {xs : List Value} (h : w.ownsRow base e size (.slice A n c) n xs) : n ≤ c := by
  rcases h.2 with ⟨h1, h0⟩ | ⟨g, cap, cur, h1, _, _, h2, _⟩
  · injection h1 with _ h1 h2; omega
  · injection h1 with _ _ h1; omega
/-- the world in which Encode asks own -/
def encW (V : CV) (x : Crt) (w : World) : World := ((w.alloc (.cells (crtCells V x) 39)).alloc (.cells #[.int .u8 (x.k % 256)] 5)).alloc (.cells #[.bool false, .slice none 0 0, .slice (some ⟨w.heap.size + 1, 0, none⟩) 1 1, .bool false] 53)
theorem enc_size (V : CV) (x : Crt) (w : World) : (encW V x w).heap.size = w.heap.size + 3 := by simp [encW]
theorem enc_below (V : CV) (x : Crt) (w : World) : Below w.heap.size w (encW V x w) := (((Below.refl _ _).alloc (Nat.le_refl _) _).alloc (by simp) _).alloc (by simp; omega) _
theorem enc_blk (V : CV) (x : Crt) (w : World) : Blk (encW V x w) w.heap.size 39 (crtCells V x) := ((Blk.new w _ _).alloc _).alloc _
theorem enc_is {V : CV} {x : Crt} {w : World} (h : CrtIs w w.heap.size V x) : CrtIs (encW V x w) (w.heap.size + 1) V x := (h.below (enc_below V x w)).more (by omega)
theorem enc_start (V : CV) (x : Crt) (w : World) : Coder (encW V x w) (w.heap.size + 1) (w.heap.size + 2) false none 0 (.slice (some ⟨w.heap.size + 1, 0, none⟩) 1 1) ⟨[], [x.k % 256], false⟩ := by
  have h1 : Blk (encW V x w) (w.heap.size + 1) 5 #[.int .u8 (x.k % 256)] := by
    have := (Blk.new (w.alloc (.cells (crtCells V x) 39)) 5 #[.int .u8 (x.k % 256)]).alloc (.cells #[.bool false, .slice none 0 0, .slice (some ⟨w.heap.size + 1, 0, none⟩) 1 1, .bool false] 53)
    simpa [encW] using this
  have h2 : Blk (encW V x w) (w.heap.size + 2) 53 #[.bool false, .slice none 0 0, .slice (some ⟨w.heap.size + 1, 0, none⟩) 1 1, .bool false] := by
    have := Blk.new ((w.alloc (.cells (crtCells V x) 39)).alloc (.cells #[.int .u8 (x.k % 256)] 5)) 53 #[.bool false, .slice none 0 0, .slice (some ⟨w.heap.size + 1, 0, none⟩) 1 1, .bool false]
    simpa [encW] using this
  exact ⟨h2, Cells.nil, Nat.le_refl _, own_of_blk h1 (Nat.le_refl _) rfl (by omega), by simp [Value.ownBlock], by omega, fun b hb => by cases hb⟩

set_option maxRecDepth 20000 in
set_option maxHeartbeats 4000000 in
theorem encode_any (V : CV) (x : Crt) (w : World) (h : CrtIs w w.heap.size V x) (hl : CrtLe x) : Calls Try.prog 9 #[crtVal V x] w (Encoded x w) := by
  unfold crtVal crtCells
  go_enter Try.func9, Try.ntmps9
  go_wp2_with fail
  have HC := Lib.hid (enc_start V x w)
  have HX := Lib.hid (enc_blk V x w)
  have HI := Lib.hid (enc_is h)
  have HB := Lib.hid (enc_below V x w)
  have HS := Lib.hid (enc_size V x w)
  unfold encW crtCells at HC HX HI HB HS
  clear h
  have H1 := Lib.hid (fun w1 h1 => own_any V x w1 h1 hl)
  unfold crtVal crtCells at H1
  generalize hw3 : ((w.alloc (.cells #[.int .i64 x.k, .slice V.a1 x.ord.length V.c1, .slice V.a2 x.outs.length V.c2, .slice V.a3 x.turn.length V.c3, .int .i64 x.outer, .slice V.a5 x.pts.length V.c5, .slice V.a6 x.lines.length V.c6, .slice V.a7 x.b0.length V.c7, .slice V.a8 x.b1.length V.c8, .slice V.a9 x.b2.length V.c9, .slice V.a10 x.b3.length V.c10, .slice V.a11 x.edges.length V.c11] 39)).alloc (.cells #[.int .u8 (x.k % 256)] 5)).alloc (.cells #[.bool false, .slice none 0 0, .slice (some ⟨w.heap.size + 1, 0, none⟩) 1 1, .bool false] 53) = w3 at *
  clear hw3
  refine (H1.out w3 (HI.out.more (by rw [HS.out]; omega))).mono ?_
  rintro e w4 ⟨rfl, hb4⟩
  have HC4 := Lib.hid (HC.out.only (Only.of_below hb4) (fun h => h) (fun _ _ h => h) (fun _ h => h.elim))
  have HX4 := Lib.hid (HX.out.below hb4 (by rw [HS.out]; omega))
  have HI4 := Lib.hid (HI.out.below (hb4.mono (by rw [HS.out]; omega)))
  have HB4 := Lib.hid (HB.out.trans (hb4.mono (by rw [HS.out]; omega)))
  clear hb4 HC HX HI HB H1
  by_cases hO : Owns x
  case neg =>
    have hd : decide (Owns x) = false := decide_eq_false hO
    have HN := Lib.hid (show encF x = none by unfold encF; rw [if_neg (fun h => hO h.1)])
    rw [hd]
    clear hd hO
    go_wp2_with fail
    go_ret2
    refine ⟨HB4.out, fun _ => rfl, fun b h => ?_⟩
    rw [HN.out] at h
    cases h
  have hd : decide (Owns x) = true := decide_eq_true hO
  have HO := Lib.hid hO
  rw [hd]
  clear hd hO
  go_wp2_with fail
  refine (walkW_any (w.heap.size + 1) (w.heap.size + 2) w.heap.size none 0 _ ⟨[], [x.k % 256], false⟩ V x w4 HC4.out (by simp) (by omega) HX4.out HI4.out).mono ?_
  rintro e w5 ⟨rfl, A5, c5, ov5, hc5, ho5, hf5⟩
  have HE := Lib.hid (show encF x = if Owns x ∧ (wAll x).1 = true ∧ (wAll x).2.bad = false then some (wAll x).2.out else none from rfl)
  have HA := Lib.hid (show wAll x = wWalk x ⟨[], [x.k % 256], false⟩ from rfl)
  rw [HA.out] at HE
  generalize wWalk x ⟨[], [x.k % 256], false⟩ = r at *
  have z2 := hc5.c2
  have z3 := hc5.c3
  have HC5 := Lib.hid hc5
  have HB5 := Lib.hid (HB4.out.trans (ho5.below (B := w.heap.size) (Nat.le_of_lt (Nat.lt_of_lt_of_le HX4.out.lt (Nat.le_refl _))) (fun i hi => by
    rcases hi with hi | hi | hi
    · omega
    · have := (HC4.out.olt i hi).1; omega
    · exact hi.elim)))
  clear hc5 ho5 hf5
  cases h1 : r.1 with
  | false =>
    have HN := Lib.hid (show encF x = none by rw [HE.out, if_neg (fun h => by rw [h1] at h; cases h.2.1)])
    clear h1
    go_wp2_with fail
    go_ret2
    refine ⟨HB5.out, fun _ => rfl, fun b h => ?_⟩
    rw [HN.out] at h
    cases h
  | true =>
    cases h2 : r.2.bad with
    | true =>
      have HN := Lib.hid (show encF x = none by rw [HE.out, if_neg (fun h => by rw [h2] at h; cases h.2.2)])
      rw [h2] at z3
      clear h1 h2
      go_wp2_with fail
      go_ret2
      refine ⟨HB5.out, fun _ => rfl, fun b h => ?_⟩
      rw [HN.out] at h
      cases h
    | false =>
      have HN := Lib.hid (show encF x = some r.2.out by rw [HE.out, if_pos ⟨HO.out, h1, h2⟩])
      rw [h2] at z3
      clear h1 h2
      have HW := Lib.hid HC5.out.own
      obtain ⟨A6, c6, rfl⟩ := own_slice HW.out
      have HL := Lib.hid (own_cap HW.out)
      go_wp2_with fail
      go_ret2
      refine ⟨HB5.out, fun h => ?_, fun b h => ?_⟩
      · rw [HN.out] at h
        cases h
      · rw [HN.out] at h
        injection h with h
        subst h
        exact ⟨A6, c6, rfl, HL.out, Cells.of_own HW.out⟩
end Go.Proofs.Ytmlbjcngboegfaa
