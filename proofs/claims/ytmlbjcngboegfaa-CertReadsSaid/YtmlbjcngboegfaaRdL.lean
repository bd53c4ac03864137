/-
  The reference's reader: numbers, lists, points. Printed by wip/C/rdl.py. Written by an AI agent.
-/
import Derived.Test.YtmlbjcngboegfaaRdN
import Derived.Test.YtmlbjcngboegfaaUnlike
namespace Go.Proofs.Ytmlbjcngboegfaa
open Go.RowKit

section
variable {w w' : World} {B gx : Nat} {A : Option Addr} {b : List Int} {c : Nat} {s : CS}
theorem InB.below {L : Nat} (h : InB w B gx A b c s) (hb : Below L w w') (hg : gx < L) : InB w' B gx A b c s := by
  obtain ⟨t, hx, ht, hi, hc, hB, hbb, hl⟩ := h
  exact ⟨t, hx.below hb hg, ht, hi, hc.below (hb.mono (by omega)), hB, hbb, hl⟩
theorem ox_below {L : Nat} {w'' : World} (h : OX gx w w') (hb : Below L w' w'') (hL : w.heap.size ≤ L) : OX gx w w'' :=
  ⟨hb.os.trans h.os, hb.tape.trans h.tape, hb.output.trans h.output, Nat.le_trans h.size hb.size, fun i hi hk => (hb.block i (Nat.lt_of_lt_of_le hi hL)).trans (h.block i hi hk)⟩
theorem ox_trans {w'' : World} (h : OX gx w w') (h2 : OX gx w' w'') : OX gx w w'' := h.trans h2 fun _ _ hi => hi
theorem own_ox {base size n : Nat} {e : TypeId} {v : Value} {xs : List Value} (h : w.ownsRow base e size v n xs) (ho : OX gx w w') (hg : gx < base) : w'.ownsRow base e size v n xs :=
  own_only h ho fun g hb (e : g = gx) => by have := (h.lt g hb).1; omega
end
/-- a list was read -/
def GotR {α : Type} (e : TypeId) (size : Nat) (G : World → Nat → List α → List Value → Prop) (B gx : Nat) (A : Option Addr) (b : List Int) (c : Nat) (w : World) (r : List α × CS) (en : Ending) (w' : World) : Prop :=
  ∃ v xs, en = .returned v ∧ w'.ownsRow w.heap.size e size v r.1.length xs ∧ G w' w.heap.size r.1 xs ∧ InB w' B gx A b c r.2 ∧ OX gx w w'
theorem gints_push {w w' : World} {base base' : Nat} {l : List Int} {x : Int} {xs : List Value} (h : GInts w base l xs) : GInts w' base' (l ++ [x]) (xs ++ [.int .i64 x]) := by
  unfold GInts at h ⊢; subst h; simp [intCells]
theorem gpts_push {w w' : World} {base base' : Nat} {l : List (Int × Int)} {x : Int × Int} {xs : List Value} (h : GPts w base l xs) : GPts w' base' (l ++ [x]) (xs ++ [.int .i64 x.1, .int .i64 x.2]) := by
  unfold GPts at h ⊢; subst h; simp [edgeCells]
theorem pt_info {cs : Array Value} (h : cs.size = 2) : (Try.prog.info? 85).map (·.size) = some cs.size := by rw [h]; kernel_rfl
theorem grows_nil {w : World} {base : Nat} : GRows w base [] [] := ⟨rfl, fun j hj => absurd hj (Nat.not_lt_zero j)⟩
theorem glines_nil {w : World} {base : Nat} : GLines w base [] [] := ⟨rfl, fun j hj => absurd hj (Nat.not_lt_zero j)⟩

set_option maxRecDepth 20000 in
set_option maxHeartbeats 4000000 in
theorem rnumbers_any (B gx : Nat) (A : Option Addr) (b : List Int) (c : Nat) (s : CS) (w : World) (h : InB w B gx A b c s) :
    Calls Try.prog 28 #[.pointer (some ⟨gx, 0, none⟩)] w (GotR 3 1 GInts B gx A b c w (nInts s)) := by
  have H := Lib.hid h
  have hgw := h.lt
  have hb0 := (Below.refl w.heap.size w).alloc (Nat.le_refl _) (.cells #[] 3)
  have hz0 : (w.alloc (.cells #[] 3)).heap.size = w.heap.size + 1 := by simp
  have HI0 := Lib.hid (h.below hb0 hgw)
  have HO0 := Lib.hid (ox_below (Only.refl (fun i => i = gx) w) hb0 (Nat.le_refl _))
  have HW0 := Lib.hid (show (w.alloc (.cells #[] 3)).ownsRow w.heap.size 3 1 (.slice (some ⟨w.heap.size, 0, none⟩) 0 0) 0 [] from own_of_blk (blk_new' _ _ _ _ rfl) (Nat.le_refl _) rfl (by omega))
  have hnn := rCount_le h.byt
  clear h hb0
  go_enter Try.func28, Try.ntmps28
  go_wp2_with fail
  generalize w.alloc (.cells #[] 3) = w0 at *
  refine (count_any B gx A b c s w0 HI0.out).mono ?_
  rintro e w1 ⟨rfl, hi1, ho1⟩
  have HW1 := Lib.hid (own_ox HW0.out ho1 hgw)
  have HI1 := Lib.hid hi1
  have HO1 := Lib.hid (ox_trans HO0.out ho1)
  have HN := Lib.hid (show nInts s = rLoop nGet (rCount s).1 (rCount s).2 from rfl)
  generalize (rCount s).2 = s0 at *
  generalize (rCount s).1 = N at *
  clear hi1 ho1 HI0 HW0 HO0
  go_wp2_with fail
  go_loopg [3, 4] N (fun k s3 s4 wr => ∃ (n : Nat) (done : List (Int)) (xs : List Value) (s1 : CS) (A1 : Option Addr) (c1 : Nat), s4 = .int .i64 n ∧ k = n ∧ done.length + n = N ∧ s3 = .slice A1 done.length c1 ∧ nInts s = (done ++ (rLoop nGet n s1).1, (rLoop nGet n s1).2) ∧ InB wr B gx A b c s1 ∧ OX gx w wr ∧ wr.ownsRow w.heap.size 3 1 (.slice A1 done.length c1) done.length xs ∧ GInts wr w.heap.size done xs)
  case atStart => exact ⟨N, [], [], s0, _, _, rfl, rfl, Nat.zero_add _, rfl, HN.out, HI1.out, HO1.out, HW1.out, rfl⟩
  case round =>
    clear HN HI1 HO1 HW1
    obtain ⟨n, done, xs, s1, A1, c1, rfl, hk, hdl, rfl, hw, hi, ho, hown, hG⟩ := hrel
    have z2 := hi.cbad
    have hsz := ho.size
    have Hk := Lib.hid hk
    have Hw := Lib.hid hw
    have Hi := Lib.hid hi
    have Ho := Lib.hid ho
    have Hown := Lib.hid hown
    have HG := Lib.hid hG
    have Hdl := Lib.hid hdl
    clear hk hw hi ho hown hG hdl
    have HEnd := Lib.hid (fun (e : rLoop nGet n s1 = ([], s1)) => show GotR 3 1 GInts B gx A b c w (nInts s) (.returned (.slice A1 done.length c1)) wr from by
      rw [Hw.out, e, List.append_nil]
      exact ⟨_, xs, rfl, Hown.out, HG.out, Hi.out, Ho.out⟩)
    by_cases hlt : 0 < n
    · have hlt' : (0 : Int) < n := by omega
      cases hbad : s1.bad with
      | true =>
        rw [hbad] at z2
        have HR := Lib.hid (HEnd.out (rLoop_stop _ hbad))
        clear hbad HEnd
        go_wp2_with fail
        go_ret
        exact HR.out
      | false =>
        rw [hbad] at z2
        have Hgo := Lib.hid (rLoop_go (each := nGet) (k := n - 1) hbad)
        rw [show n - 1 + 1 = n by omega] at Hgo
        have hwn : wrap64 ((n : Int) - 1) = ((n - 1 : Nat) : Int) := by have := Hdl.out; unfold wrap64; omega
        have hdN : done.length + 1 ≤ 128 := by have := Hdl.out; omega
        clear hbad HEnd
        go_wp2_with fail
        refine (nget_any B gx A b c s1 wr Hi.out).mono ?_
        rintro e w2 ⟨rfl, hi2, ho2⟩
        generalize (nGet s1).2 = s2 at *
        generalize (nGet s1).1 = y at *
        have HI2 := Lib.hid hi2
        have HO2 := Lib.hid (ox_trans Ho.out ho2)
        have hown2 := own_ox Hown.out ho2 hgw
        have hsz2 := HO2.out.size
        clear hi2 ho2 z2
        go_wp2_with (at_builtin; refine wp_app elemInt rfl _ _ rfl w.heap.size (.slice A1 done.length c1) _ _ rfl w2.heap.size [.int .i64 y] rfl rfl hown2 rfl rfl ?_ ?_ hsz2 ?_)
        · omega
        · omega
        intro v' w3 hown3 hg3 _
        have hb3 := below_app (Below.refl w.heap.size _) hown2 hg3 hsz2 (Nat.le_refl _)
        obtain ⟨A3, c3, rfl⟩ := own_slice hown3
        have HI3 := Lib.hid (HI2.out.below hb3 hgw)
        have HO3 := Lib.hid (ox_below HO2.out hb3 (Nat.le_refl _))
        have HW3 := Lib.hid hown3
        have HG3 := Lib.hid (gints_push (w' := w3) (base' := w.heap.size) (x := y) HG.out)
        clear hown2 hown3 hg3 hb3
        go_wp2_with fail
        go_roundg (n - 1)
        case measure => rw [Hk.out]; omega
        case rel => exact ⟨n - 1, done ++ [y], xs ++ [.int .i64 y], s2, A3, c3, by first | rw [hwn] | go_num, rfl, by rw [List.length_append, List.length_singleton]; have := Hdl.out; omega, by rw [List.length_append, List.length_singleton], by rw [Hw.out, Hgo.out]; simp, HI3.out, HO3.out, by rw [List.length_append, List.length_singleton]; exact HW3.out, HG3.out⟩
    · have hn0 : n = 0 := by omega
      have hlt' : ¬ (0 : Int) < n := by omega
      have HR := Lib.hid (HEnd.out (by rw [hn0]; rfl))
      clear HEnd
      go_wp2_with fail
      go_ret
      exact HR.out

set_option maxRecDepth 20000 in
set_option maxHeartbeats 4000000 in
theorem rlists_any (B gx : Nat) (A : Option Addr) (b : List Int) (c : Nat) (s : CS) (w : World) (h : InB w B gx A b c s) :
    Calls Try.prog 29 #[.pointer (some ⟨gx, 0, none⟩)] w (GotR 22 1 GRows B gx A b c w (nRows s)) := by
  have H := Lib.hid h
  have hgw := h.lt
  have hb0 := (Below.refl w.heap.size w).alloc (Nat.le_refl _) (.cells #[] 22)
  have hz0 : (w.alloc (.cells #[] 22)).heap.size = w.heap.size + 1 := by simp
  have HI0 := Lib.hid (h.below hb0 hgw)
  have HO0 := Lib.hid (ox_below (Only.refl (fun i => i = gx) w) hb0 (Nat.le_refl _))
  have HW0 := Lib.hid (show (w.alloc (.cells #[] 22)).ownsRow w.heap.size 22 1 (.slice (some ⟨w.heap.size, 0, none⟩) 0 0) 0 [] from own_of_blk (blk_new' _ _ _ _ rfl) (Nat.le_refl _) rfl (by omega))
  have hnn := rCount_le h.byt
  clear h hb0
  go_enter Try.func29, Try.ntmps29
  go_wp2_with fail
  generalize w.alloc (.cells #[] 22) = w0 at *
  refine (count_any B gx A b c s w0 HI0.out).mono ?_
  rintro e w1 ⟨rfl, hi1, ho1⟩
  have HW1 := Lib.hid (own_ox HW0.out ho1 hgw)
  have HI1 := Lib.hid hi1
  have HO1 := Lib.hid (ox_trans HO0.out ho1)
  have HN := Lib.hid (show nRows s = rLoop nInts (rCount s).1 (rCount s).2 from rfl)
  generalize (rCount s).2 = s0 at *
  generalize (rCount s).1 = N at *
  clear hi1 ho1 HI0 HW0 HO0
  go_wp2_with fail
  go_loopg [3, 4] N (fun k s3 s4 wr => ∃ (n : Nat) (done : List (List Int)) (xs : List Value) (s1 : CS) (A1 : Option Addr) (c1 : Nat), s4 = .int .i64 n ∧ k = n ∧ done.length + n = N ∧ s3 = .slice A1 done.length c1 ∧ nRows s = (done ++ (rLoop nInts n s1).1, (rLoop nInts n s1).2) ∧ InB wr B gx A b c s1 ∧ OX gx w wr ∧ wr.ownsRow w.heap.size 22 1 (.slice A1 done.length c1) done.length xs ∧ GRows wr w.heap.size done xs)
  case atStart => exact ⟨N, [], [], s0, _, _, rfl, rfl, Nat.zero_add _, rfl, HN.out, HI1.out, HO1.out, HW1.out, grows_nil⟩
  case round =>
    clear HN HI1 HO1 HW1
    obtain ⟨n, done, xs, s1, A1, c1, rfl, hk, hdl, rfl, hw, hi, ho, hown, hG⟩ := hrel
    have z2 := hi.cbad
    have hsz := ho.size
    have Hk := Lib.hid hk
    have Hw := Lib.hid hw
    have Hi := Lib.hid hi
    have Ho := Lib.hid ho
    have Hown := Lib.hid hown
    have HG := Lib.hid hG
    have Hdl := Lib.hid hdl
    clear hk hw hi ho hown hG hdl
    have HEnd := Lib.hid (fun (e : rLoop nInts n s1 = ([], s1)) => show GotR 22 1 GRows B gx A b c w (nRows s) (.returned (.slice A1 done.length c1)) wr from by
      rw [Hw.out, e, List.append_nil]
      exact ⟨_, xs, rfl, Hown.out, HG.out, Hi.out, Ho.out⟩)
    by_cases hlt : 0 < n
    · have hlt' : (0 : Int) < n := by omega
      cases hbad : s1.bad with
      | true =>
        rw [hbad] at z2
        have HR := Lib.hid (HEnd.out (rLoop_stop _ hbad))
        clear hbad HEnd
        go_wp2_with fail
        go_ret
        exact HR.out
      | false =>
        rw [hbad] at z2
        have Hgo := Lib.hid (rLoop_go (each := nInts) (k := n - 1) hbad)
        rw [show n - 1 + 1 = n by omega] at Hgo
        have hwn : wrap64 ((n : Int) - 1) = ((n - 1 : Nat) : Int) := by have := Hdl.out; unfold wrap64; omega
        have hdN : done.length + 1 ≤ 128 := by have := Hdl.out; omega
        clear hbad HEnd
        go_wp2_with fail
        have hgxr : ∀ cs, ¬ Blk wr gx 3 cs := fun cs hb => by
          obtain ⟨t, hx, _⟩ := Hi.out
          exact absurd (blk_ty hx hb) (by decide)
        have Hgxr := Lib.hid hgxr
        clear hgxr
        refine (rnumbers_any B gx A b c s1 wr Hi.out).mono ?_
        rintro e w2 ⟨v2, ys, rfl, hw2, hy2, hi2, ho2⟩
        obtain ⟨A2, c2, rfl⟩ := own_slice hw2
        have hG2 := grows_keep _ _ _ _ _ _ HG.out ho2 fun i hi cs hb => by
          have e : i = gx := hi
          subst e
          exact Hgxr.out cs hb
        generalize (nInts s1).2 = s2 at *
        generalize (nInts s1).1 = y at *
        have hy2 : ys = intCells y := hy2
        subst hy2
        have HI2 := Lib.hid hi2
        have HO2 := Lib.hid (ox_trans Ho.out ho2)
        have hown2 := own_ox Hown.out ho2 hgw
        have hsz2 := HO2.out.size
        have HG2 := Lib.hid hG2
        have HW2 := Lib.hid hw2
        clear hi2 ho2 z2 hG2 hw2
        go_wp2_with (at_builtin; refine wp_app elemRow rfl _ _ rfl w.heap.size (.slice A1 done.length c1) _ _ rfl w2.heap.size [.slice A2 y.length c2] rfl rfl hown2 rfl rfl ?_ ?_ hsz2 ?_)
        · omega
        · omega
        intro v' w3 hown3 hg3 _
        have hb3 := below_app (Below.refl w.heap.size _) hown2 hg3 hsz2 (Nat.le_refl _)
        have hty : ∀ g, (Value.slice A1 done.length c1).ownBlock = some g → ∀ cs, ¬ Blk w2 g 3 cs := fun g hg cs hb => by
          obtain ⟨_, b2⟩ := own_ty hown2 hg
          exact absurd (blk_ty b2 hb) (by decide)
        have hG3 := grows_keep _ _ _ _ _ _ HG2.out (Only.grown hg3) fun i hi cs hb => hty i hi cs hb
        have hu3 := own_only HW2.out (Only.grown hg3) fun g hg e => by
          obtain ⟨_, b2⟩ := own_ty HW2.out hg
          exact hty g e _ b2
        obtain ⟨A3, c3, rfl⟩ := own_slice hown3
        have HI3 := Lib.hid (HI2.out.below hb3 hgw)
        have HO3 := Lib.hid (ox_below HO2.out hb3 (Nat.le_refl _))
        have HW3 := Lib.hid hown3
        have HG3 := Lib.hid (grows_push hG3 hu3 hsz)
        clear hown2 hown3 hg3 hb3 hty hG3 hu3
        go_wp2_with fail
        go_roundg (n - 1)
        case measure => rw [Hk.out]; omega
        case rel => exact ⟨n - 1, done ++ [y], xs ++ [.slice A2 y.length c2], s2, A3, c3, by first | rw [hwn] | go_num, rfl, by rw [List.length_append, List.length_singleton]; have := Hdl.out; omega, by rw [List.length_append, List.length_singleton], by rw [Hw.out, Hgo.out]; simp, HI3.out, HO3.out, by rw [List.length_append, List.length_singleton]; exact HW3.out, HG3.out⟩
    · have hn0 : n = 0 := by omega
      have hlt' : ¬ (0 : Int) < n := by omega
      have HR := Lib.hid (HEnd.out (by rw [hn0]; rfl))
      clear HEnd
      go_wp2_with fail
      go_ret
      exact HR.out
end Go.Proofs.Ytmlbjcngboegfaa
