/-
  The reference's reader: points. Printed by wip/C/rdl.py. Written by an AI agent.
-/
import Derived.Test.YtmlbjcngboegfaaRdL
namespace Go.Proofs.Ytmlbjcngboegfaa
open Go.RowKit

set_option maxRecDepth 20000 in
set_option maxHeartbeats 4000000 in
theorem rpoints_any (B gx : Nat) (A : Option Addr) (b : List Int) (c : Nat) (s : CS) (w : World) (h : InB w B gx A b c s) :
    Calls Try.prog 31 #[.pointer (some ⟨gx, 0, none⟩)] w (GotR 85 2 GPts B gx A b c w (nPts s)) := by
  have H := Lib.hid h
  have hgw := h.lt
  have hb0 := (Below.refl w.heap.size w).alloc (Nat.le_refl _) (.cells #[] 85)
  have hz0 : (w.alloc (.cells #[] 85)).heap.size = w.heap.size + 1 := by simp
  have HI0 := Lib.hid (h.below hb0 hgw)
  have HO0 := Lib.hid (ox_below (Only.refl (fun i => i = gx) w) hb0 (Nat.le_refl _))
  have HW0 := Lib.hid (show (w.alloc (.cells #[] 85)).ownsRow w.heap.size 85 2 (.slice (some ⟨w.heap.size, 0, none⟩) 0 0) 0 [] from ⟨rfl, .inr ⟨w.heap.size, 0, _, rfl, Nat.le_refl _, Blk.new _ _ _, Nat.le_refl _, by unfold maxLen; omega, by simp, by simp⟩⟩)
  have hnn := rCount_le h.byt
  clear h hb0
  go_enter Try.func31, Try.ntmps31
  go_wp2_with fail
  generalize w.alloc (.cells #[] 85) = w0 at *
  refine (count_any B gx A b c s w0 HI0.out).mono ?_
  rintro e w1 ⟨rfl, hi1, ho1⟩
  have HW1 := Lib.hid (own_ox HW0.out ho1 hgw)
  have HI1 := Lib.hid hi1
  have HO1 := Lib.hid (ox_trans HO0.out ho1)
  have HN := Lib.hid (show nPts s = rLoop nPt (rCount s).1 (rCount s).2 from rfl)
  generalize (rCount s).2 = s0 at *
  generalize (rCount s).1 = N at *
  clear hi1 ho1 HI0 HW0 HO0
  go_wp2_with fail
  go_loopg [3, 4] N (fun k s3 s4 wr => ∃ (n : Nat) (done : List (Int × Int)) (xs : List Value) (s1 : CS) (A1 : Option Addr) (c1 : Nat), s4 = .int .i64 n ∧ k = n ∧ done.length + n = N ∧ s3 = .slice A1 done.length c1 ∧ nPts s = (done ++ (rLoop nPt n s1).1, (rLoop nPt n s1).2) ∧ InB wr B gx A b c s1 ∧ OX gx w wr ∧ wr.ownsRow w.heap.size 85 2 (.slice A1 done.length c1) done.length xs ∧ GPts wr w.heap.size done xs)
  case atStart => exact ⟨N, [], [], s0, _, _, rfl, rfl, Nat.zero_add _, rfl, HN.out, HI1.out, HO1.out, HW1.out, rfl⟩
  case round =>
    clear HN HI1 HO1 HW1
    obtain ⟨n, done, xs, s1, A1, c1, rfl, hk, hdl, rfl, hw, hi, ho, hown, hG⟩ := hrel
    have z2 := hi.cbad
    have hsz := ho.size
    have Hk := Lib.hid hk
    have Hw := Lib.hid hw
    have Hi := Lib.hid hi
    have Ho := Lib.hid ho
    have Hown := Lib.hid hown
    have HG := Lib.hid hG
    have Hdl := Lib.hid hdl
    clear hk hw hi ho hown hG hdl
    have HEnd := Lib.hid (fun (e : rLoop nPt n s1 = ([], s1)) => show GotR 85 2 GPts B gx A b c w (nPts s) (.returned (.slice A1 done.length c1)) wr from by
      rw [Hw.out, e, List.append_nil]
      exact ⟨_, xs, rfl, Hown.out, HG.out, Hi.out, Ho.out⟩)
    by_cases hlt : 0 < n
    · have hlt' : (0 : Int) < n := by omega
      cases hbad : s1.bad with
      | true =>
        rw [hbad] at z2
        have HR := Lib.hid (HEnd.out (rLoop_stop _ hbad))
        clear hbad HEnd
        go_wp2_with fail
        go_ret
        exact HR.out
      | false =>
        rw [hbad] at z2
        have Hgo := Lib.hid (rLoop_go (each := nPt) (k := n - 1) hbad)
        rw [show n - 1 + 1 = n by omega] at Hgo
        have hwn : wrap64 ((n : Int) - 1) = ((n - 1 : Nat) : Int) := by have := Hdl.out; unfold wrap64; omega
        have hdN : done.length + 1 ≤ 128 := by have := Hdl.out; omega
        clear hbad HEnd
        go_wp2_with fail
        refine (nget_any B gx A b c s1 wr Hi.out).mono ?_
        rintro e w2 ⟨rfl, hi2, ho2⟩
        generalize hsA : (nGet s1).2 = sA at *
        generalize hyA : (nGet s1).1 = y at *
        have HsA := Lib.hid (And.intro hsA hyA)
        have hsz2 := Nat.le_trans hsz ho2.size
        have hbq := (Below.refl w2.heap.size w2).alloc (Nat.le_refl _) (.cells #[.int .i64 y, .int .i64 0] 85)
        have HIq := Lib.hid (hi2.below hbq hi2.lt)
        have HOq := Lib.hid (ox_below (ox_trans Ho.out ho2) hbq hsz2)
        have HWq := Lib.hid (own_below (own_ox Hown.out ho2 hgw) hbq (Nat.le_refl _))
        have Hne := Lib.hid (fun (g : Nat) (hg : (Value.slice A1 done.length c1).ownBlock = some g) (e : g = w2.heap.size) => (by have := (own_ox Hown.out ho2 hgw).lt g hg; omega : False))
        have HP := Lib.hid (Blk.new w2 85 #[.int .i64 y, .int .i64 0])
        clear hi2 ho2 z2 hsA hyA hbq
        go_wp2_with fail
        generalize w2.alloc (.cells #[.int .i64 y, .int .i64 0] 85) = wq at *
        refine (nget_any B gx A b c sA wq HIq.out).mono ?_
        rintro e w4 ⟨rfl, hi4, ho4⟩
        generalize hsB : (nGet sA).2 = s2 at *
        generalize hyB : (nGet sA).1 = z at *
        have HsB := Lib.hid (And.intro hsB hyB)
        have hP4 := HP.out.only ho4 (fun e => by have e : w2.heap.size = gx := e; omega)
        have f1 := hP4.frozen 1
        have z1 : w4.cell? ⟨w2.heap.size, 1, none⟩ = some (.int .i64 0) := hP4.cell 1
        have hb5 := (Below.refl w2.heap.size w4).setCell (p := ⟨w2.heap.size, 1, none⟩) (Nat.le_refl _) (.int .i64 z)
        have hP5 := hP4.set_ 1 (.int .i64 z)
        have HI5 := Lib.hid (hi4.below hb5 (by omega))
        have HO5 := Lib.hid (ox_below (ox_trans HOq.out ho4) hb5 hsz2)
        have hown5 := own_ox HWq.out ho4 hgw
        have hsz45 := ho4.size
        have hq0 : w2.heap.size < wq.heap.size := HP.out.lt
        have hown5' := own_only hown5 (Only.set_ w4 w2.heap.size 1 (.int .i64 z)) fun g hg e => Hne.out g hg e
        have hP5' : Blk (w4.setCell ⟨w2.heap.size, 1, none⟩ (.int .i64 z)) w2.heap.size 85 #[.int .i64 y, .int .i64 z] := hP5
        have hz5 : (w4.setCell ⟨w2.heap.size, 1, none⟩ (.int .i64 z)).heap.size = w4.heap.size := by simp [World.setCell]
        clear hown5 hP5 hb5 hi4 ho4 hsB hyB
        go_upto_region 7 with fail
        generalize w4.setCell ⟨w2.heap.size, 1, none⟩ (.int .i64 z) = w5 at *
        have hsz5 : w.heap.size ≤ w5.heap.size := by omega
        clear hP4 f1 z1 hz5
        go_wp2_with (first | (refine wpl_load rfl _ _ rfl w2.heap.size rfl 85 #[.int .i64 y, .int .i64 z] _ hP5' Try.underlying85 rfl (pt_info rfl) ?_) | (at_builtin; refine wp_app elemPt rfl _ _ rfl w.heap.size (.slice A1 done.length c1) _ _ rfl w5.heap.size [.int .i64 y, .int .i64 z] rfl rfl hown5' rfl rfl ?_ ?_ hsz5 ?_))
        · omega
        · omega
        intro v' w3 hown3 hg3 _
        have hb3 := below_app (Below.refl w.heap.size _) hown5' hg3 hsz5 (Nat.le_refl _)
        obtain ⟨A3, c3, rfl⟩ := own_slice hown3
        have HI3 := Lib.hid (HI5.out.below hb3 hgw)
        have HO3 := Lib.hid (ox_below HO5.out hb3 (Nat.le_refl _))
        have HW3 := Lib.hid hown3
        have HG3 := Lib.hid (gpts_push (w' := w3) (base' := w.heap.size) (x := (y, z)) HG.out)
        have HPT := Lib.hid (show nPt s1 = ((y, z), s2) by unfold nPt; rw [HsA.out.1, HsA.out.2, HsB.out.1, HsB.out.2])
        clear hown5' hown3 hg3 hb3
        go_wp2_with fail
        go_roundg (n - 1)
        case measure => rw [Hk.out]; omega
        case rel => exact ⟨n - 1, done ++ [(y, z)], xs ++ [.int .i64 y, .int .i64 z], s2, A3, c3, by first | rw [hwn] | go_num, rfl, by rw [List.length_append, List.length_singleton]; have := Hdl.out; omega, by rw [List.length_append, List.length_singleton], by rw [Hw.out, Hgo.out, HPT.out]; simp, HI3.out, HO3.out, by rw [List.length_append, List.length_singleton]; exact HW3.out, HG3.out⟩
    · have hn0 : n = 0 := by omega
      have hlt' : ¬ (0 : Int) < n := by omega
      have HR := Lib.hid (HEnd.out (by rw [hn0]; rfl))
      clear HEnd
      go_wp2_with fail
      go_ret
      exact HR.out
end Go.Proofs.Ytmlbjcngboegfaa
