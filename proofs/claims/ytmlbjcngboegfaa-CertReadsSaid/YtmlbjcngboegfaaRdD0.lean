/-
  The reference's Decode: kind 0. Printed by wip/C/rdd.py. Written by an AI agent.
-/
import Derived.Test.YtmlbjcngboegfaaRdW
namespace Go.Proofs.Ytmlbjcngboegfaa
open Go.RowKit

set_option maxRecDepth 100000 in
set_option maxHeartbeats 4000000 in
theorem refDec_0 (A : Option Addr) (b : List Int) (c : Nat) (w : World) (h : Cells w w.heap.size A (byteCells b)) (hb : Bytes b) (hl : b.length ≤ 100000000) (k : Int) (hr : k < 1 ∨ 6 < k) (hk : (rNext (startS b)).1 = k) : Calls Try.prog 15 #[.slice A b.length c] w (RefDecPost b w) := by
  have HI0 := Lib.hid (rdW_in (c := c) h hb hl)
  have HR0 := Lib.hid (rdW_blk A b c w)
  have HB0 := Lib.hid (rdW_below A b c w)
  have HZ0 := Lib.hid (rdW_size A b c w)
  have HK := Lib.hid hk
  have HD := Lib.hid (show refD b = none by unfold refD; rw [hk, if_pos hr])
  clear h hb hl hk
  unfold rdW crtCells CV0 bare at HI0 HR0 HB0 HZ0
  simp only [List.length_nil] at HI0 HR0 HB0 HZ0
  go_enter Try.func15, Try.ntmps15
  go_wp2_with fail
  generalize hw0 : (w.alloc (.cells #[.int .i64 0, .slice none 0 0, .slice none 0 0, .slice none 0 0, .int .i64 0, .slice none 0 0, .slice none 0 0, .slice none 0 0, .slice none 0 0, .slice none 0 0, .slice none 0 0, .slice none 0 0] 32)).alloc (.cells #[.slice A b.length c, .int .i64 0, .bool false] 68) = w0 at *
  clear hw0
  refine (take_any w.heap.size (w.heap.size + 1) A b c (startS b) w0 HI0.out).mono ?_
  rintro e w1 ⟨rfl, hi1, ho1⟩
  rw [HK.out]
  have hg := ho1.size
  rw [HZ0.out] at hg
  have HR1 := Lib.hid (HR0.out.only ho1 (fun e => absurd e (by omega)))
  have HB1 := Lib.hid (HB0.out.trans ((ho1.below (B := w.heap.size) (by rw [HZ0.out]; omega) (fun i hi => by have hi : i = w.heap.size + 1 := hi; omega))))
  generalize (rNext (startS b)).2 = s1 at *
  have HI1 := Lib.hid hi1
  clear hi1 ho1 HI0 HR0 HB0 HZ0
  have HC2 := Lib.hid (Blk.new w1 32 #[.int .i64 k, .slice none 0 0, .slice none 0 0, .slice none 0 0, .int .i64 0, .slice none 0 0, .slice none 0 0, .slice none 0 0, .slice none 0 0, .slice none 0 0, .slice none 0 0, .slice none 0 0])
  have hb2 := (Below.refl w1.heap.size w1).alloc (Nat.le_refl _) (.cells #[.int .i64 k, .slice none 0 0, .slice none 0 0, .slice none 0 0, .int .i64 0, .slice none 0 0, .slice none 0 0, .slice none 0 0, .slice none 0 0, .slice none 0 0, .slice none 0 0, .slice none 0 0] 32)
  have HI2 := Lib.hid (HI1.out.below hb2 (by omega))
  have HR2 := Lib.hid (HR1.out.below hb2 (by omega))
  have HB2 := Lib.hid (HB1.out.trans (hb2.mono (by omega)))
  have hz2 : w1.heap.size + 1 ≤ (w1.alloc (.cells #[.int .i64 k, .slice none 0 0, .slice none 0 0, .slice none 0 0, .int .i64 0, .slice none 0 0, .slice none 0 0, .slice none 0 0, .slice none 0 0, .slice none 0 0, .slice none 0 0, .slice none 0 0] 32)).heap.size := by simp
  clear HI1 HR1 HB1 hb2
  go_upto_region 3 with fail
  generalize w1.alloc (.cells #[.int .i64 k, .slice none 0 0, .slice none 0 0, .slice none 0 0, .int .i64 0, .slice none 0 0, .slice none 0 0, .slice none 0 0, .slice none 0 0, .slice none 0 0, .slice none 0 0, .slice none 0 0] 32) = w2 at *
  have q0 := HC2.out.cell 0
  simp only [List.getElem?_toArray, List.getElem?_cons_zero, List.getElem?_cons_succ] at q0
  have u0 := HR2.out.cell 0
  have u1 := HR2.out.cell 1
  have u2 := HR2.out.cell 2
  have u3 := HR2.out.cell 3
  have u4 := HR2.out.cell 4
  have u5 := HR2.out.cell 5
  have u6 := HR2.out.cell 6
  have u7 := HR2.out.cell 7
  have u8 := HR2.out.cell 8
  have u9 := HR2.out.cell 9
  have u10 := HR2.out.cell 10
  have u11 := HR2.out.cell 11
  simp only [List.getElem?_toArray, List.getElem?_cons_zero, List.getElem?_cons_succ] at u0 u1 u2 u3 u4 u5 u6 u7 u8 u9 u10 u11
  have p0 := HR2.out.frozen 0
  have p1 := HR2.out.frozen 1
  have p2 := HR2.out.frozen 2
  have p3 := HR2.out.frozen 3
  have p4 := HR2.out.frozen 4
  have p5 := HR2.out.frozen 5
  have p6 := HR2.out.frozen 6
  have p7 := HR2.out.frozen 7
  have p8 := HR2.out.frozen 8
  have p9 := HR2.out.frozen 9
  have p10 := HR2.out.frozen 10
  have p11 := HR2.out.frozen 11
  have HH := Lib.hid hr
  clear hr
  by_cases h1 : k < 1
  · go_wp2_with fail
    refine bodyPost_ret (rdec_results rfl rfl (set12_blk HR2.out rfl ..) rfl) rfl ?_
    exact ⟨set12_below HB2.out (Nat.le_refl _) .., fun _ => rfl, fun x hx => by rw [HD.out] at hx; cases hx⟩
  · have h6 : 6 < k := by have := HH.out; omega
    go_wp2_with fail
    refine bodyPost_ret (rdec_results rfl rfl (set12_blk HR2.out rfl ..) rfl) rfl ?_
    exact ⟨set12_below HB2.out (Nat.le_refl _) .., fun _ => rfl, fun x hx => by rw [HD.out] at hx; cases hx⟩
end Go.Proofs.Ytmlbjcngboegfaa
