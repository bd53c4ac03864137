/-
  The reference's Decode: kind 4. Printed by wip/C/rdd.py. Written by an AI agent.
-/
import Derived.Test.YtmlbjcngboegfaaRdW
namespace Go.Proofs.Ytmlbjcngboegfaa
open Go.RowKit

set_option maxRecDepth 100000 in
set_option maxHeartbeats 4000000 in
theorem refDec_4 (A : Option Addr) (b : List Int) (c : Nat) (w : World) (h : Cells w w.heap.size A (byteCells b)) (hb : Bytes b) (hl : b.length ≤ 100000000) (hk : (rNext (startS b)).1 = 4) : Calls Try.prog 15 #[.slice A b.length c] w (RefDecPost b w) := by
  have HI0 := Lib.hid (rdW_in (c := c) h hb hl)
  have HR0 := Lib.hid (rdW_blk A b c w)
  have HB0 := Lib.hid (rdW_below A b c w)
  have HZ0 := Lib.hid (rdW_size A b c w)
  have HK := Lib.hid hk
  have HD := Lib.hid (show refD b = if (refRead 4 (rNext (startS b)).2).2.bad = true ∨ (refRead 4 (rNext (startS b)).2).2.inn ≠ [] then none else some (refRead 4 (rNext (startS b)).2).1 by unfold refD; rw [hk, if_neg (by decide)])
  clear h hb hl hk
  unfold rdW crtCells CV0 bare at HI0 HR0 HB0 HZ0
  simp only [List.length_nil] at HI0 HR0 HB0 HZ0
  go_enter Try.func15, Try.ntmps15
  go_wp2_with fail
  generalize hw0 : (w.alloc (.cells #[.int .i64 0, .slice none 0 0, .slice none 0 0, .slice none 0 0, .int .i64 0, .slice none 0 0, .slice none 0 0, .slice none 0 0, .slice none 0 0, .slice none 0 0, .slice none 0 0, .slice none 0 0] 32)).alloc (.cells #[.slice A b.length c, .int .i64 0, .bool false] 68) = w0 at *
  clear hw0
  refine (take_any w.heap.size (w.heap.size + 1) A b c (startS b) w0 HI0.out).mono ?_
  rintro e w1 ⟨rfl, hi1, ho1⟩
  rw [HK.out]
  have hg := ho1.size
  rw [HZ0.out] at hg
  have HR1 := Lib.hid (HR0.out.only ho1 (fun e => absurd e (by omega)))
  have HB1 := Lib.hid (HB0.out.trans ((ho1.below (B := w.heap.size) (by rw [HZ0.out]; omega) (fun i hi => by have hi : i = w.heap.size + 1 := hi; omega))))
  generalize (rNext (startS b)).2 = s1 at *
  have HI1 := Lib.hid hi1
  clear hi1 ho1 HI0 HR0 HB0 HZ0
  have HC2 := Lib.hid (Blk.new w1 32 #[.int .i64 4, .slice none 0 0, .slice none 0 0, .slice none 0 0, .int .i64 0, .slice none 0 0, .slice none 0 0, .slice none 0 0, .slice none 0 0, .slice none 0 0, .slice none 0 0, .slice none 0 0])
  have hb2 := (Below.refl w1.heap.size w1).alloc (Nat.le_refl _) (.cells #[.int .i64 4, .slice none 0 0, .slice none 0 0, .slice none 0 0, .int .i64 0, .slice none 0 0, .slice none 0 0, .slice none 0 0, .slice none 0 0, .slice none 0 0, .slice none 0 0, .slice none 0 0] 32)
  have HI2 := Lib.hid (HI1.out.below hb2 (by omega))
  have HR2 := Lib.hid (HR1.out.below hb2 (by omega))
  have HB2 := Lib.hid (HB1.out.trans (hb2.mono (by omega)))
  have hz2 : w1.heap.size + 1 ≤ (w1.alloc (.cells #[.int .i64 4, .slice none 0 0, .slice none 0 0, .slice none 0 0, .int .i64 0, .slice none 0 0, .slice none 0 0, .slice none 0 0, .slice none 0 0, .slice none 0 0, .slice none 0 0, .slice none 0 0] 32)).heap.size := by simp
  clear HI1 HR1 HB1 hb2
  go_upto_region 3 with fail
  generalize w1.alloc (.cells #[.int .i64 4, .slice none 0 0, .slice none 0 0, .slice none 0 0, .int .i64 0, .slice none 0 0, .slice none 0 0, .slice none 0 0, .slice none 0 0, .slice none 0 0, .slice none 0 0, .slice none 0 0] 32) = w2 at *
  have q0 := HC2.out.cell 0
  simp only [List.getElem?_toArray, List.getElem?_cons_zero, List.getElem?_cons_succ] at q0
  go_wp2_with fail
  refine wp_loop_rounds 6 ?_
  rw [rounds_succ]
  have q3 := HC2.out.cell 7
  simp only [List.getElem?_toArray, List.getElem?_cons_zero, List.getElem?_cons_succ] at q3
  clear q3
  go_wp2_with fail
  refine (rnumbers_any w.heap.size (w.heap.size + 1) A b c s1 w2 HI2.out).mono ?_
  rintro e w3 hp
  obtain ⟨A3, c3, rfl, hk3, hi3, ho3⟩ := hp.kints
  generalize hs3 : (nInts s1).2 = s3 at *
  generalize hl3 : (nInts s1).1 = l3 at *
  have HE3 := Lib.hid (And.intro hs3 hl3)
  have hsz3 := ho3.size
  obtain ⟨xc3, hxb3⟩ := HI2.out.blk
  have hC3 := HC2.out.only ho3 (fun e => absurd e (by omega))
  have hR3 := HR2.out.only ho3 (fun e => absurd e (by omega))
  have hB3 := HB2.out.trans (ho3.below (B := w.heap.size) (by omega) (fun i hi => by have hi : i = w.heap.size + 1 := hi; omega))
  have f3 := hC3.frozen 7
  have r3 := hC3.cell 7
  simp only [List.getElem?_toArray, List.getElem?_cons_zero, List.getElem?_cons_succ] at r3
  have HC4 := Lib.hid (show Blk (w3.setCell ⟨w1.heap.size, 7, none⟩ (.slice A3 l3.length c3)) w1.heap.size 32 #[.int .i64 4, .slice none 0 0, .slice none 0 0, .slice none 0 0, .int .i64 0, .slice none 0 0, .slice none 0 0, .slice A3 l3.length c3, .slice none 0 0, .slice none 0 0, .slice none 0 0, .slice none 0 0] from hC3.set_ 7 (.slice A3 l3.length c3))
  have hst4 := (Below.refl w1.heap.size w3).setCell (p := ⟨w1.heap.size, 7, none⟩) (Nat.le_refl _) (.slice A3 l3.length c3)
  have HI4 := Lib.hid (hi3.below hst4 (by omega))
  have HR4 := Lib.hid (hR3.below hst4 (by omega))
  have HB4 := Lib.hid (hB3.trans (hst4.mono (by omega)))
  have hz4 : w1.heap.size + 1 ≤ (w3.setCell ⟨w1.heap.size, 7, none⟩ (.slice A3 l3.length c3)).heap.size := by have e : (w3.setCell ⟨w1.heap.size, 7, none⟩ (.slice A3 l3.length c3)).heap.size = w3.heap.size := (by simp [World.setCell]); omega
  have HL4_0 := Lib.hid (hk3.only (Only.set_ w3 w1.heap.size 7 (.slice A3 l3.length c3)) (by omega) hC3 (by decide))
  clear hs3 hl3 hi3 ho3 hxb3 hC3 hR3 hB3 hst4 HC2 HI2 HR2 HB2 hk3 
  go_wp2_with fail
  generalize w3.setCell ⟨w1.heap.size, 7, none⟩ (.slice A3 l3.length c3) = w4 at *
  clear f3 r3
  rw [rounds_succ]
  have k4 := HC4.out.cell 0
  simp only [List.getElem?_toArray, List.getElem?_cons_zero, List.getElem?_cons_succ] at k4
  have q5 := HC4.out.cell 8
  simp only [List.getElem?_toArray, List.getElem?_cons_zero, List.getElem?_cons_succ] at q5
  clear q5
  go_wp2_with fail
  refine (rnumbers_any w.heap.size (w.heap.size + 1) A b c s3 w4 HI4.out).mono ?_
  rintro e w5 hp
  obtain ⟨A5, c5, rfl, hk5, hi5, ho5⟩ := hp.kints
  generalize hs5 : (nInts s3).2 = s5 at *
  generalize hl5 : (nInts s3).1 = l5 at *
  have HE5 := Lib.hid (And.intro hs5 hl5)
  have hsz5 := ho5.size
  obtain ⟨xc5, hxb5⟩ := HI4.out.blk
  have hC5 := HC4.out.only ho5 (fun e => absurd e (by omega))
  have hR5 := HR4.out.only ho5 (fun e => absurd e (by omega))
  have hB5 := HB4.out.trans (ho5.below (B := w.heap.size) (by omega) (fun i hi => by have hi : i = w.heap.size + 1 := hi; omega))
  have f5 := hC5.frozen 8
  have r5 := hC5.cell 8
  simp only [List.getElem?_toArray, List.getElem?_cons_zero, List.getElem?_cons_succ] at r5
  have HC6 := Lib.hid (show Blk (w5.setCell ⟨w1.heap.size, 8, none⟩ (.slice A5 l5.length c5)) w1.heap.size 32 #[.int .i64 4, .slice none 0 0, .slice none 0 0, .slice none 0 0, .int .i64 0, .slice none 0 0, .slice none 0 0, .slice A3 l3.length c3, .slice A5 l5.length c5, .slice none 0 0, .slice none 0 0, .slice none 0 0] from hC5.set_ 8 (.slice A5 l5.length c5))
  have hst6 := (Below.refl w1.heap.size w5).setCell (p := ⟨w1.heap.size, 8, none⟩) (Nat.le_refl _) (.slice A5 l5.length c5)
  have HI6 := Lib.hid (hi5.below hst6 (by omega))
  have HR6 := Lib.hid (hR5.below hst6 (by omega))
  have HB6 := Lib.hid (hB5.trans (hst6.mono (by omega)))
  have hz6 : w1.heap.size + 1 ≤ (w5.setCell ⟨w1.heap.size, 8, none⟩ (.slice A5 l5.length c5)).heap.size := by have e : (w5.setCell ⟨w1.heap.size, 8, none⟩ (.slice A5 l5.length c5)).heap.size = w5.heap.size := (by simp [World.setCell]); omega
  have HL6_0 := Lib.hid ((HL4_0.out.only ho5 (by omega) hxb5 (by decide)).only (Only.set_ w5 w1.heap.size 8 (.slice A5 l5.length c5)) (by omega) hC5 (by decide))
  have HL6_1 := Lib.hid (hk5.only (Only.set_ w5 w1.heap.size 8 (.slice A5 l5.length c5)) (by omega) hC5 (by decide))
  clear hs5 hl5 hi5 ho5 hxb5 hC5 hR5 hB5 hst6 HC4 HI4 HR4 HB4 hk5 HL4_0
  go_wp2_with fail
  generalize w5.setCell ⟨w1.heap.size, 8, none⟩ (.slice A5 l5.length c5) = w6 at *
  clear f5 r5
  rw [rounds_succ]
  have k6 := HC6.out.cell 0
  simp only [List.getElem?_toArray, List.getElem?_cons_zero, List.getElem?_cons_succ] at k6
  have q7 := HC6.out.cell 9
  simp only [List.getElem?_toArray, List.getElem?_cons_zero, List.getElem?_cons_succ] at q7
  clear q7
  go_wp2_with fail
  refine (rnumbers_any w.heap.size (w.heap.size + 1) A b c s5 w6 HI6.out).mono ?_
  rintro e w7 hp
  obtain ⟨A7, c7, rfl, hk7, hi7, ho7⟩ := hp.kints
  generalize hs7 : (nInts s5).2 = s7 at *
  generalize hl7 : (nInts s5).1 = l7 at *
  have HE7 := Lib.hid (And.intro hs7 hl7)
  have hsz7 := ho7.size
  obtain ⟨xc7, hxb7⟩ := HI6.out.blk
  have hC7 := HC6.out.only ho7 (fun e => absurd e (by omega))
  have hR7 := HR6.out.only ho7 (fun e => absurd e (by omega))
  have hB7 := HB6.out.trans (ho7.below (B := w.heap.size) (by omega) (fun i hi => by have hi : i = w.heap.size + 1 := hi; omega))
  have f7 := hC7.frozen 9
  have r7 := hC7.cell 9
  simp only [List.getElem?_toArray, List.getElem?_cons_zero, List.getElem?_cons_succ] at r7
  have HC8 := Lib.hid (show Blk (w7.setCell ⟨w1.heap.size, 9, none⟩ (.slice A7 l7.length c7)) w1.heap.size 32 #[.int .i64 4, .slice none 0 0, .slice none 0 0, .slice none 0 0, .int .i64 0, .slice none 0 0, .slice none 0 0, .slice A3 l3.length c3, .slice A5 l5.length c5, .slice A7 l7.length c7, .slice none 0 0, .slice none 0 0] from hC7.set_ 9 (.slice A7 l7.length c7))
  have hst8 := (Below.refl w1.heap.size w7).setCell (p := ⟨w1.heap.size, 9, none⟩) (Nat.le_refl _) (.slice A7 l7.length c7)
  have HI8 := Lib.hid (hi7.below hst8 (by omega))
  have HR8 := Lib.hid (hR7.below hst8 (by omega))
  have HB8 := Lib.hid (hB7.trans (hst8.mono (by omega)))
  have hz8 : w1.heap.size + 1 ≤ (w7.setCell ⟨w1.heap.size, 9, none⟩ (.slice A7 l7.length c7)).heap.size := by have e : (w7.setCell ⟨w1.heap.size, 9, none⟩ (.slice A7 l7.length c7)).heap.size = w7.heap.size := (by simp [World.setCell]); omega
  have HL8_0 := Lib.hid ((HL6_0.out.only ho7 (by omega) hxb7 (by decide)).only (Only.set_ w7 w1.heap.size 9 (.slice A7 l7.length c7)) (by omega) hC7 (by decide))
  have HL8_1 := Lib.hid ((HL6_1.out.only ho7 (by omega) hxb7 (by decide)).only (Only.set_ w7 w1.heap.size 9 (.slice A7 l7.length c7)) (by omega) hC7 (by decide))
  have HL8_2 := Lib.hid (hk7.only (Only.set_ w7 w1.heap.size 9 (.slice A7 l7.length c7)) (by omega) hC7 (by decide))
  clear hs7 hl7 hi7 ho7 hxb7 hC7 hR7 hB7 hst8 HC6 HI6 HR6 HB6 hk7 HL6_0 HL6_1
  go_wp2_with fail
  generalize w7.setCell ⟨w1.heap.size, 9, none⟩ (.slice A7 l7.length c7) = w8 at *
  clear f7 r7
  rw [rounds_succ]
  have k8 := HC8.out.cell 0
  simp only [List.getElem?_toArray, List.getElem?_cons_zero, List.getElem?_cons_succ] at k8
  have q9 := HC8.out.cell 10
  simp only [List.getElem?_toArray, List.getElem?_cons_zero, List.getElem?_cons_succ] at q9
  clear q9
  go_wp2_with fail
  refine (rnumbers_any w.heap.size (w.heap.size + 1) A b c s7 w8 HI8.out).mono ?_
  rintro e w9 hp
  obtain ⟨A9, c9, rfl, hk9, hi9, ho9⟩ := hp.kints
  generalize hs9 : (nInts s7).2 = s9 at *
  generalize hl9 : (nInts s7).1 = l9 at *
  have HE9 := Lib.hid (And.intro hs9 hl9)
  have hsz9 := ho9.size
  obtain ⟨xc9, hxb9⟩ := HI8.out.blk
  have hC9 := HC8.out.only ho9 (fun e => absurd e (by omega))
  have hR9 := HR8.out.only ho9 (fun e => absurd e (by omega))
  have hB9 := HB8.out.trans (ho9.below (B := w.heap.size) (by omega) (fun i hi => by have hi : i = w.heap.size + 1 := hi; omega))
  have f9 := hC9.frozen 10
  have r9 := hC9.cell 10
  simp only [List.getElem?_toArray, List.getElem?_cons_zero, List.getElem?_cons_succ] at r9
  have HC10 := Lib.hid (show Blk (w9.setCell ⟨w1.heap.size, 10, none⟩ (.slice A9 l9.length c9)) w1.heap.size 32 #[.int .i64 4, .slice none 0 0, .slice none 0 0, .slice none 0 0, .int .i64 0, .slice none 0 0, .slice none 0 0, .slice A3 l3.length c3, .slice A5 l5.length c5, .slice A7 l7.length c7, .slice A9 l9.length c9, .slice none 0 0] from hC9.set_ 10 (.slice A9 l9.length c9))
  have hst10 := (Below.refl w1.heap.size w9).setCell (p := ⟨w1.heap.size, 10, none⟩) (Nat.le_refl _) (.slice A9 l9.length c9)
  have HI10 := Lib.hid (hi9.below hst10 (by omega))
  have HR10 := Lib.hid (hR9.below hst10 (by omega))
  have HB10 := Lib.hid (hB9.trans (hst10.mono (by omega)))
  have hz10 : w1.heap.size + 1 ≤ (w9.setCell ⟨w1.heap.size, 10, none⟩ (.slice A9 l9.length c9)).heap.size := by have e : (w9.setCell ⟨w1.heap.size, 10, none⟩ (.slice A9 l9.length c9)).heap.size = w9.heap.size := (by simp [World.setCell]); omega
  have HL10_0 := Lib.hid ((HL8_0.out.only ho9 (by omega) hxb9 (by decide)).only (Only.set_ w9 w1.heap.size 10 (.slice A9 l9.length c9)) (by omega) hC9 (by decide))
  have HL10_1 := Lib.hid ((HL8_1.out.only ho9 (by omega) hxb9 (by decide)).only (Only.set_ w9 w1.heap.size 10 (.slice A9 l9.length c9)) (by omega) hC9 (by decide))
  have HL10_2 := Lib.hid ((HL8_2.out.only ho9 (by omega) hxb9 (by decide)).only (Only.set_ w9 w1.heap.size 10 (.slice A9 l9.length c9)) (by omega) hC9 (by decide))
  have HL10_3 := Lib.hid (hk9.only (Only.set_ w9 w1.heap.size 10 (.slice A9 l9.length c9)) (by omega) hC9 (by decide))
  clear hs9 hl9 hi9 ho9 hxb9 hC9 hR9 hB9 hst10 HC8 HI8 HR8 HB8 hk9 HL8_0 HL8_1 HL8_2
  go_wp2_with fail
  generalize w9.setCell ⟨w1.heap.size, 10, none⟩ (.slice A9 l9.length c9) = w10 at *
  clear f9 r9
  rw [rounds_succ]
  have k10 := HC10.out.cell 0
  simp only [List.getElem?_toArray, List.getElem?_cons_zero, List.getElem?_cons_succ] at k10
  go_upto_region 23 with fail
  have HRR : refRead 4 s1 = (⟨4, [], [], [], 0, [], [], l3, l5, l7, l9, []⟩, s9) := by
    unfold refRead
    rw [if_neg (by decide), if_neg (by decide), if_neg (by decide), if_pos rfl]
    simp only [HE3.out.1, HE3.out.2, HE5.out.1, HE5.out.2, HE7.out.1, HE7.out.2, HE9.out.1, HE9.out.2]
  rw [HRR] at HD
  clear HRR
  obtain ⟨t, z1, z2, hin⟩ := inb_none HI10.out
  have Hin := Lib.hid hin
  clear hin
  cases hbad : s9.bad with
  | true =>
    have HN := Lib.hid (show refD b = none by rw [HD.out, if_pos (.inl hbad)])
    rw [hbad] at z2
    clear hbad
    have u0 := HR10.out.cell 0
    have u1 := HR10.out.cell 1
    have u2 := HR10.out.cell 2
    have u3 := HR10.out.cell 3
    have u4 := HR10.out.cell 4
    have u5 := HR10.out.cell 5
    have u6 := HR10.out.cell 6
    have u7 := HR10.out.cell 7
    have u8 := HR10.out.cell 8
    have u9 := HR10.out.cell 9
    have u10 := HR10.out.cell 10
    have u11 := HR10.out.cell 11
    simp only [List.getElem?_toArray, List.getElem?_cons_zero, List.getElem?_cons_succ] at u0 u1 u2 u3 u4 u5 u6 u7 u8 u9 u10 u11
    have p0 := HR10.out.frozen 0
    have p1 := HR10.out.frozen 1
    have p2 := HR10.out.frozen 2
    have p3 := HR10.out.frozen 3
    have p4 := HR10.out.frozen 4
    have p5 := HR10.out.frozen 5
    have p6 := HR10.out.frozen 6
    have p7 := HR10.out.frozen 7
    have p8 := HR10.out.frozen 8
    have p9 := HR10.out.frozen 9
    have p10 := HR10.out.frozen 10
    have p11 := HR10.out.frozen 11
    go_wp2_with fail
    refine bodyPost_ret (rdec_results rfl rfl (set12_blk HR10.out rfl ..) rfl) rfl ?_
    exact ⟨set12_below HB10.out (Nat.le_refl _) .., fun _ => rfl, fun x hx => by rw [HN.out] at hx; cases hx⟩
  | false =>
    rw [hbad] at z2
    by_cases ht : t < b.length
    · have ht' : (t : Int) < b.length := by omega
      have HN := Lib.hid (show refD b = none by rw [HD.out, if_pos (.inr fun e => Hin.out.1 e ht)])
      clear hbad
      have u0 := HR10.out.cell 0
      have u1 := HR10.out.cell 1
      have u2 := HR10.out.cell 2
      have u3 := HR10.out.cell 3
      have u4 := HR10.out.cell 4
      have u5 := HR10.out.cell 5
      have u6 := HR10.out.cell 6
      have u7 := HR10.out.cell 7
      have u8 := HR10.out.cell 8
      have u9 := HR10.out.cell 9
      have u10 := HR10.out.cell 10
      have u11 := HR10.out.cell 11
      simp only [List.getElem?_toArray, List.getElem?_cons_zero, List.getElem?_cons_succ] at u0 u1 u2 u3 u4 u5 u6 u7 u8 u9 u10 u11
      have p0 := HR10.out.frozen 0
      have p1 := HR10.out.frozen 1
      have p2 := HR10.out.frozen 2
      have p3 := HR10.out.frozen 3
      have p4 := HR10.out.frozen 4
      have p5 := HR10.out.frozen 5
      have p6 := HR10.out.frozen 6
      have p7 := HR10.out.frozen 7
      have p8 := HR10.out.frozen 8
      have p9 := HR10.out.frozen 9
      have p10 := HR10.out.frozen 10
      have p11 := HR10.out.frozen 11
      go_wp2_with fail
      refine bodyPost_ret (rdec_results rfl rfl (set12_blk HR10.out rfl ..) rfl) rfl ?_
      exact ⟨set12_below HB10.out (Nat.le_refl _) .., fun _ => rfl, fun x hx => by rw [HN.out] at hx; cases hx⟩
    · have ht' : ¬ (t : Int) < b.length := by omega
      have HX := Lib.hid (show refD b = some ⟨4, [], [], [], 0, [], [], l3, l5, l7, l9, []⟩ by
        rw [HD.out, if_neg]
        rintro (h | h)
        · rw [hbad] at h; cases h
        · exact h (Hin.out.2 ht))
      clear hbad
      have u0 := HR10.out.cell 0
      have u1 := HR10.out.cell 1
      have u2 := HR10.out.cell 2
      have u3 := HR10.out.cell 3
      have u4 := HR10.out.cell 4
      have u5 := HR10.out.cell 5
      have u6 := HR10.out.cell 6
      have u7 := HR10.out.cell 7
      have u8 := HR10.out.cell 8
      have u9 := HR10.out.cell 9
      have u10 := HR10.out.cell 10
      have u11 := HR10.out.cell 11
      simp only [List.getElem?_toArray, List.getElem?_cons_zero, List.getElem?_cons_succ] at u0 u1 u2 u3 u4 u5 u6 u7 u8 u9 u10 u11
      have p0 := HR10.out.frozen 0
      have p1 := HR10.out.frozen 1
      have p2 := HR10.out.frozen 2
      have p3 := HR10.out.frozen 3
      have p4 := HR10.out.frozen 4
      have p5 := HR10.out.frozen 5
      have p6 := HR10.out.frozen 6
      have p7 := HR10.out.frozen 7
      have p8 := HR10.out.frozen 8
      have p9 := HR10.out.frozen 9
      have p10 := HR10.out.frozen 10
      have p11 := HR10.out.frozen 11
      go_wp2_with (refine wpl_load rfl _ _ rfl w1.heap.size rfl 32 #[.int .i64 4, .slice none 0 0, .slice none 0 0, .slice none 0 0, .int .i64 0, .slice none 0 0, .slice none 0 0, .slice A3 l3.length c3, .slice A5 l5.length c5, .slice A7 l7.length c7, .slice A9 l9.length c9, .slice none 0 0] _ HC10.out Try.underlying32 rfl (crt_info rfl) ?_)
      refine bodyPost_ret (rdec_results rfl rfl (set12_blk HR10.out rfl ..) rfl) rfl ?_
      have hO := set12_only w10 w.heap.size (.int .i64 4) (.slice none 0 0) (.slice none 0 0) (.slice none 0 0) (.int .i64 0) (.slice none 0 0) (.slice none 0 0) (.slice A3 l3.length c3) (.slice A5 l5.length c5) (.slice A7 l7.length c7) (.slice A9 l9.length c9) (.slice none 0 0)
      refine ⟨set12_below HB10.out (Nat.le_refl _) .., fun hx => (by rw [HX.out] at hx; cases hx), fun x hx => ?_⟩
      rw [HX.out] at hx
      injection hx with hx
      subst hx
      exact ⟨{ CV0 with a7 := A3, c7 := c3, a8 := A5, c8 := c5, a9 := A7, c9 := c7, a10 := A9, c10 := c9 }, rfl, ⟨Cells.nil, TblAt.nil, TblAt.nil, Cells.nil, TblAt.nil, (HL10_0.out.only hO (by omega) HR10.out (by decide)).cells, (HL10_1.out.only hO (by omega) HR10.out (by decide)).cells, (HL10_2.out.only hO (by omega) HR10.out (by decide)).cells, (HL10_3.out.only hO (by omega) HR10.out (by decide)).cells, Cells.nil⟩⟩
end Go.Proofs.Ytmlbjcngboegfaa
