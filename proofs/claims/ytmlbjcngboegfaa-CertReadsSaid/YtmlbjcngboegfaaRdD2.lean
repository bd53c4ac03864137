/-
  The reference's Decode: kind 2. Printed by wip/C/rdd.py. Written by an AI agent.
-/
import Derived.Test.YtmlbjcngboegfaaRdW
namespace Go.Proofs.Ytmlbjcngboegfaa
open Go.RowKit

set_option maxRecDepth 100000 in
set_option maxHeartbeats 4000000 in
theorem refDec_2 (A : Option Addr) (b : List Int) (c : Nat) (w : World) (h : Cells w w.heap.size A (byteCells b)) (hb : Bytes b) (hl : b.length ≤ 100000000) (hk : (rNext (startS b)).1 = 2) : Calls Try.prog 15 #[.slice A b.length c] w (RefDecPost b w) := by
  have HI0 := Lib.hid (rdW_in (c := c) h hb hl)
  have HR0 := Lib.hid (rdW_blk A b c w)
  have HB0 := Lib.hid (rdW_below A b c w)
  have HZ0 := Lib.hid (rdW_size A b c w)
  have HK := Lib.hid hk
  have HD := Lib.hid (show refD b = if (refRead 2 (rNext (startS b)).2).2.bad = true ∨ (refRead 2 (rNext (startS b)).2).2.inn ≠ [] then none else some (refRead 2 (rNext (startS b)).2).1 by unfold refD; rw [hk, if_neg (by decide)])
  clear h hb hl hk
  unfold rdW crtCells CV0 bare at HI0 HR0 HB0 HZ0
  simp only [List.length_nil] at HI0 HR0 HB0 HZ0
  go_enter Try.func15, Try.ntmps15
  go_wp2_with fail
  generalize hw0 : (w.alloc (.cells #[.int .i64 0, .slice none 0 0, .slice none 0 0, .slice none 0 0, .int .i64 0, .slice none 0 0, .slice none 0 0, .slice none 0 0, .slice none 0 0, .slice none 0 0, .slice none 0 0, .slice none 0 0] 32)).alloc (.cells #[.slice A b.length c, .int .i64 0, .bool false] 68) = w0 at *
  clear hw0
  refine (take_any w.heap.size (w.heap.size + 1) A b c (startS b) w0 HI0.out).mono ?_
  rintro e w1 ⟨rfl, hi1, ho1⟩
  rw [HK.out]
  have hg := ho1.size
  rw [HZ0.out] at hg
  have HR1 := Lib.hid (HR0.out.only ho1 (fun e => absurd e (by omega)))
  have HB1 := Lib.hid (HB0.out.trans ((ho1.below (B := w.heap.size) (by rw [HZ0.out]; omega) (fun i hi => by have hi : i = w.heap.size + 1 := hi; omega))))
  generalize (rNext (startS b)).2 = s1 at *
  have HI1 := Lib.hid hi1
  clear hi1 ho1 HI0 HR0 HB0 HZ0
  have HC2 := Lib.hid (Blk.new w1 32 #[.int .i64 2, .slice none 0 0, .slice none 0 0, .slice none 0 0, .int .i64 0, .slice none 0 0, .slice none 0 0, .slice none 0 0, .slice none 0 0, .slice none 0 0, .slice none 0 0, .slice none 0 0])
  have hb2 := (Below.refl w1.heap.size w1).alloc (Nat.le_refl _) (.cells #[.int .i64 2, .slice none 0 0, .slice none 0 0, .slice none 0 0, .int .i64 0, .slice none 0 0, .slice none 0 0, .slice none 0 0, .slice none 0 0, .slice none 0 0, .slice none 0 0, .slice none 0 0] 32)
  have HI2 := Lib.hid (HI1.out.below hb2 (by omega))
  have HR2 := Lib.hid (HR1.out.below hb2 (by omega))
  have HB2 := Lib.hid (HB1.out.trans (hb2.mono (by omega)))
  have hz2 : w1.heap.size + 1 ≤ (w1.alloc (.cells #[.int .i64 2, .slice none 0 0, .slice none 0 0, .slice none 0 0, .int .i64 0, .slice none 0 0, .slice none 0 0, .slice none 0 0, .slice none 0 0, .slice none 0 0, .slice none 0 0, .slice none 0 0] 32)).heap.size := by simp
  clear HI1 HR1 HB1 hb2
  go_upto_region 3 with fail
  generalize w1.alloc (.cells #[.int .i64 2, .slice none 0 0, .slice none 0 0, .slice none 0 0, .int .i64 0, .slice none 0 0, .slice none 0 0, .slice none 0 0, .slice none 0 0, .slice none 0 0, .slice none 0 0, .slice none 0 0] 32) = w2 at *
  have q0 := HC2.out.cell 0
  simp only [List.getElem?_toArray, List.getElem?_cons_zero, List.getElem?_cons_succ] at q0
  have q3 := HC2.out.cell 3
  simp only [List.getElem?_toArray, List.getElem?_cons_zero, List.getElem?_cons_succ] at q3
  clear q3
  go_wp2_with fail
  refine (rlists_any w.heap.size (w.heap.size + 1) A b c s1 w2 HI2.out).mono ?_
  rintro e w3 hp
  obtain ⟨A3, c3, rfl, hk3, hi3, ho3⟩ := hp.krows
  generalize hs3 : (nRows s1).2 = s3 at *
  generalize hl3 : (nRows s1).1 = l3 at *
  have HE3 := Lib.hid (And.intro hs3 hl3)
  have hsz3 := ho3.size
  obtain ⟨xc3, hxb3⟩ := HI2.out.blk
  have hC3 := HC2.out.only ho3 (fun e => absurd e (by omega))
  have hR3 := HR2.out.only ho3 (fun e => absurd e (by omega))
  have hB3 := HB2.out.trans (ho3.below (B := w.heap.size) (by omega) (fun i hi => by have hi : i = w.heap.size + 1 := hi; omega))
  have f3 := hC3.frozen 3
  have r3 := hC3.cell 3
  simp only [List.getElem?_toArray, List.getElem?_cons_zero, List.getElem?_cons_succ] at r3
  have HC4 := Lib.hid (show Blk (w3.setCell ⟨w1.heap.size, 3, none⟩ (.slice A3 l3.length c3)) w1.heap.size 32 #[.int .i64 2, .slice none 0 0, .slice none 0 0, .slice A3 l3.length c3, .int .i64 0, .slice none 0 0, .slice none 0 0, .slice none 0 0, .slice none 0 0, .slice none 0 0, .slice none 0 0, .slice none 0 0] from hC3.set_ 3 (.slice A3 l3.length c3))
  have hst4 := (Below.refl w1.heap.size w3).setCell (p := ⟨w1.heap.size, 3, none⟩) (Nat.le_refl _) (.slice A3 l3.length c3)
  have HI4 := Lib.hid (hi3.below hst4 (by omega))
  have HR4 := Lib.hid (hR3.below hst4 (by omega))
  have HB4 := Lib.hid (hB3.trans (hst4.mono (by omega)))
  have hz4 : w1.heap.size + 1 ≤ (w3.setCell ⟨w1.heap.size, 3, none⟩ (.slice A3 l3.length c3)).heap.size := by have e : (w3.setCell ⟨w1.heap.size, 3, none⟩ (.slice A3 l3.length c3)).heap.size = w3.heap.size := (by simp [World.setCell]); omega
  have HL4_0 := Lib.hid (hk3.only (Only.set_ w3 w1.heap.size 3 (.slice A3 l3.length c3)) (by omega) hC3 (by decide))
  clear hs3 hl3 hi3 ho3 hxb3 hC3 hR3 hB3 hst4 HC2 HI2 HR2 HB2 hk3 
  go_upto_region 10 with fail
  generalize w3.setCell ⟨w1.heap.size, 3, none⟩ (.slice A3 l3.length c3) = w4 at *
  clear f3 r3
  have q5 := HC4.out.cell 4
  simp only [List.getElem?_toArray, List.getElem?_cons_zero, List.getElem?_cons_succ] at q5
  clear q5
  go_wp2_with fail
  refine (nget_any w.heap.size (w.heap.size + 1) A b c s3 w4 HI4.out).mono ?_
  rintro e w5 ⟨rfl, hi5, ho5⟩
  generalize hs5 : (nGet s3).2 = s5 at *
  generalize hl5 : (nGet s3).1 = l5 at *
  have HE5 := Lib.hid (And.intro hs5 hl5)
  have hsz5 := ho5.size
  obtain ⟨xc5, hxb5⟩ := HI4.out.blk
  have hC5 := HC4.out.only ho5 (fun e => absurd e (by omega))
  have hR5 := HR4.out.only ho5 (fun e => absurd e (by omega))
  have hB5 := HB4.out.trans (ho5.below (B := w.heap.size) (by omega) (fun i hi => by have hi : i = w.heap.size + 1 := hi; omega))
  have f5 := hC5.frozen 4
  have r5 := hC5.cell 4
  simp only [List.getElem?_toArray, List.getElem?_cons_zero, List.getElem?_cons_succ] at r5
  have HC6 := Lib.hid (show Blk (w5.setCell ⟨w1.heap.size, 4, none⟩ (.int .i64 l5)) w1.heap.size 32 #[.int .i64 2, .slice none 0 0, .slice none 0 0, .slice A3 l3.length c3, .int .i64 l5, .slice none 0 0, .slice none 0 0, .slice none 0 0, .slice none 0 0, .slice none 0 0, .slice none 0 0, .slice none 0 0] from hC5.set_ 4 (.int .i64 l5))
  have hst6 := (Below.refl w1.heap.size w5).setCell (p := ⟨w1.heap.size, 4, none⟩) (Nat.le_refl _) (.int .i64 l5)
  have HI6 := Lib.hid (hi5.below hst6 (by omega))
  have HR6 := Lib.hid (hR5.below hst6 (by omega))
  have HB6 := Lib.hid (hB5.trans (hst6.mono (by omega)))
  have hz6 : w1.heap.size + 1 ≤ (w5.setCell ⟨w1.heap.size, 4, none⟩ (.int .i64 l5)).heap.size := by have e : (w5.setCell ⟨w1.heap.size, 4, none⟩ (.int .i64 l5)).heap.size = w5.heap.size := (by simp [World.setCell]); omega
  have HL6_0 := Lib.hid ((HL4_0.out.only ho5 (by omega) hxb5 (by decide)).only (Only.set_ w5 w1.heap.size 4 (.int .i64 l5)) (by omega) hC5 (by decide))
  clear hs5 hl5 hi5 ho5 hxb5 hC5 hR5 hB5 hst6 HC4 HI4 HR4 HB4  HL4_0
  go_upto_region 11 with fail
  generalize w5.setCell ⟨w1.heap.size, 4, none⟩ (.int .i64 l5) = w6 at *
  clear f5 r5
  have q6 := HC6.out.cell 0
  simp only [List.getElem?_toArray, List.getElem?_cons_zero, List.getElem?_cons_succ] at q6
  clear q0
  go_wp2_with fail
  refine wp_loop_rounds 2 ?_
  rw [rounds_succ]
  go_upto_region 23 with fail
  have HRR : refRead 2 s1 = (⟨2, [], [], l3, l5, [], [], [], [], [], [], []⟩, s5) := by
    unfold refRead
    rw [if_neg (by decide), if_pos rfl]
    simp only [HE3.out.1, HE3.out.2, HE5.out.1, HE5.out.2]
  rw [HRR] at HD
  clear HRR
  obtain ⟨t, z1, z2, hin⟩ := inb_none HI6.out
  have Hin := Lib.hid hin
  clear hin
  cases hbad : s5.bad with
  | true =>
    have HN := Lib.hid (show refD b = none by rw [HD.out, if_pos (.inl hbad)])
    rw [hbad] at z2
    clear hbad
    have u0 := HR6.out.cell 0
    have u1 := HR6.out.cell 1
    have u2 := HR6.out.cell 2
    have u3 := HR6.out.cell 3
    have u4 := HR6.out.cell 4
    have u5 := HR6.out.cell 5
    have u6 := HR6.out.cell 6
    have u7 := HR6.out.cell 7
    have u8 := HR6.out.cell 8
    have u9 := HR6.out.cell 9
    have u10 := HR6.out.cell 10
    have u11 := HR6.out.cell 11
    simp only [List.getElem?_toArray, List.getElem?_cons_zero, List.getElem?_cons_succ] at u0 u1 u2 u3 u4 u5 u6 u7 u8 u9 u10 u11
    have p0 := HR6.out.frozen 0
    have p1 := HR6.out.frozen 1
    have p2 := HR6.out.frozen 2
    have p3 := HR6.out.frozen 3
    have p4 := HR6.out.frozen 4
    have p5 := HR6.out.frozen 5
    have p6 := HR6.out.frozen 6
    have p7 := HR6.out.frozen 7
    have p8 := HR6.out.frozen 8
    have p9 := HR6.out.frozen 9
    have p10 := HR6.out.frozen 10
    have p11 := HR6.out.frozen 11
    go_wp2_with fail
    refine bodyPost_ret (rdec_results rfl rfl (set12_blk HR6.out rfl ..) rfl) rfl ?_
    exact ⟨set12_below HB6.out (Nat.le_refl _) .., fun _ => rfl, fun x hx => by rw [HN.out] at hx; cases hx⟩
  | false =>
    rw [hbad] at z2
    by_cases ht : t < b.length
    · have ht' : (t : Int) < b.length := by omega
      have HN := Lib.hid (show refD b = none by rw [HD.out, if_pos (.inr fun e => Hin.out.1 e ht)])
      clear hbad
      have u0 := HR6.out.cell 0
      have u1 := HR6.out.cell 1
      have u2 := HR6.out.cell 2
      have u3 := HR6.out.cell 3
      have u4 := HR6.out.cell 4
      have u5 := HR6.out.cell 5
      have u6 := HR6.out.cell 6
      have u7 := HR6.out.cell 7
      have u8 := HR6.out.cell 8
      have u9 := HR6.out.cell 9
      have u10 := HR6.out.cell 10
      have u11 := HR6.out.cell 11
      simp only [List.getElem?_toArray, List.getElem?_cons_zero, List.getElem?_cons_succ] at u0 u1 u2 u3 u4 u5 u6 u7 u8 u9 u10 u11
      have p0 := HR6.out.frozen 0
      have p1 := HR6.out.frozen 1
      have p2 := HR6.out.frozen 2
      have p3 := HR6.out.frozen 3
      have p4 := HR6.out.frozen 4
      have p5 := HR6.out.frozen 5
      have p6 := HR6.out.frozen 6
      have p7 := HR6.out.frozen 7
      have p8 := HR6.out.frozen 8
      have p9 := HR6.out.frozen 9
      have p10 := HR6.out.frozen 10
      have p11 := HR6.out.frozen 11
      go_wp2_with fail
      refine bodyPost_ret (rdec_results rfl rfl (set12_blk HR6.out rfl ..) rfl) rfl ?_
      exact ⟨set12_below HB6.out (Nat.le_refl _) .., fun _ => rfl, fun x hx => by rw [HN.out] at hx; cases hx⟩
    · have ht' : ¬ (t : Int) < b.length := by omega
      have HX := Lib.hid (show refD b = some ⟨2, [], [], l3, l5, [], [], [], [], [], [], []⟩ by
        rw [HD.out, if_neg]
        rintro (h | h)
        · rw [hbad] at h; cases h
        · exact h (Hin.out.2 ht))
      clear hbad
      have u0 := HR6.out.cell 0
      have u1 := HR6.out.cell 1
      have u2 := HR6.out.cell 2
      have u3 := HR6.out.cell 3
      have u4 := HR6.out.cell 4
      have u5 := HR6.out.cell 5
      have u6 := HR6.out.cell 6
      have u7 := HR6.out.cell 7
      have u8 := HR6.out.cell 8
      have u9 := HR6.out.cell 9
      have u10 := HR6.out.cell 10
      have u11 := HR6.out.cell 11
      simp only [List.getElem?_toArray, List.getElem?_cons_zero, List.getElem?_cons_succ] at u0 u1 u2 u3 u4 u5 u6 u7 u8 u9 u10 u11
      have p0 := HR6.out.frozen 0
      have p1 := HR6.out.frozen 1
      have p2 := HR6.out.frozen 2
      have p3 := HR6.out.frozen 3
      have p4 := HR6.out.frozen 4
      have p5 := HR6.out.frozen 5
      have p6 := HR6.out.frozen 6
      have p7 := HR6.out.frozen 7
      have p8 := HR6.out.frozen 8
      have p9 := HR6.out.frozen 9
      have p10 := HR6.out.frozen 10
      have p11 := HR6.out.frozen 11
      go_wp2_with (refine wpl_load rfl _ _ rfl w1.heap.size rfl 32 #[.int .i64 2, .slice none 0 0, .slice none 0 0, .slice A3 l3.length c3, .int .i64 l5, .slice none 0 0, .slice none 0 0, .slice none 0 0, .slice none 0 0, .slice none 0 0, .slice none 0 0, .slice none 0 0] _ HC6.out Try.underlying32 rfl (crt_info rfl) ?_)
      refine bodyPost_ret (rdec_results rfl rfl (set12_blk HR6.out rfl ..) rfl) rfl ?_
      have hO := set12_only w6 w.heap.size (.int .i64 2) (.slice none 0 0) (.slice none 0 0) (.slice A3 l3.length c3) (.int .i64 l5) (.slice none 0 0) (.slice none 0 0) (.slice none 0 0) (.slice none 0 0) (.slice none 0 0) (.slice none 0 0) (.slice none 0 0)
      refine ⟨set12_below HB6.out (Nat.le_refl _) .., fun hx => (by rw [HX.out] at hx; cases hx), fun x hx => ?_⟩
      rw [HX.out] at hx
      injection hx with hx
      subst hx
      exact ⟨{ CV0 with a3 := A3, c3 := c3 }, rfl, ⟨Cells.nil, TblAt.nil, (HL6_0.out.only hO (by omega) HR6.out (by decide)).cells, Cells.nil, TblAt.nil, Cells.nil, Cells.nil, Cells.nil, Cells.nil, Cells.nil⟩⟩
end Go.Proofs.Ytmlbjcngboegfaa
