/-
  The reference's Decode: kind 5. Printed by wip/C/rdd.py. Written by an AI agent.
-/
import Derived.Test.YtmlbjcngboegfaaRdW
namespace Go.Proofs.Ytmlbjcngboegfaa
open Go.RowKit

set_option maxRecDepth 100000 in
set_option maxHeartbeats 4000000 in
theorem refDec_5 (A : Option Addr) (b : List Int) (c : Nat) (w : World) (h : Cells w w.heap.size A (byteCells b)) (hb : Bytes b) (hl : b.length ≤ 100000000) (hk : (rNext (startS b)).1 = 5) : Calls Try.prog 15 #[.slice A b.length c] w (RefDecPost b w) := by
  have HI0 := Lib.hid (rdW_in (c := c) h hb hl)
  have HR0 := Lib.hid (rdW_blk A b c w)
  have HB0 := Lib.hid (rdW_below A b c w)
  have HZ0 := Lib.hid (rdW_size A b c w)
  have HK := Lib.hid hk
  have HD := Lib.hid (show refD b = if (refRead 5 (rNext (startS b)).2).2.bad = true ∨ (refRead 5 (rNext (startS b)).2).2.inn ≠ [] then none else some (refRead 5 (rNext (startS b)).2).1 by unfold refD; rw [hk, if_neg (by decide)])
  clear h hb hl hk
  unfold rdW crtCells CV0 bare at HI0 HR0 HB0 HZ0
  simp only [List.length_nil] at HI0 HR0 HB0 HZ0
  go_enter Try.func15, Try.ntmps15
  go_wp2_with fail
  generalize hw0 : (w.alloc (.cells #[.int .i64 0, .slice none 0 0, .slice none 0 0, .slice none 0 0, .int .i64 0, .slice none 0 0, .slice none 0 0, .slice none 0 0, .slice none 0 0, .slice none 0 0, .slice none 0 0, .slice none 0 0] 32)).alloc (.cells #[.slice A b.length c, .int .i64 0, .bool false] 68) = w0 at *
  clear hw0
  refine (take_any w.heap.size (w.heap.size + 1) A b c (startS b) w0 HI0.out).mono ?_
  rintro e w1 ⟨rfl, hi1, ho1⟩
  rw [HK.out]
  have hg := ho1.size
  rw [HZ0.out] at hg
  have HR1 := Lib.hid (HR0.out.only ho1 (fun e => absurd e (by omega)))
  have HB1 := Lib.hid (HB0.out.trans ((ho1.below (B := w.heap.size) (by rw [HZ0.out]; omega) (fun i hi => by have hi : i = w.heap.size + 1 := hi; omega))))
  generalize (rNext (startS b)).2 = s1 at *
  have HI1 := Lib.hid hi1
  clear hi1 ho1 HI0 HR0 HB0 HZ0
  have HC2 := Lib.hid (Blk.new w1 32 #[.int .i64 5, .slice none 0 0, .slice none 0 0, .slice none 0 0, .int .i64 0, .slice none 0 0, .slice none 0 0, .slice none 0 0, .slice none 0 0, .slice none 0 0, .slice none 0 0, .slice none 0 0])
  have hb2 := (Below.refl w1.heap.size w1).alloc (Nat.le_refl _) (.cells #[.int .i64 5, .slice none 0 0, .slice none 0 0, .slice none 0 0, .int .i64 0, .slice none 0 0, .slice none 0 0, .slice none 0 0, .slice none 0 0, .slice none 0 0, .slice none 0 0, .slice none 0 0] 32)
  have HI2 := Lib.hid (HI1.out.below hb2 (by omega))
  have HR2 := Lib.hid (HR1.out.below hb2 (by omega))
  have HB2 := Lib.hid (HB1.out.trans (hb2.mono (by omega)))
  have hz2 : w1.heap.size + 1 ≤ (w1.alloc (.cells #[.int .i64 5, .slice none 0 0, .slice none 0 0, .slice none 0 0, .int .i64 0, .slice none 0 0, .slice none 0 0, .slice none 0 0, .slice none 0 0, .slice none 0 0, .slice none 0 0, .slice none 0 0] 32)).heap.size := by simp
  clear HI1 HR1 HB1 hb2
  go_upto_region 3 with fail
  generalize w1.alloc (.cells #[.int .i64 5, .slice none 0 0, .slice none 0 0, .slice none 0 0, .int .i64 0, .slice none 0 0, .slice none 0 0, .slice none 0 0, .slice none 0 0, .slice none 0 0, .slice none 0 0, .slice none 0 0] 32) = w2 at *
  have q0 := HC2.out.cell 0
  simp only [List.getElem?_toArray, List.getElem?_cons_zero, List.getElem?_cons_succ] at q0
  go_wp2_with fail
  refine wp_loop_rounds 2 ?_
  rw [rounds_succ]
  have q3 := HC2.out.cell 11
  simp only [List.getElem?_toArray, List.getElem?_cons_zero, List.getElem?_cons_succ] at q3
  clear q3
  go_wp2_with fail
  refine (rnumbers_any w.heap.size (w.heap.size + 1) A b c s1 w2 HI2.out).mono ?_
  rintro e w3 hp
  obtain ⟨A3, c3, rfl, hk3, hi3, ho3⟩ := hp.kints
  generalize hs3 : (nInts s1).2 = s3 at *
  generalize hl3 : (nInts s1).1 = l3 at *
  have HE3 := Lib.hid (And.intro hs3 hl3)
  have hsz3 := ho3.size
  obtain ⟨xc3, hxb3⟩ := HI2.out.blk
  have hC3 := HC2.out.only ho3 (fun e => absurd e (by omega))
  have hR3 := HR2.out.only ho3 (fun e => absurd e (by omega))
  have hB3 := HB2.out.trans (ho3.below (B := w.heap.size) (by omega) (fun i hi => by have hi : i = w.heap.size + 1 := hi; omega))
  have f3 := hC3.frozen 11
  have r3 := hC3.cell 11
  simp only [List.getElem?_toArray, List.getElem?_cons_zero, List.getElem?_cons_succ] at r3
  have HC4 := Lib.hid (show Blk (w3.setCell ⟨w1.heap.size, 11, none⟩ (.slice A3 l3.length c3)) w1.heap.size 32 #[.int .i64 5, .slice none 0 0, .slice none 0 0, .slice none 0 0, .int .i64 0, .slice none 0 0, .slice none 0 0, .slice none 0 0, .slice none 0 0, .slice none 0 0, .slice none 0 0, .slice A3 l3.length c3] from hC3.set_ 11 (.slice A3 l3.length c3))
  have hst4 := (Below.refl w1.heap.size w3).setCell (p := ⟨w1.heap.size, 11, none⟩) (Nat.le_refl _) (.slice A3 l3.length c3)
  have HI4 := Lib.hid (hi3.below hst4 (by omega))
  have HR4 := Lib.hid (hR3.below hst4 (by omega))
  have HB4 := Lib.hid (hB3.trans (hst4.mono (by omega)))
  have hz4 : w1.heap.size + 1 ≤ (w3.setCell ⟨w1.heap.size, 11, none⟩ (.slice A3 l3.length c3)).heap.size := by have e : (w3.setCell ⟨w1.heap.size, 11, none⟩ (.slice A3 l3.length c3)).heap.size = w3.heap.size := (by simp [World.setCell]); omega
  have HL4_0 := Lib.hid (hk3.only (Only.set_ w3 w1.heap.size 11 (.slice A3 l3.length c3)) (by omega) hC3 (by decide))
  clear hs3 hl3 hi3 ho3 hxb3 hC3 hR3 hB3 hst4 HC2 HI2 HR2 HB2 hk3 
  go_upto_region 23 with fail
  generalize w3.setCell ⟨w1.heap.size, 11, none⟩ (.slice A3 l3.length c3) = w4 at *
  clear f3 r3
  have HRR : refRead 5 s1 = (⟨5, [], [], [], 0, [], [], [], [], [], [], l3⟩, s3) := by
    unfold refRead
    rw [if_neg (by decide), if_neg (by decide), if_neg (by decide), if_neg (by decide)]
    simp only [HE3.out.1, HE3.out.2]
  rw [HRR] at HD
  clear HRR
  obtain ⟨t, z1, z2, hin⟩ := inb_none HI4.out
  have Hin := Lib.hid hin
  clear hin
  cases hbad : s3.bad with
  | true =>
    have HN := Lib.hid (show refD b = none by rw [HD.out, if_pos (.inl hbad)])
    rw [hbad] at z2
    clear hbad
    have u0 := HR4.out.cell 0
    have u1 := HR4.out.cell 1
    have u2 := HR4.out.cell 2
    have u3 := HR4.out.cell 3
    have u4 := HR4.out.cell 4
    have u5 := HR4.out.cell 5
    have u6 := HR4.out.cell 6
    have u7 := HR4.out.cell 7
    have u8 := HR4.out.cell 8
    have u9 := HR4.out.cell 9
    have u10 := HR4.out.cell 10
    have u11 := HR4.out.cell 11
    simp only [List.getElem?_toArray, List.getElem?_cons_zero, List.getElem?_cons_succ] at u0 u1 u2 u3 u4 u5 u6 u7 u8 u9 u10 u11
    have p0 := HR4.out.frozen 0
    have p1 := HR4.out.frozen 1
    have p2 := HR4.out.frozen 2
    have p3 := HR4.out.frozen 3
    have p4 := HR4.out.frozen 4
    have p5 := HR4.out.frozen 5
    have p6 := HR4.out.frozen 6
    have p7 := HR4.out.frozen 7
    have p8 := HR4.out.frozen 8
    have p9 := HR4.out.frozen 9
    have p10 := HR4.out.frozen 10
    have p11 := HR4.out.frozen 11
    go_wp2_with fail
    refine bodyPost_ret (rdec_results rfl rfl (set12_blk HR4.out rfl ..) rfl) rfl ?_
    exact ⟨set12_below HB4.out (Nat.le_refl _) .., fun _ => rfl, fun x hx => by rw [HN.out] at hx; cases hx⟩
  | false =>
    rw [hbad] at z2
    by_cases ht : t < b.length
    · have ht' : (t : Int) < b.length := by omega
      have HN := Lib.hid (show refD b = none by rw [HD.out, if_pos (.inr fun e => Hin.out.1 e ht)])
      clear hbad
      have u0 := HR4.out.cell 0
      have u1 := HR4.out.cell 1
      have u2 := HR4.out.cell 2
      have u3 := HR4.out.cell 3
      have u4 := HR4.out.cell 4
      have u5 := HR4.out.cell 5
      have u6 := HR4.out.cell 6
      have u7 := HR4.out.cell 7
      have u8 := HR4.out.cell 8
      have u9 := HR4.out.cell 9
      have u10 := HR4.out.cell 10
      have u11 := HR4.out.cell 11
      simp only [List.getElem?_toArray, List.getElem?_cons_zero, List.getElem?_cons_succ] at u0 u1 u2 u3 u4 u5 u6 u7 u8 u9 u10 u11
      have p0 := HR4.out.frozen 0
      have p1 := HR4.out.frozen 1
      have p2 := HR4.out.frozen 2
      have p3 := HR4.out.frozen 3
      have p4 := HR4.out.frozen 4
      have p5 := HR4.out.frozen 5
      have p6 := HR4.out.frozen 6
      have p7 := HR4.out.frozen 7
      have p8 := HR4.out.frozen 8
      have p9 := HR4.out.frozen 9
      have p10 := HR4.out.frozen 10
      have p11 := HR4.out.frozen 11
      go_wp2_with fail
      refine bodyPost_ret (rdec_results rfl rfl (set12_blk HR4.out rfl ..) rfl) rfl ?_
      exact ⟨set12_below HB4.out (Nat.le_refl _) .., fun _ => rfl, fun x hx => by rw [HN.out] at hx; cases hx⟩
    · have ht' : ¬ (t : Int) < b.length := by omega
      have HX := Lib.hid (show refD b = some ⟨5, [], [], [], 0, [], [], [], [], [], [], l3⟩ by
        rw [HD.out, if_neg]
        rintro (h | h)
        · rw [hbad] at h; cases h
        · exact h (Hin.out.2 ht))
      clear hbad
      have u0 := HR4.out.cell 0
      have u1 := HR4.out.cell 1
      have u2 := HR4.out.cell 2
      have u3 := HR4.out.cell 3
      have u4 := HR4.out.cell 4
      have u5 := HR4.out.cell 5
      have u6 := HR4.out.cell 6
      have u7 := HR4.out.cell 7
      have u8 := HR4.out.cell 8
      have u9 := HR4.out.cell 9
      have u10 := HR4.out.cell 10
      have u11 := HR4.out.cell 11
      simp only [List.getElem?_toArray, List.getElem?_cons_zero, List.getElem?_cons_succ] at u0 u1 u2 u3 u4 u5 u6 u7 u8 u9 u10 u11
      have p0 := HR4.out.frozen 0
      have p1 := HR4.out.frozen 1
      have p2 := HR4.out.frozen 2
      have p3 := HR4.out.frozen 3
      have p4 := HR4.out.frozen 4
      have p5 := HR4.out.frozen 5
      have p6 := HR4.out.frozen 6
      have p7 := HR4.out.frozen 7
      have p8 := HR4.out.frozen 8
      have p9 := HR4.out.frozen 9
      have p10 := HR4.out.frozen 10
      have p11 := HR4.out.frozen 11
      go_wp2_with (refine wpl_load rfl _ _ rfl w1.heap.size rfl 32 #[.int .i64 5, .slice none 0 0, .slice none 0 0, .slice none 0 0, .int .i64 0, .slice none 0 0, .slice none 0 0, .slice none 0 0, .slice none 0 0, .slice none 0 0, .slice none 0 0, .slice A3 l3.length c3] _ HC4.out Try.underlying32 rfl (crt_info rfl) ?_)
      refine bodyPost_ret (rdec_results rfl rfl (set12_blk HR4.out rfl ..) rfl) rfl ?_
      have hO := set12_only w4 w.heap.size (.int .i64 5) (.slice none 0 0) (.slice none 0 0) (.slice none 0 0) (.int .i64 0) (.slice none 0 0) (.slice none 0 0) (.slice none 0 0) (.slice none 0 0) (.slice none 0 0) (.slice none 0 0) (.slice A3 l3.length c3)
      refine ⟨set12_below HB4.out (Nat.le_refl _) .., fun hx => (by rw [HX.out] at hx; cases hx), fun x hx => ?_⟩
      rw [HX.out] at hx
      injection hx with hx
      subst hx
      exact ⟨{ CV0 with a11 := A3, c11 := c3 }, rfl, ⟨Cells.nil, TblAt.nil, TblAt.nil, Cells.nil, TblAt.nil, Cells.nil, Cells.nil, Cells.nil, Cells.nil, (HL4_0.out.only hO (by omega) HR4.out (by decide)).cells⟩⟩
end Go.Proofs.Ytmlbjcngboegfaa
