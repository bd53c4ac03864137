/-
  The reference's Decode: kind 3. Printed by wip/C/rdd.py. Written by an AI agent.
-/
import Derived.Test.YtmlbjcngboegfaaRdW
namespace Go.Proofs.Ytmlbjcngboegfaa
open Go.RowKit

set_option maxRecDepth 100000 in
set_option maxHeartbeats 4000000 in
theorem refDec_3 (A : Option Addr) (b : List Int) (c : Nat) (w : World) (h : Cells w w.heap.size A (byteCells b)) (hb : Bytes b) (hl : b.length ≤ 100000000) (hk : (rNext (startS b)).1 = 3) : Calls Try.prog 15 #[.slice A b.length c] w (RefDecPost b w) := by
  have HI0 := Lib.hid (rdW_in (c := c) h hb hl)
  have HR0 := Lib.hid (rdW_blk A b c w)
  have HB0 := Lib.hid (rdW_below A b c w)
  have HZ0 := Lib.hid (rdW_size A b c w)
  have HK := Lib.hid hk
  have HD := Lib.hid (show refD b = if (refRead 3 (rNext (startS b)).2).2.bad = true ∨ (refRead 3 (rNext (startS b)).2).2.inn ≠ [] then none else some (refRead 3 (rNext (startS b)).2).1 by unfold refD; rw [hk, if_neg (by decide)])
  clear h hb hl hk
  unfold rdW crtCells CV0 bare at HI0 HR0 HB0 HZ0
  simp only [List.length_nil] at HI0 HR0 HB0 HZ0
  go_enter Try.func15, Try.ntmps15
  go_wp2_with fail
  generalize hw0 : (w.alloc (.cells #[.int .i64 0, .slice none 0 0, .slice none 0 0, .slice none 0 0, .int .i64 0, .slice none 0 0, .slice none 0 0, .slice none 0 0, .slice none 0 0, .slice none 0 0, .slice none 0 0, .slice none 0 0] 32)).alloc (.cells #[.slice A b.length c, .int .i64 0, .bool false] 68) = w0 at *
  clear hw0
  refine (take_any w.heap.size (w.heap.size + 1) A b c (startS b) w0 HI0.out).mono ?_
  rintro e w1 ⟨rfl, hi1, ho1⟩
  rw [HK.out]
  have hg := ho1.size
  rw [HZ0.out] at hg
  have HR1 := Lib.hid (HR0.out.only ho1 (fun e => absurd e (by omega)))
  have HB1 := Lib.hid (HB0.out.trans ((ho1.below (B := w.heap.size) (by rw [HZ0.out]; omega) (fun i hi => by have hi : i = w.heap.size + 1 := hi; omega))))
  generalize (rNext (startS b)).2 = s1 at *
  have HI1 := Lib.hid hi1
  clear hi1 ho1 HI0 HR0 HB0 HZ0
  have HC2 := Lib.hid (Blk.new w1 32 #[.int .i64 3, .slice none 0 0, .slice none 0 0, .slice none 0 0, .int .i64 0, .slice none 0 0, .slice none 0 0, .slice none 0 0, .slice none 0 0, .slice none 0 0, .slice none 0 0, .slice none 0 0])
  have hb2 := (Below.refl w1.heap.size w1).alloc (Nat.le_refl _) (.cells #[.int .i64 3, .slice none 0 0, .slice none 0 0, .slice none 0 0, .int .i64 0, .slice none 0 0, .slice none 0 0, .slice none 0 0, .slice none 0 0, .slice none 0 0, .slice none 0 0, .slice none 0 0] 32)
  have HI2 := Lib.hid (HI1.out.below hb2 (by omega))
  have HR2 := Lib.hid (HR1.out.below hb2 (by omega))
  have HB2 := Lib.hid (HB1.out.trans (hb2.mono (by omega)))
  have hz2 : w1.heap.size + 1 ≤ (w1.alloc (.cells #[.int .i64 3, .slice none 0 0, .slice none 0 0, .slice none 0 0, .int .i64 0, .slice none 0 0, .slice none 0 0, .slice none 0 0, .slice none 0 0, .slice none 0 0, .slice none 0 0, .slice none 0 0] 32)).heap.size := by simp
  clear HI1 HR1 HB1 hb2
  go_upto_region 3 with fail
  generalize w1.alloc (.cells #[.int .i64 3, .slice none 0 0, .slice none 0 0, .slice none 0 0, .int .i64 0, .slice none 0 0, .slice none 0 0, .slice none 0 0, .slice none 0 0, .slice none 0 0, .slice none 0 0, .slice none 0 0] 32) = w2 at *
  have q0 := HC2.out.cell 0
  simp only [List.getElem?_toArray, List.getElem?_cons_zero, List.getElem?_cons_succ] at q0
  have q3 := HC2.out.cell 5
  simp only [List.getElem?_toArray, List.getElem?_cons_zero, List.getElem?_cons_succ] at q3
  clear q3
  go_wp2_with fail
  refine (rpoints_any w.heap.size (w.heap.size + 1) A b c s1 w2 HI2.out).mono ?_
  rintro e w3 hp
  obtain ⟨A3, c3, rfl, hk3, hi3, ho3⟩ := hp.kpts
  generalize hs3 : (nPts s1).2 = s3 at *
  generalize hl3 : (nPts s1).1 = l3 at *
  have HE3 := Lib.hid (And.intro hs3 hl3)
  have hsz3 := ho3.size
  obtain ⟨xc3, hxb3⟩ := HI2.out.blk
  have hC3 := HC2.out.only ho3 (fun e => absurd e (by omega))
  have hR3 := HR2.out.only ho3 (fun e => absurd e (by omega))
  have hB3 := HB2.out.trans (ho3.below (B := w.heap.size) (by omega) (fun i hi => by have hi : i = w.heap.size + 1 := hi; omega))
  have f3 := hC3.frozen 5
  have r3 := hC3.cell 5
  simp only [List.getElem?_toArray, List.getElem?_cons_zero, List.getElem?_cons_succ] at r3
  have HC4 := Lib.hid (show Blk (w3.setCell ⟨w1.heap.size, 5, none⟩ (.slice A3 l3.length c3)) w1.heap.size 32 #[.int .i64 3, .slice none 0 0, .slice none 0 0, .slice none 0 0, .int .i64 0, .slice A3 l3.length c3, .slice none 0 0, .slice none 0 0, .slice none 0 0, .slice none 0 0, .slice none 0 0, .slice none 0 0] from hC3.set_ 5 (.slice A3 l3.length c3))
  have hst4 := (Below.refl w1.heap.size w3).setCell (p := ⟨w1.heap.size, 5, none⟩) (Nat.le_refl _) (.slice A3 l3.length c3)
  have HI4 := Lib.hid (hi3.below hst4 (by omega))
  have HR4 := Lib.hid (hR3.below hst4 (by omega))
  have HB4 := Lib.hid (hB3.trans (hst4.mono (by omega)))
  have hz4 : w1.heap.size + 1 ≤ (w3.setCell ⟨w1.heap.size, 5, none⟩ (.slice A3 l3.length c3)).heap.size := by have e : (w3.setCell ⟨w1.heap.size, 5, none⟩ (.slice A3 l3.length c3)).heap.size = w3.heap.size := (by simp [World.setCell]); omega
  have HL4_0 := Lib.hid (hk3.only (Only.set_ w3 w1.heap.size 5 (.slice A3 l3.length c3)) (by omega) hC3 (by decide))
  clear hs3 hl3 hi3 ho3 hxb3 hC3 hR3 hB3 hst4 HC2 HI2 HR2 HB2 hk3 
  go_upto_region 13 with fail
  generalize w3.setCell ⟨w1.heap.size, 5, none⟩ (.slice A3 l3.length c3) = w4 at *
  clear f3 r3
  go_wp2_with fail
  refine (count_any w.heap.size (w.heap.size + 1) A b c s3 w4 HI4.out).mono ?_
  rintro e w5 ⟨rfl, hi5, ho5⟩
  have hsz5 := ho5.size
  obtain ⟨xc5, hxb5⟩ := HI4.out.blk
  have hN := rCount_le HI4.out.byt
  have HLN := Lib.hid (show nLines s3 = rLoop nPts (rCount s3).1 (rCount s3).2 from rfl)
  have HC5 := Lib.hid (HC4.out.only ho5 (fun e => absurd e (by omega)))
  have HR5 := Lib.hid (HR4.out.only ho5 (fun e => absurd e (by omega)))
  have HB5 := Lib.hid (HB4.out.trans (ho5.below (B := w.heap.size) (by omega) (fun i hi => by have hi : i = w.heap.size + 1 := hi; omega)))
  have HI5 := Lib.hid hi5
  have HL5 := Lib.hid ((HL4_0.out.only ho5 (by omega) hxb5 (by decide)).mono (base' := w.heap.size + 1) (by omega))
  generalize (rCount s3).2 = sc at *
  generalize (rCount s3).1 = N at *
  clear hi5 ho5 hxb5 HC4 HR4 HB4 HI4 HL4_0
  go_wp2_with fail
  clear q0
  go_loopg [6] N (fun kk s6 wr => ∃ (n : Nat) (done : List (List (Int × Int))) (sr : CS) (Ar : Option Addr) (cr : Nat), s6 = .int .i64 n ∧ kk = n ∧ done.length + n = N ∧ nLines s3 = (done ++ (rLoop nPts n sr).1, (rLoop nPts n sr).2) ∧ InB wr w.heap.size (w.heap.size + 1) A b c sr ∧ Blk wr w1.heap.size 32 #[.int .i64 3, .slice none 0 0, .slice none 0 0, .slice none 0 0, .int .i64 0, .slice A3 l3.length c3, .slice Ar done.length cr, .slice none 0 0, .slice none 0 0, .slice none 0 0, .slice none 0 0, .slice none 0 0] ∧ Blk wr w.heap.size 32 #[.int .i64 0, .slice none 0 0, .slice none 0 0, .slice none 0 0, .int .i64 0, .slice none 0 0, .slice none 0 0, .slice none 0 0, .slice none 0 0, .slice none 0 0, .slice none 0 0, .slice none 0 0] ∧ Below w.heap.size w wr ∧ KPts wr (w.heap.size + 1) (.slice A3 l3.length c3) l3 ∧ KLines wr (w.heap.size + 1) (.slice Ar done.length cr) done ∧ w1.heap.size + 1 ≤ wr.heap.size)
  case atStart => exact ⟨N, [], sc, none, 0, rfl, rfl, Nat.zero_add _, HLN.out, HI5.out, HC5.out, HR5.out, HB5.out, HL5.out, ⟨[], World.ownsRow_nil _ _ _ _, glines_nil⟩, by omega⟩
  case round =>
    clear HLN HI5 HC5 HR5 HB5 HL5
    obtain ⟨n, done, sr, Ar, cr, rfl, hkk, hdl, hll, hi, hc, hr, hbl, hkp, hkl, hsr⟩ := hrel
    have z2 := hi.cbad
    have q0 := hc.cell 0
    simp only [List.getElem?_toArray, List.getElem?_cons_zero, List.getElem?_cons_succ] at q0
    have Hkk := Lib.hid hkk
    have Hdl := Lib.hid hdl
    have HLL := Lib.hid hll
    have HI50 := Lib.hid hi
    have HC50 := Lib.hid hc
    have HR50 := Lib.hid hr
    have HB50 := Lib.hid hbl
    have HP50 := Lib.hid hkp
    have HK50 := Lib.hid hkl
    clear hkk hdl hll hi hc hr hbl hkp hkl
    by_cases hlt : 0 < n
    · have hlt' : (0 : Int) < n := by omega
      cases hbad : sr.bad with
      | true =>
        have HEL := Lib.hid (show nLines s3 = (done, sr) by rw [HLL.out, rLoop_stop _ hbad, List.append_nil])
        rw [hbad] at z2
        go_wp2_with fail
        refine wp_loop_rounds 2 ?_
        rw [rounds_succ]
        go_upto_region 23 with fail
        clear z2
        have HRR : refRead 3 s1 = (⟨3, [], [], [], 0, l3, done, [], [], [], [], []⟩, sr) := by
          unfold refRead
          rw [if_neg (by decide), if_neg (by decide), if_pos rfl]
          simp only [HE3.out.1, HE3.out.2, HEL.out]
        rw [HRR] at HD
        clear HRR
        obtain ⟨t, z1, z2, hin⟩ := inb_none HI50.out
        have Hin := Lib.hid hin
        clear hin
        have HN := Lib.hid (show refD b = none by rw [HD.out, if_pos (.inl hbad)])
        rw [hbad] at z2
        clear hbad
        have u0 := HR50.out.cell 0
        have u1 := HR50.out.cell 1
        have u2 := HR50.out.cell 2
        have u3 := HR50.out.cell 3
        have u4 := HR50.out.cell 4
        have u5 := HR50.out.cell 5
        have u6 := HR50.out.cell 6
        have u7 := HR50.out.cell 7
        have u8 := HR50.out.cell 8
        have u9 := HR50.out.cell 9
        have u10 := HR50.out.cell 10
        have u11 := HR50.out.cell 11
        simp only [List.getElem?_toArray, List.getElem?_cons_zero, List.getElem?_cons_succ] at u0 u1 u2 u3 u4 u5 u6 u7 u8 u9 u10 u11
        have p0 := HR50.out.frozen 0
        have p1 := HR50.out.frozen 1
        have p2 := HR50.out.frozen 2
        have p3 := HR50.out.frozen 3
        have p4 := HR50.out.frozen 4
        have p5 := HR50.out.frozen 5
        have p6 := HR50.out.frozen 6
        have p7 := HR50.out.frozen 7
        have p8 := HR50.out.frozen 8
        have p9 := HR50.out.frozen 9
        have p10 := HR50.out.frozen 10
        have p11 := HR50.out.frozen 11
        go_wp2_with fail
        refine bodyPost_ret (rdec_results rfl rfl (set12_blk HR50.out rfl ..) rfl) rfl ?_
        exact ⟨set12_below HB50.out (Nat.le_refl _) .., fun _ => rfl, fun x hx => by rw [HN.out] at hx; cases hx⟩
      | false =>
        rw [hbad] at z2
        clear q0
        have hdN : done.length + 1 ≤ 128 := by have := Hdl.out; omega
        have hwn : wrap64 ((n : Int) - 1) = ((n - 1 : Nat) : Int) := by have := Hdl.out; unfold wrap64; omega
        have Hgo := Lib.hid (rLoop_go (each := nPts) (k := n - 1) hbad)
        rw [show n - 1 + 1 = n by omega] at Hgo
        obtain ⟨xs, hx1, hx2⟩ := HK50.out
        have HX1 := Lib.hid hx1
        have HX2 := Lib.hid hx2
        have zc : wr.cell? ⟨w1.heap.size, 6, none⟩ = some (.slice Ar done.length cr) := HC50.out.cell 6
        have Hzc := Lib.hid zc
        obtain ⟨xg, hxg⟩ := HI50.out.blk
        have HXG := Lib.hid hxg
        have hB1 : w.heap.size ≤ w.heap.size + 1 := Nat.le_succ _
        clear hbad hx1 hx2 zc hxg
        go_upto_region 16 with fail
        clear z2
        refine R3.wp_region_i (w.heap.size + 1) [[], [68], [26], [32]] [0, 0, 0, 0, 1, 0, 2, 0, 0, 3]
          [([], .val (.pointer (some ⟨w1.heap.size, 5, none⟩))), ([0], .val (.pointer (some ⟨w1.heap.size, 6, none⟩))), ([1], .val (.slice Ar done.length cr)), ([], .val (.pointer (some ⟨w.heap.size + 1, 0, none⟩))),
            ([3], pfCall w.heap.size (w.heap.size + 1) hB1 A b c (nPts sr).1 (nPts sr).2), ([4], pfOne 4 26), ([2, 5], pfApp 4 26 (done.length + 1) xs), ([], .val (.pointer (some ⟨w1.heap.size, 5, none⟩))), ([7], .val (.pointer (some ⟨w1.heap.size, 6, none⟩))),
            ([6, 8], pfPut w1.heap.size 6 32 (fun v => #[.int .i64 3, .slice none 0 0, .slice none 0 0, .slice none 0 0, .int .i64 0, .slice A3 l3.length c3, v, .slice none 0 0, .slice none 0 0, .slice none 0 0, .slice none 0 0, .slice none 0 0]))] [4, 6, 9] (by kernel_rfl) (by kernel_rfl) (fun us => ?_) ?_
        · refine R3.pgo_pure _ rfl rfl (fun wv hw hu => ⟨.pointer (some ⟨w1.heap.size, 5, none⟩), ?_, rfl⟩) ?_
          · clear hw hu
            go_simp
          refine R3.pgo_pure _ rfl rfl (fun wv hw hu => ⟨.pointer (some ⟨w1.heap.size, 6, none⟩), ?_, rfl⟩) ?_
          · have h0 : us 0 = .pointer (some ⟨w1.heap.size, 5, none⟩) := hu.1
            clear hw hu
            go_simp
          refine R3.pgo_pure _ rfl rfl (fun wv hw hu => ⟨.slice Ar done.length cr, ?_, rfl⟩) ?_
          · have h1 : us 1 = .pointer (some ⟨w1.heap.size, 6, none⟩) := hu.1
            have zy : wv.cell? ⟨w1.heap.size, 6, none⟩ = some (.slice Ar done.length cr) := (HC50.out.drew.evo hw (.inr (of_decide_eq_true (by kernel_rfl)))).cell 6
            clear hw hu
            go_simp
          refine R3.pgo_pure _ rfl rfl (fun wv hw hu => ⟨.pointer (some ⟨w.heap.size + 1, 0, none⟩), ?_, rfl⟩) ?_
          · clear hw hu
            go_simp
          refine R3.pgo_op _ rfl rfl (fun K wv hw hu hK => ?_) ?_
          · have h3 : us 3 = .pointer (some ⟨w.heap.size + 1, 0, none⟩) := hu.1
            have hiv := HI50.out.below (below_undrew (evo_nil (by kernel_rfl) hw)) HI50.out.lt
            obtain ⟨xv, hxv⟩ := hiv.blk
            have hsv := hiv.lt
            refine wpo_call (f := 31) (args := #[.pointer (some ⟨w.heap.size + 1, 0, none⟩)]) ?_ ((rpoints_any w.heap.size (w.heap.size + 1) A b c sr wv hiv).mono fun e w'' hp => ?_)
            · clear hw hu hK hiv hxv
              go_simp
            · obtain ⟨A4, c4, rfl, hk4, hi4, ho4⟩ := hp.kpts
              exact ⟨_, rfl, hK _ _ (evo_ox ho4 hxv (Nat.le_refl _)) ⟨A4, c4, rfl, hk4.mono (by omega), hi4⟩⟩
          refine R3.pgo_op _ rfl rfl (fun K wv hw hu hK => ?_) ?_
          · obtain ⟨A4, c4, h4, _, hi4⟩ := hu.1
            have h4 : us 4 = .slice A4 (nPts sr).1.length c4 := h4
            have hsv := hi4.lt
            have hfin := hK (.slice (some ⟨wv.heap.size, 0, none⟩) 1 1) (wv.alloc (.cells #[us 4] 26)) (Evo.of_below ((Below.refl _ _).alloc (Nat.le_refl _) _)) ⟨_, rfl, by omega, Blk.new _ _ _, by rw [h4]; rfl⟩
            refine wpo_value (v := .slice (some ⟨wv.heap.size, 0, none⟩) 1 1) (w' := wv.alloc (.cells #[us 4] 26)) ?_ hfin
            rw [h4]
            clear hw hu hK hi4 hfin
            go_simp
          refine R3.pgo_op _ rfl rfl (fun K wv hw hu hK => ?_) ?_
          · have h2 : us 2 = .slice Ar done.length cr := hu.1
            obtain ⟨g, h5, hg5, hb5, hu4⟩ := hu.2.1
            have how : wv.ownsRow (w.heap.size + 1) 26 1 (.slice Ar done.length cr) done.length xs := own_evo (w := wr.drew) HX1.out hw (of_decide_eq_true (by kernel_rfl))
            have hsv : w.heap.size + 1 ≤ wv.heap.size := Nat.le_of_lt (Nat.lt_of_le_of_lt hg5 hb5.lt)
            refine wpo_app_any elemLine _ _ rfl (by repeat (first | (with_reducible exact (put_eval_same _ _ _ (by simp [put_size])).trans h2) | (with_reducible refine put_eval _ _ _ _ _ (by decide) ?_))) how (by repeat (first | (with_reducible exact (put_eval_same _ _ _ (by simp [put_size])).trans h5) | (with_reducible refine put_eval _ _ _ _ _ (by decide) ?_))) (Cells.blk' (xs := [us 4]) hb5) rfl (by simp [hu4]) (by omega) (by omega) hsv fun v' w' ho' hgr hd => ?_
            obtain ⟨A6, c6, rfl⟩ := own_slice ho'
            exact hK _ _ (Evo.of_grown how hgr (by simp) (Nat.le_refl _)) ⟨A6, c6, rfl, ho'⟩
          refine R3.pgo_pure _ rfl rfl (fun wv hw hu => ⟨.pointer (some ⟨w1.heap.size, 5, none⟩), ?_, rfl⟩) ?_
          · clear hw hu
            go_simp
          refine R3.pgo_pure _ rfl rfl (fun wv hw hu => ⟨.pointer (some ⟨w1.heap.size, 6, none⟩), ?_, rfl⟩) ?_
          · have h7 : us 7 = .pointer (some ⟨w1.heap.size, 5, none⟩) := hu.1
            clear hw hu
            go_simp
          refine R3.pgo_skip _ rfl rfl (fun wv hw hu => ?_) ?_
          · obtain ⟨A6, c6, h6, ho6⟩ := hu.1
            have h8 : us 8 = .pointer (some ⟨w1.heap.size, 6, none⟩) := hu.2.1
            have h6 : us 6 = .slice A6 (done.length + 1) c6 := h6
            have hbv := HC50.out.drew.evo hw (.inr (of_decide_eq_true (by kernel_rfl)))
            have zy := hbv.cell 6
            simp only [List.getElem?_toArray, List.getElem?_cons_zero, List.getElem?_cons_succ] at zy
            have fy := hbv.frozen 6
            refine ⟨wv.setCell ⟨w1.heap.size, 6, none⟩ (us 6), ?_, Evo.set_ hbv (by simp) (by omega) 6 _, hbv.set_ 6 _⟩
            rw [h6]
            clear hw hu ho6 hbv
            go_simp
          trivial
        · intro us w' hw hu
          obtain ⟨⟨A4, c4, h4, hk4, hi4⟩, ⟨A6, c6, h6, ho6⟩, hc9, _⟩ := hu
          have h4 : us 4 = .slice A4 (nPts sr).1.length c4 := h4
          have h6 : us 6 = .slice A6 (done.length + 1) c6 := h6
          have hszr : wr.heap.size ≤ w'.heap.size := hw.size
          have hBr : w.heap.size + 1 ≤ wr.drew.heap.size := Nat.le_of_lt (Nat.lt_of_lt_of_le (show w.heap.size + 1 < w1.heap.size by omega) (show w1.heap.size ≤ wr.heap.size by omega))
          have HC9 := Lib.hid (show Blk w' w1.heap.size 32 #[.int .i64 3, .slice none 0 0, .slice none 0 0, .slice none 0 0, .int .i64 0, .slice A3 l3.length c3, us 6, .slice none 0 0, .slice none 0 0, .slice none 0 0, .slice none 0 0, .slice none 0 0] from hc9)
          have HI9 := Lib.hid hi4
          have HR9 := Lib.hid (HR50.out.drew.evo hw (.inl (Nat.lt_succ_self _)))
          have HB9 := Lib.hid (HB50.out.trans (below_undrew ((hw.below hBr).mono (Nat.le_succ _))))
          have HP9 := Lib.hid (show KPts w' (w.heap.size + 1) _ _ from own_evo (w := wr.drew) HP50.out hw (of_decide_eq_true (by kernel_rfl)))
          have HG9 := Lib.hid (glines_push (x := (nPts sr).1) (u := us 4) (glines_evo (w := wr.drew) HX2.out hw (of_decide_eq_true (by kernel_rfl))) hk4 (Nat.le_refl _))
          have HO9 := Lib.hid (show w'.ownsRow (w.heap.size + 1) 26 1 (us 6) (done.length + 1) (xs ++ [us 4]) from ho6)
          rw [h6] at HC9 HO9
          clear hw hk4 hi4 ho6 hc9 h4
          simp only [lexL]
          go_simp
          go_wp2_with fail
          go_roundg (n - 1)
          case measure => rw [Hkk.out]; omega
          case rel => exact ⟨n - 1, done ++ [(nPts sr).1], (nPts sr).2, A6, c6, by first | rw [hwn] | go_num, rfl, by rw [List.length_append, List.length_singleton]; have := Hdl.out; omega, by rw [HLL.out, Hgo.out]; simp, HI9.out, by rw [List.length_append, List.length_singleton]; exact HC9.out, HR9.out, HB9.out, HP9.out, ⟨xs ++ [us 4], by rw [List.length_append, List.length_singleton]; exact HO9.out, HG9.out⟩, by omega⟩
    · have hn0 : n = 0 := by omega
      have hlt' : ¬ (0 : Int) < n := by omega
      have HEL := Lib.hid (show nLines s3 = (done, sr) by rw [HLL.out, hn0]; exact congrArg (fun l => (l, sr)) (List.append_nil done))
      go_wp2_with fail
      refine wp_loop_rounds 2 ?_
      rw [rounds_succ]
      go_upto_region 23 with fail
      clear z2
      have HRR : refRead 3 s1 = (⟨3, [], [], [], 0, l3, done, [], [], [], [], []⟩, sr) := by
        unfold refRead
        rw [if_neg (by decide), if_neg (by decide), if_pos rfl]
        simp only [HE3.out.1, HE3.out.2, HEL.out]
      rw [HRR] at HD
      clear HRR
      obtain ⟨t, z1, z2, hin⟩ := inb_none HI50.out
      have Hin := Lib.hid hin
      clear hin
      cases hbad : sr.bad with
      | true =>
        have HN := Lib.hid (show refD b = none by rw [HD.out, if_pos (.inl hbad)])
        rw [hbad] at z2
        clear hbad
        have u0 := HR50.out.cell 0
        have u1 := HR50.out.cell 1
        have u2 := HR50.out.cell 2
        have u3 := HR50.out.cell 3
        have u4 := HR50.out.cell 4
        have u5 := HR50.out.cell 5
        have u6 := HR50.out.cell 6
        have u7 := HR50.out.cell 7
        have u8 := HR50.out.cell 8
        have u9 := HR50.out.cell 9
        have u10 := HR50.out.cell 10
        have u11 := HR50.out.cell 11
        simp only [List.getElem?_toArray, List.getElem?_cons_zero, List.getElem?_cons_succ] at u0 u1 u2 u3 u4 u5 u6 u7 u8 u9 u10 u11
        have p0 := HR50.out.frozen 0
        have p1 := HR50.out.frozen 1
        have p2 := HR50.out.frozen 2
        have p3 := HR50.out.frozen 3
        have p4 := HR50.out.frozen 4
        have p5 := HR50.out.frozen 5
        have p6 := HR50.out.frozen 6
        have p7 := HR50.out.frozen 7
        have p8 := HR50.out.frozen 8
        have p9 := HR50.out.frozen 9
        have p10 := HR50.out.frozen 10
        have p11 := HR50.out.frozen 11
        go_wp2_with fail
        refine bodyPost_ret (rdec_results rfl rfl (set12_blk HR50.out rfl ..) rfl) rfl ?_
        exact ⟨set12_below HB50.out (Nat.le_refl _) .., fun _ => rfl, fun x hx => by rw [HN.out] at hx; cases hx⟩
      | false =>
        rw [hbad] at z2
        by_cases ht : t < b.length
        · have ht' : (t : Int) < b.length := by omega
          have HN := Lib.hid (show refD b = none by rw [HD.out, if_pos (.inr fun e => Hin.out.1 e ht)])
          clear hbad
          have u0 := HR50.out.cell 0
          have u1 := HR50.out.cell 1
          have u2 := HR50.out.cell 2
          have u3 := HR50.out.cell 3
          have u4 := HR50.out.cell 4
          have u5 := HR50.out.cell 5
          have u6 := HR50.out.cell 6
          have u7 := HR50.out.cell 7
          have u8 := HR50.out.cell 8
          have u9 := HR50.out.cell 9
          have u10 := HR50.out.cell 10
          have u11 := HR50.out.cell 11
          simp only [List.getElem?_toArray, List.getElem?_cons_zero, List.getElem?_cons_succ] at u0 u1 u2 u3 u4 u5 u6 u7 u8 u9 u10 u11
          have p0 := HR50.out.frozen 0
          have p1 := HR50.out.frozen 1
          have p2 := HR50.out.frozen 2
          have p3 := HR50.out.frozen 3
          have p4 := HR50.out.frozen 4
          have p5 := HR50.out.frozen 5
          have p6 := HR50.out.frozen 6
          have p7 := HR50.out.frozen 7
          have p8 := HR50.out.frozen 8
          have p9 := HR50.out.frozen 9
          have p10 := HR50.out.frozen 10
          have p11 := HR50.out.frozen 11
          go_wp2_with fail
          refine bodyPost_ret (rdec_results rfl rfl (set12_blk HR50.out rfl ..) rfl) rfl ?_
          exact ⟨set12_below HB50.out (Nat.le_refl _) .., fun _ => rfl, fun x hx => by rw [HN.out] at hx; cases hx⟩
        · have ht' : ¬ (t : Int) < b.length := by omega
          have HX := Lib.hid (show refD b = some ⟨3, [], [], [], 0, l3, done, [], [], [], [], []⟩ by
            rw [HD.out, if_neg]
            rintro (h | h)
            · rw [hbad] at h; cases h
            · exact h (Hin.out.2 ht))
          clear hbad
          have u0 := HR50.out.cell 0
          have u1 := HR50.out.cell 1
          have u2 := HR50.out.cell 2
          have u3 := HR50.out.cell 3
          have u4 := HR50.out.cell 4
          have u5 := HR50.out.cell 5
          have u6 := HR50.out.cell 6
          have u7 := HR50.out.cell 7
          have u8 := HR50.out.cell 8
          have u9 := HR50.out.cell 9
          have u10 := HR50.out.cell 10
          have u11 := HR50.out.cell 11
          simp only [List.getElem?_toArray, List.getElem?_cons_zero, List.getElem?_cons_succ] at u0 u1 u2 u3 u4 u5 u6 u7 u8 u9 u10 u11
          have p0 := HR50.out.frozen 0
          have p1 := HR50.out.frozen 1
          have p2 := HR50.out.frozen 2
          have p3 := HR50.out.frozen 3
          have p4 := HR50.out.frozen 4
          have p5 := HR50.out.frozen 5
          have p6 := HR50.out.frozen 6
          have p7 := HR50.out.frozen 7
          have p8 := HR50.out.frozen 8
          have p9 := HR50.out.frozen 9
          have p10 := HR50.out.frozen 10
          have p11 := HR50.out.frozen 11
          go_wp2_with (refine wpl_load rfl _ _ rfl w1.heap.size rfl 32 #[.int .i64 3, .slice none 0 0, .slice none 0 0, .slice none 0 0, .int .i64 0, .slice A3 l3.length c3, .slice Ar done.length cr, .slice none 0 0, .slice none 0 0, .slice none 0 0, .slice none 0 0, .slice none 0 0] _ HC50.out Try.underlying32 rfl (crt_info rfl) ?_)
          refine bodyPost_ret (rdec_results rfl rfl (set12_blk HR50.out rfl ..) rfl) rfl ?_
          have hO := set12_only wr w.heap.size (.int .i64 3) (.slice none 0 0) (.slice none 0 0) (.slice none 0 0) (.int .i64 0) (.slice A3 l3.length c3) (.slice Ar done.length cr) (.slice none 0 0) (.slice none 0 0) (.slice none 0 0) (.slice none 0 0) (.slice none 0 0)
          refine ⟨set12_below HB50.out (Nat.le_refl _) .., fun hx => (by rw [HX.out] at hx; cases hx), fun x hx => ?_⟩
          rw [HX.out] at hx
          injection hx with hx
          subst hx
          exact ⟨{ CV0 with a5 := A3, c5 := c3, a6 := Ar, c6 := cr }, rfl, ⟨Cells.nil, TblAt.nil, TblAt.nil, (HP50.out.only hO (by omega) HR50.out (by decide)).cells, (HK50.out.only hO (by omega) HR50.out (by decide)).cells, Cells.nil, Cells.nil, Cells.nil, Cells.nil, Cells.nil⟩⟩
end Go.Proofs.Ytmlbjcngboegfaa
