/-
  The reference's Encode, by kinds. Written by an AI agent.
-/
import Derived.Test.YtmlbjcngboegfaaRefE0
namespace Go.Proofs.Ytmlbjcngboegfaa
open Go.RowKit

set_option maxRecDepth 100000 in
set_option maxHeartbeats 4000000 in
theorem refE8_3 (V : CV) (x : Crt) (w w1 : World) (HX : Blk w1 w.heap.size 32 (crtCells V x)) (HI : CrtIs w1 w.heap.size V x) (HB : Below w.heap.size w w1) (hl : CrtSm x) (hk : x.k = 3) (hbad : refBad x = false) (u0 u4 u5 u6 u7 u8 u29 u30 u31 u32 u33 u34 u35 u36 u37 u38 u39 u40 u41 u42 u43 u44 u45 u46 u47 u48 u49 u50 u51 u52 u53 u54 u55 u56 u57 u58 u59 u60 u61 u62 u63 u64 u65 u66 u67 u68 u69 u70 u71 u72 u73 u74 u75 u76 u77 u78 u79 u80 u81 u82 u83 u84 u85 u86 u87 u88 u89 u90 u91 u92 u93 u94 u95 u96 u97 u98 u99 u100 u101 u102 u103 u104 u105 u106 u107 u108 u109 u110 u111 u112 u113 u114 u115 u116 u117 u118 u119 u120 u121 u122 u123 u124 u125 u126 u127 u128 u129 u130 u131 u132 u133 u134 u135 : Value) (K : Act → World → Prop) (hK : ∀ a0 w0, Code.wp Try.prog (sndC (restC 7 ((Try.f11.body).getD .skip))) (bodyPost Try.prog Try.f11 (RefEncPost x w)) a0 w0 → K a0 w0) : Code.wp Try.prog (fstC (restC 7 ((Try.f11.body).getD .skip))) (Exit.then K (bodyPost Try.prog Try.f11 (RefEncPost x w))) ⟨#[u0, .pointer (some ⟨w.heap.size, 0, none⟩), .slice none 0 0, .bool false, u4, u5, u6, u7, u8, undef, undef, undef, undef, undef, undef, undef, undef, undef, undef, undef, undef, undef, undef, undef, undef, undef, undef, undef, undef, u29, u30, u31, u32, u33, u34, u35, u36, u37, u38, u39, u40, u41, u42, u43, u44, u45, u46, u47, u48, u49, u50, u51, u52, u53, u54, u55, u56, u57, u58, u59, u60, u61, u62, u63, u64, u65, u66, u67, u68, u69, u70, u71, u72, u73, u74, u75, u76, u77, u78, u79, u80, u81, u82, u83, u84, u85, u86, u87, u88, u89, u90, u91, u92, u93, u94, u95, u96, u97, u98, u99, u100, u101, u102, u103, u104, u105, u106, u107, u108, u109, u110, u111, u112, u113, u114, u115, u116, u117, u118, u119, u120, u121, u122, u123, u124, u125, u126, u127, u128, u129, u130, u131, u132, u133, u134, u135, undef, undef, undef, undef, undef, undef, undef, undef, undef, undef, undef, undef, undef, undef, undef, undef, undef, undef, undef, undef, undef, undef, undef, undef, undef, undef, undef, undef, undef, undef, undef, undef, undef, undef, undef, undef, undef, undef, undef, undef, undef, undef, undef, undef, undef, undef, undef, undef, undef, undef, undef, undef, undef, undef, undef, undef, undef, undef, undef, undef, undef, undef, undef, undef, undef, undef, undef, undef, undef, undef, undef, undef, undef, undef, undef, undef, undef, undef, undef, undef, undef, undef, undef, undef, undef, undef, undef, undef, undef, undef, undef, undef, undef, undef, undef, undef, undef, undef, undef, undef, undef, undef, undef, undef, undef, undef, undef, undef, undef, undef, undef, undef, undef, undef, undef, undef, undef, undef, undef, undef, undef, undef, undef, undef, undef, undef, undef, undef, undef, undef, undef, undef, undef, undef, undef, undef, undef, undef, undef, undef, undef], []⟩ w1 := by
  refine wp_mono (Q := Exit.then (fun a0 w0 => Code.wp Try.prog (sndC (restC 7 ((Try.f11.body).getD .skip))) (bodyPost Try.prog Try.f11 (RefEncPost x w)) a0 w0) (bodyPost Try.prog Try.f11 (RefEncPost x w))) ?_ (then_k hK)
  clear hK
  conv => arg 2; whnf
  conv => arg 3; arg 1; ext a w; arg 2; whnf
  refine then_open fun K2 hK2 => ?_
  have HX1 := Lib.hid HX
  unfold crtCells at HX1
  have HI1 := Lib.hid HI
  have HB1 := Lib.hid HB
  have HS := Lib.hid hl
  obtain ⟨l1, l2, l3, l5, l6, l7, l8, l9, l10, l11⟩ := hl.le
  have hlt1 := HX1.out.lt
  clear HX HI HB hl
  have HK := Lib.hid hk
  have HBad := Lib.hid hbad
  have gk1 : 1 ≤ x.k := by omega
  have gk2 : x.k ≤ 6 := by omega
  clear hk hbad
  have q0 := HX1.out.cell 0
  simp only [List.getElem?_toArray, List.getElem?_cons_zero, List.getElem?_cons_succ] at q0
  have hw8 : IntKind.u8.wrap x.k = x.k := by rw [IntKind.wrap_u8]; omega
  have hown0 : (w1.alloc (.cells #[.int .u8 x.k] 5)).ownsRow w1.heap.size 5 1 (.slice (some ⟨w1.heap.size, 0, none⟩) 1 1) 1 (byteCells [x.k]) := own_of_blk (blk_new' _ _ _ _ rfl) (Nat.le_refl _) rfl (by omega)
  have hb2 := (Below.refl w1.heap.size w1).alloc (Nat.le_refl _) (.cells #[.int .u8 x.k] 5)
  have HB2 := Lib.hid (HB1.out.trans (hb2.mono (Nat.le_of_lt hlt1)))
  have HI2 := Lib.hid ((HI1.out.below (hb2.mono (Nat.le_of_lt hlt1))).more (show w.heap.size ≤ (w1.alloc (.cells #[.int .u8 x.k] 5)).heap.size by simp; omega))
  have hz2 : (w1.alloc (.cells #[.int .u8 x.k] 5)).heap.size = w1.heap.size + 1 := by simp
  have Q := Lib.hid (fun (j : Nat) => (hb2.cell (p := ⟨w.heap.size, j, none⟩) hlt1).trans (HX1.out.cell j))
  have Hown0 := Lib.hid hown0
  have HI1' := HI1
  have hb12 := hb2
  clear hown0 hb2 HI1
  have k1 : ¬ x.k = 1 := fun e => absurd (e.symm.trans HK.out) (by decide)
  have k2 : ¬ x.k = 2 := fun e => absurd (e.symm.trans HK.out) (by decide)
  have k3 : x.k = 3 := HK.out
  have n1 : (x.k == 1) = false := by rw [k3]; rfl
  have n2 : (x.k == 2) = false := by rw [k3]; rfl
  have n3 : (x.k == 3) = true := by rw [k3]; rfl
  have HE := Lib.hid (show refI x = (listO ptO x.pts).bind fun a => (listO (listO ptO) x.lines).map (a ++ ·) by unfold refI; rw [if_neg k1, if_neg k2, if_pos k3])
  have r0 := Q.out 0
  have r5 := Q.out 5
  have r6 := Q.out 6
  simp only [List.getElem?_toArray, List.getElem?_cons_zero, List.getElem?_cons_succ] at r0 r5 r6
  have Hk := Lib.hid k3
  clear k1 k2 k3
  go_wp2_with fail
  generalize w1.alloc (.cells #[.int .u8 x.k] 5) = w2 at *
  refine (refPoints_any V.a5 V.c5 x.pts w2 (HI2.out.h5.more (by omega)) (by omega)).mono ?_
  rintro e w3 hp
  obtain ⟨hb3, A3, c3, a, ok1, rfl, hal, hC3, hf3, ho3⟩ := hp.out 1025 (fun bs h => ptsO_len _ _ h)
  have Ho3 := Lib.hid ho3
  have HB3 := Lib.hid (HB2.out.trans (hb3.mono (by omega)))
  have hz3 := hb3.size
  have HB13a := Lib.hid (hb12.trans (hb3.mono (show w1.heap.size ≤ w2.heap.size by omega)))
  have hown3 := own_below Hown0.out hb3 (Nat.le_refl _)
  have r6 := (hb3.cell (p := ⟨w.heap.size, 6, none⟩) (by show w.heap.size < w2.heap.size; omega)).trans r6
  have hz31 : w1.heap.size ≤ w3.heap.size := by omega
  clear hp hb3 hf3 ho3 r5
  go_wp2_with (at_builtin; refine wp_app_any elemByte rfl _ _ rfl rfl hown3 rfl hC3 (show (byteCells a).length = a.length * 1 by simp [byteCells]) (bytes_one a) ?h2 ?h3 ?h4 ?_)
  case h2 => omega
  case h3 => omega
  case h4 => exact hz31
  intro v4 w4 hown4 hg4 _
  have hb4 := below_app (Below.refl w1.heap.size _) hown3 hg4 hz31 (Nat.le_refl _)
  have r6 := (hb4.cell (p := ⟨w.heap.size, 6, none⟩) hlt1).trans r6
  have HB4 := Lib.hid (HB3.out.trans (hb4.mono (Nat.le_of_lt hlt1)))
  have HB13 := Lib.hid (HB13a.out.trans hb4)
  have hz4 := hg4.size
  obtain ⟨A4, c4, rfl⟩ := own_slice hown4
  have hz41 := Nat.le_trans hz31 hz4
  clear hown3 hg4 hC3 hb4
  by_cases hl128 : 128 < x.lines.length
  · have hl128' : (128 : Int) < x.lines.length := by omega
    have HP := Lib.hid (show ∀ A m c, RefEncPost x w (.returned (.tuple #[.slice A m c, .bool false])) w4 from fun A m c => by
      have hi : refI x = none := by
        rw [HE.out]
        have : listO (listO ptO) x.lines = none := by unfold listO; rw [if_pos hl128]
        rw [this]
        cases listO ptO x.pts <;> rfl
      have he : refE x = none := by unfold refE; rw [hi]; split <;> rfl
      exact ⟨HB4.out, fun _ => ⟨A, m, c, rfl⟩, fun bs h => by rw [he] at h; cases h⟩)
    clear hl128
    go_wp2_with fail
    go_ret2
    exact HP.out _ _ _
  have hl128' : ¬ (128 : Int) < x.lines.length := by omega
  have HLL := Lib.hid (show listO (listO ptO) x.lines = (goO (listO ptO) x.lines).map ((x.lines.length : Int) :: ·) by unfold listO; rw [if_neg hl128])
  have hw9 : IntKind.u8.wrap (x.lines.length : Int) = x.lines.length := by rw [IntKind.wrap_u8]; omega
  have hle128 : x.lines.length ≤ 128 := by omega
  clear hl128
  go_wp2_with (at_builtin; refine wp_app elemByte rfl _ _ rfl w1.heap.size (.slice A4 (1 + a.length) c4) _ _ rfl w4.heap.size [.int .u8 (x.lines.length : Int)] rfl rfl hown4 rfl rfl ?_ ?_ hz41 ?_)
  · omega
  · omega
  intro v5 w5 hown5 hg5 _
  have hb5 := below_app (Below.refl w1.heap.size _) hown4 hg5 hz41 (Nat.le_refl _)
  have r6 := (hb5.cell (p := ⟨w.heap.size, 6, none⟩) hlt1).trans r6
  have HB5 := Lib.hid (HB4.out.trans (hb5.mono (Nat.le_of_lt hlt1)))
  have Hb15 := Lib.hid (HB13.out.trans hb5)
  have hz5 := Nat.le_trans hz41 hg5.size
  obtain ⟨A5, c5, rfl⟩ := own_slice hown5
  have Hown5 := Lib.hid (show w5.ownsRow w1.heap.size 5 1 (.slice A5 (1 + a.length + 1) c5) (1 + a.length + 1) (byteCells (x.k :: (a ++ [(x.lines.length : Int)]))) from by
    have e : byteCells (x.k :: (a ++ [(x.lines.length : Int)])) = byteCells [x.k] ++ byteCells a ++ [.int .u8 (x.lines.length : Int)] := by simp [byteCells]
    rw [e]
    first | exact hown5 | (rw [List.append_assoc]; exact hown5))
  clear hown4 hg5 hb5 hown5 r0 hb12 HB13a
  go_wp2_with fail
  go_loopg [9, 19, 20] x.lines.length (fun g s9 s19 s20 wr => ∃ (i : Nat) (p : List Int) (ok okp : Bool) (A1 : Option Addr) (c1 : Nat), s20 = .int .i64 i ∧ i ≤ x.lines.length ∧ g = x.lines.length - i ∧ ok = (ok1 && okp) ∧ s19 = .bool ok ∧ s9 = .slice A1 (1 + a.length + 1 + p.length) c1 ∧ p.length ≤ 1025 * i ∧ goO (listO ptO) (x.lines.take i) = (if okp = true then some p else none) ∧ Below w1.heap.size w5 wr ∧ Below w.heap.size w wr ∧ wr.ownsRow w1.heap.size 5 1 (.slice A1 (1 + a.length + 1 + p.length) c1) (1 + a.length + 1 + p.length) (byteCells (x.k :: (a ++ (x.lines.length : Int) :: p))))
  case atStart => exact ⟨0, [], ok1, true, _, _, rfl, by omega, rfl, by simp, rfl, rfl, by simp, rfl, Below.refl _ _, HB5.out, Hown5.out⟩
  case round =>
    obtain ⟨i, p, ok, okp, A1, c1, rfl, hi, hk, hok, rfl, rfl, hpl, hgo, hb1r, hb, hown⟩ := hrel
    have Hk2 := Lib.hid hk
    have Hgo := Lib.hid hgo
    have Hok := Lib.hid hok
    have Hb1r := Lib.hid hb1r
    have Hb := Lib.hid hb
    have Hown := Lib.hid hown
    have hszr := hb1r.size
    have hcell1 := (hb1r.cell (p := ⟨w.heap.size, 6, none⟩) hlt1).trans r6
    clear hk hgo hb1r hb hown hok
    by_cases hlt : i < x.lines.length
    · have hlt' : (i : Int) < x.lines.length := by omega
      obtain ⟨bL, oL, eL, hbL, cc⟩ := HI1'.out.h6 (by omega)
      obtain ⟨Az, cz, e0, hCz⟩ := cc i hlt
      have hbw := Hb15.out.trans Hb1r.out
      have e0 := (hbw.cell (p := ⟨bL, oL + i, none⟩) (by show bL < w1.heap.size; omega)).trans e0
      have HR := Lib.hid (refPoints_any Az cz x.lines[i] wr ((hCz.below (hbw.mono (Nat.le_of_lt hlt1))).more (by omega)) (by have := HS.out.lines _ (List.getElem_mem hlt); omega))
      have HST := Lib.hid (goO_step (listO ptO) hlt)
      rw [eL] at hcell1
      clear eL
      generalize x.lines[i] = z at *
      clear hCz cc hbw
      go_wp2_with fail
      refine HR.out.mono ?_
      rintro e w6 hp
      obtain ⟨hb6, A6, c6, b, ok2, rfl, hbl, hC6, hf6, ho6⟩ := hp.out 1025 (fun bs h => ptsO_len _ _ h)
      have HGO := Lib.hid (show goO (listO ptO) (x.lines.take (i + 1)) = (if (okp && ok2) = true then some (p ++ b) else none) by rw [HST.out, Hgo.out, ho6]; cases okp <;> cases ok2 <;> rfl)
      have HB6 := Lib.hid (Hb.out.trans (hb6.mono (by omega)))
      have HB16 := Lib.hid (Hb1r.out.trans (hb6.mono (by omega)))
      have hz6 := hb6.size
      have hown6 := own_below Hown.out hb6 (Nat.le_refl _)
      have hz61 : w1.heap.size ≤ w6.heap.size := by omega
      clear hp hb6 hf6 ho6 hcell1 e0
      cases ok with
      | true =>
        go_wp2_with (at_builtin; refine wp_app_any elemByte rfl _ _ rfl rfl hown6 rfl hC6 (show (byteCells b).length = b.length * 1 by simp [byteCells]) (bytes_one b) ?h2 ?h3 ?h4 ?_)
        case h2 => omega
        case h3 => omega
        case h4 => exact hz61
        intro v7 w7 hown7 hg7 _
        have hb7 := below_app (Below.refl w1.heap.size _) hown6 hg7 hz61 (Nat.le_refl _)
        obtain ⟨A7, c7, rfl⟩ := own_slice hown7
        have HB7 := Lib.hid (And.intro (HB16.out.trans hb7) (HB6.out.trans (hb7.mono (Nat.le_of_lt hlt1))))
        rw [← byteCells_append, List.cons_append, List.append_assoc, List.cons_append] at hown7
        have Hown7 := Lib.hid hown7
        clear hown6 hg7 hC6 hb7 hown7
        go_wp2_with fail
        go_roundg (x.lines.length - (i + 1))
        case measure => rw [Hk2.out]; omega
        case rel => exact ⟨i + 1, p ++ b, _, okp && ok2, A7, c7, by go_num, by omega, rfl, ok_step_true Hok.out _, rfl, by rw [List.length_append, Nat.add_assoc], by rw [List.length_append]; omega, HGO.out, HB7.out.1, HB7.out.2, by rw [List.length_append, ← Nat.add_assoc]; exact Hown7.out⟩
      | false =>
        go_wp2_with (at_builtin; refine wp_app_any elemByte rfl _ _ rfl rfl hown6 rfl hC6 (show (byteCells b).length = b.length * 1 by simp [byteCells]) (bytes_one b) ?h2 ?h3 ?h4 ?_)
        case h2 => omega
        case h3 => omega
        case h4 => exact hz61
        intro v7 w7 hown7 hg7 _
        have hb7 := below_app (Below.refl w1.heap.size _) hown6 hg7 hz61 (Nat.le_refl _)
        obtain ⟨A7, c7, rfl⟩ := own_slice hown7
        have HB7 := Lib.hid (And.intro (HB16.out.trans hb7) (HB6.out.trans (hb7.mono (Nat.le_of_lt hlt1))))
        rw [← byteCells_append, List.cons_append, List.append_assoc, List.cons_append] at hown7
        have Hown7 := Lib.hid hown7
        clear hown6 hg7 hC6 hb7 hown7
        go_wp2_with fail
        go_roundg (x.lines.length - (i + 1))
        case measure => rw [Hk2.out]; omega
        case rel => exact ⟨i + 1, p ++ b, _, okp && ok2, A7, c7, by go_num, by omega, rfl, ok_step_false Hok.out _, rfl, by rw [List.length_append, Nat.add_assoc], by rw [List.length_append]; omega, HGO.out, HB7.out.1, HB7.out.2, by rw [List.length_append, ← Nat.add_assoc]; exact Hown7.out⟩
    · have hie : i = x.lines.length := by omega
      have HR := Lib.hid (show refI x = (if ok = true then some (a ++ (x.lines.length : Int) :: p) else none) by
        have hg := Hgo.out
        rw [hie, List.take_length] at hg
        rw [HE.out, HLL.out, hg, Hok.out, Ho3.out]
        cases ok1 <;> cases okp <;> rfl)
      clear Hgo
      go_wp2_with fail
      go_ret2
      exact refe_fin Hb.out Hown.out HBad.out HR.out

end Go.Proofs.Ytmlbjcngboegfaa
