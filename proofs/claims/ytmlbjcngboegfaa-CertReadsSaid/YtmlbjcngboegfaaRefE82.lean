/-
  The reference's Encode, by kinds. Written by an AI agent.
-/
import Derived.Test.YtmlbjcngboegfaaRefE0
namespace Go.Proofs.Ytmlbjcngboegfaa
open Go.RowKit

set_option maxRecDepth 100000 in
set_option maxHeartbeats 4000000 in
theorem refE8_2 (V : CV) (x : Crt) (w w1 : World) (HX : Blk w1 w.heap.size 32 (crtCells V x)) (HI : CrtIs w1 w.heap.size V x) (HB : Below w.heap.size w w1) (hl : CrtSm x) (hk : x.k = 2) (hbad : refBad x = false) (u0 u4 u5 u6 u7 u8 u29 u30 u31 u32 u33 u34 u35 u36 u37 u38 u39 u40 u41 u42 u43 u44 u45 u46 u47 u48 u49 u50 u51 u52 u53 u54 u55 u56 u57 u58 u59 u60 u61 u62 u63 u64 u65 u66 u67 u68 u69 u70 u71 u72 u73 u74 u75 u76 u77 u78 u79 u80 u81 u82 u83 u84 u85 u86 u87 u88 u89 u90 u91 u92 u93 u94 u95 u96 u97 u98 u99 u100 u101 u102 u103 u104 u105 u106 u107 u108 u109 u110 u111 u112 u113 u114 u115 u116 u117 u118 u119 u120 u121 u122 u123 u124 u125 u126 u127 u128 u129 u130 u131 u132 u133 u134 u135 : Value) (K : Act → World → Prop) (hK : ∀ a0 w0, Code.wp Try.prog (sndC (restC 7 ((Try.f11.body).getD .skip))) (bodyPost Try.prog Try.f11 (RefEncPost x w)) a0 w0 → K a0 w0) : Code.wp Try.prog (fstC (restC 7 ((Try.f11.body).getD .skip))) (Exit.then K (bodyPost Try.prog Try.f11 (RefEncPost x w))) ⟨#[u0, .pointer (some ⟨w.heap.size, 0, none⟩), .slice none 0 0, .bool false, u4, u5, u6, u7, u8, undef, undef, undef, undef, undef, undef, undef, undef, undef, undef, undef, undef, undef, undef, undef, undef, undef, undef, undef, undef, u29, u30, u31, u32, u33, u34, u35, u36, u37, u38, u39, u40, u41, u42, u43, u44, u45, u46, u47, u48, u49, u50, u51, u52, u53, u54, u55, u56, u57, u58, u59, u60, u61, u62, u63, u64, u65, u66, u67, u68, u69, u70, u71, u72, u73, u74, u75, u76, u77, u78, u79, u80, u81, u82, u83, u84, u85, u86, u87, u88, u89, u90, u91, u92, u93, u94, u95, u96, u97, u98, u99, u100, u101, u102, u103, u104, u105, u106, u107, u108, u109, u110, u111, u112, u113, u114, u115, u116, u117, u118, u119, u120, u121, u122, u123, u124, u125, u126, u127, u128, u129, u130, u131, u132, u133, u134, u135, undef, undef, undef, undef, undef, undef, undef, undef, undef, undef, undef, undef, undef, undef, undef, undef, undef, undef, undef, undef, undef, undef, undef, undef, undef, undef, undef, undef, undef, undef, undef, undef, undef, undef, undef, undef, undef, undef, undef, undef, undef, undef, undef, undef, undef, undef, undef, undef, undef, undef, undef, undef, undef, undef, undef, undef, undef, undef, undef, undef, undef, undef, undef, undef, undef, undef, undef, undef, undef, undef, undef, undef, undef, undef, undef, undef, undef, undef, undef, undef, undef, undef, undef, undef, undef, undef, undef, undef, undef, undef, undef, undef, undef, undef, undef, undef, undef, undef, undef, undef, undef, undef, undef, undef, undef, undef, undef, undef, undef, undef, undef, undef, undef, undef, undef, undef, undef, undef, undef, undef, undef, undef, undef, undef, undef, undef, undef, undef, undef, undef, undef, undef, undef, undef, undef, undef, undef, undef, undef, undef, undef], []⟩ w1 := by
  refine wp_mono (Q := Exit.then (fun a0 w0 => Code.wp Try.prog (sndC (restC 7 ((Try.f11.body).getD .skip))) (bodyPost Try.prog Try.f11 (RefEncPost x w)) a0 w0) (bodyPost Try.prog Try.f11 (RefEncPost x w))) ?_ (then_k hK)
  clear hK
  conv => arg 2; whnf
  conv => arg 3; arg 1; ext a w; arg 2; whnf
  refine then_open fun K2 hK2 => ?_
  have HX1 := Lib.hid HX
  unfold crtCells at HX1
  have HI1 := Lib.hid HI
  have HB1 := Lib.hid HB
  have HS := Lib.hid hl
  obtain ⟨l1, l2, l3, l5, l6, l7, l8, l9, l10, l11⟩ := hl.le
  have hlt1 := HX1.out.lt
  clear HX HI HB hl
  have HK := Lib.hid hk
  have HBad := Lib.hid hbad
  have gk1 : 1 ≤ x.k := by omega
  have gk2 : x.k ≤ 6 := by omega
  clear hk hbad
  have q0 := HX1.out.cell 0
  simp only [List.getElem?_toArray, List.getElem?_cons_zero, List.getElem?_cons_succ] at q0
  have hw8 : IntKind.u8.wrap x.k = x.k := by rw [IntKind.wrap_u8]; omega
  have hown0 : (w1.alloc (.cells #[.int .u8 x.k] 5)).ownsRow w1.heap.size 5 1 (.slice (some ⟨w1.heap.size, 0, none⟩) 1 1) 1 (byteCells [x.k]) := own_of_blk (blk_new' _ _ _ _ rfl) (Nat.le_refl _) rfl (by omega)
  have hb2 := (Below.refl w1.heap.size w1).alloc (Nat.le_refl _) (.cells #[.int .u8 x.k] 5)
  have HB2 := Lib.hid (HB1.out.trans (hb2.mono (Nat.le_of_lt hlt1)))
  have HI2 := Lib.hid ((HI1.out.below (hb2.mono (Nat.le_of_lt hlt1))).more (show w.heap.size ≤ (w1.alloc (.cells #[.int .u8 x.k] 5)).heap.size by simp; omega))
  have hz2 : (w1.alloc (.cells #[.int .u8 x.k] 5)).heap.size = w1.heap.size + 1 := by simp
  have Q := Lib.hid (fun (j : Nat) => (hb2.cell (p := ⟨w.heap.size, j, none⟩) hlt1).trans (HX1.out.cell j))
  have Hown0 := Lib.hid hown0
  have HI1' := HI1
  have hb12 := hb2
  clear hown0 hb2 HI1
  have k1 : ¬ x.k = 1 := fun e => absurd (e.symm.trans HK.out) (by decide)
  have k2 : x.k = 2 := HK.out
  have n1 : (x.k == 1) = false := by rw [k2]; rfl
  have n2 : (x.k == 2) = true := by rw [k2]; rfl
  have HE := Lib.hid (show refI x = (listO (listO numO) x.turn).bind fun a => (numO x.outer).map (a ++ ·) by unfold refI; rw [if_neg k1, if_pos k2])
  have r0 := Q.out 0
  simp only [List.getElem?_toArray, List.getElem?_cons_zero, List.getElem?_cons_succ] at r0
  have r3 := Q.out 3
  simp only [List.getElem?_toArray, List.getElem?_cons_zero, List.getElem?_cons_succ] at r3
  have r4 := Q.out 4
  simp only [List.getElem?_toArray, List.getElem?_cons_zero, List.getElem?_cons_succ] at r4
  have Hk := Lib.hid k2
  clear k1 k2
  go_wp2_with fail
  generalize w1.alloc (.cells #[.int .u8 x.k] 5) = w2 at *
  refine (refLists_any V.a3 V.c3 x.turn w2 (HI2.out.h3.more (by omega)) (by omega) (fun r hr => by have := HS.out.turn r hr; omega)).mono ?_
  rintro e w3 hp
  obtain ⟨hb3, A3, c3, a, ok1, rfl, hal, hC3, hf3, ho3⟩ := hp.out 65665 (fun bs h => numsO2_len _ _ h)
  have Ho3 := Lib.hid ho3
  have HB3 := Lib.hid (HB2.out.trans (hb3.mono (by omega)))
  have hz3 := hb3.size
  have HC3 := Lib.hid hC3
  have HI3 := Lib.hid ((HI2.out.below hb3).more hz3)
  have Hown3 := Lib.hid (own_below Hown0.out hb3 (Nat.le_refl _))
  have r3 := (hb3.cell (p := ⟨w.heap.size, 3, none⟩) (by show w.heap.size < w2.heap.size; omega)).trans r3
  have r4 := (hb3.cell (p := ⟨w.heap.size, 4, none⟩) (by show w.heap.size < w2.heap.size; omega)).trans r4
  clear hp hb3 hf3 ho3 hC3
  go_wp2_with fail
  refine (refNumber_any x.outer w3).mono ?_
  rintro e w4 hp
  obtain ⟨hb4, A4, c4, b, ok2, rfl, hbl, hC4, hf4, ho4⟩ := hp.out 4 (fun bs h => numO_len _ _ h)
  have HR := Lib.hid (show refI x = (if (ok1 && ok2) = true then some (a ++ b) else none) by rw [HE.out, Ho3.out, ho4]; cases ok1 <;> cases ok2 <;> rfl)
  have HB4 := Lib.hid (HB3.out.trans (hb4.mono (by omega)))
  have hz4 := hb4.size
  have hC3 := HC3.out.below hb4
  have HC4 := Lib.hid hC4
  have Hf4 := Lib.hid hf4
  have hown4 := own_below Hown3.out hb4 (Nat.le_refl _)
  have hz41 : w1.heap.size ≤ w4.heap.size := by omega
  clear hp hb4 hf4 ho4 hC4 r3 r4
  go_wp2_with (at_builtin; refine wp_app_any elemByte rfl _ _ rfl rfl hown4 rfl hC3 (show (byteCells a).length = a.length * 1 by simp [byteCells]) (bytes_one a) ?h2 ?h3 ?h4 ?_)
  case h2 => omega
  case h3 => omega
  case h4 => exact hz41
  intro v5 w5 hown5 hg5 _
  have hb5 := below_app (Below.refl w1.heap.size _) hown4 hg5 hz41 (Nat.le_refl _)
  have hC4 := HC4.out.grownFresh hg5 (Nat.le_refl _) (fun ad ha k hk => by
    have hk : w1.heap.size = k := Option.some.inj hk
    have := Hf4.out ad ha
    show k < ad.block
    omega)
  have hz5 := hg5.size
  obtain ⟨A5, c5, rfl⟩ := own_slice hown5
  clear hown4 hg5 hC3
  go_wp2_with (at_builtin; refine wp_app_any elemByte rfl _ _ rfl rfl hown5 rfl hC4 (show (byteCells b).length = b.length * 1 by simp [byteCells]) (bytes_one b) ?h5 ?h6 ?h7 ?_)
  case h5 => omega
  case h6 => omega
  case h7 => exact Nat.le_trans hz41 hz5
  intro v6 w6 hown6 hg6 _
  have hb6 := below_app hb5 hown5 hg6 (Nat.le_trans hz41 hz5) (Nat.le_refl _)
  obtain ⟨A6, c6, rfl⟩ := own_slice hown6
  have HB6 := Lib.hid (HB4.out.trans (hb6.mono (Nat.le_of_lt hlt1)))
  have Hown6 := Lib.hid (show w6.ownsRow w1.heap.size 5 1 (.slice A6 (1 + a.length + b.length) c6) (1 + a.length + b.length) (byteCells (x.k :: (a ++ b))) from by
    have e : byteCells (x.k :: (a ++ b)) = byteCells [x.k] ++ (byteCells a ++ byteCells b) := by simp [byteCells]
    rw [e]
    first | exact hown6 | (rw [← List.append_assoc]; exact hown6))
  clear hown5 hg6 hb5 hb6 hown6 hC4
  cases ok1 with
  | true =>
    go_wp2_with fail
    go_ret2
    exact refe_fin HB6.out Hown6.out HBad.out HR.out
  | false =>
    go_wp2_with fail
    go_ret2
    exact refe_fin HB6.out Hown6.out HBad.out HR.out

end Go.Proofs.Ytmlbjcngboegfaa
