/-
  The reference's Encode, by kinds. Written by an AI agent.
-/
import Derived.Test.YtmlbjcngboegfaaRefE0
namespace Go.Proofs.Ytmlbjcngboegfaa
open Go.RowKit

set_option maxRecDepth 100000 in
set_option maxHeartbeats 4000000 in
theorem refE8_4 (V : CV) (x : Crt) (w w1 : World) (HX : Blk w1 w.heap.size 32 (crtCells V x)) (HI : CrtIs w1 w.heap.size V x) (HB : Below w.heap.size w w1) (hl : CrtSm x) (hk : x.k = 4) (hbad : refBad x = false) (u0 u4 u5 u6 u7 u8 u29 u30 u31 u32 u33 u34 u35 u36 u37 u38 u39 u40 u41 u42 u43 u44 u45 u46 u47 u48 u49 u50 u51 u52 u53 u54 u55 u56 u57 u58 u59 u60 u61 u62 u63 u64 u65 u66 u67 u68 u69 u70 u71 u72 u73 u74 u75 u76 u77 u78 u79 u80 u81 u82 u83 u84 u85 u86 u87 u88 u89 u90 u91 u92 u93 u94 u95 u96 u97 u98 u99 u100 u101 u102 u103 u104 u105 u106 u107 u108 u109 u110 u111 u112 u113 u114 u115 u116 u117 u118 u119 u120 u121 u122 u123 u124 u125 u126 u127 u128 u129 u130 u131 u132 u133 u134 u135 : Value) (K : Act → World → Prop) (hK : ∀ a0 w0, Code.wp Try.prog (sndC (restC 7 ((Try.f11.body).getD .skip))) (bodyPost Try.prog Try.f11 (RefEncPost x w)) a0 w0 → K a0 w0) : Code.wp Try.prog (fstC (restC 7 ((Try.f11.body).getD .skip))) (Exit.then K (bodyPost Try.prog Try.f11 (RefEncPost x w))) ⟨#[u0, .pointer (some ⟨w.heap.size, 0, none⟩), .slice none 0 0, .bool false, u4, u5, u6, u7, u8, undef, undef, undef, undef, undef, undef, undef, undef, undef, undef, undef, undef, undef, undef, undef, undef, undef, undef, undef, undef, u29, u30, u31, u32, u33, u34, u35, u36, u37, u38, u39, u40, u41, u42, u43, u44, u45, u46, u47, u48, u49, u50, u51, u52, u53, u54, u55, u56, u57, u58, u59, u60, u61, u62, u63, u64, u65, u66, u67, u68, u69, u70, u71, u72, u73, u74, u75, u76, u77, u78, u79, u80, u81, u82, u83, u84, u85, u86, u87, u88, u89, u90, u91, u92, u93, u94, u95, u96, u97, u98, u99, u100, u101, u102, u103, u104, u105, u106, u107, u108, u109, u110, u111, u112, u113, u114, u115, u116, u117, u118, u119, u120, u121, u122, u123, u124, u125, u126, u127, u128, u129, u130, u131, u132, u133, u134, u135, undef, undef, undef, undef, undef, undef, undef, undef, undef, undef, undef, undef, undef, undef, undef, undef, undef, undef, undef, undef, undef, undef, undef, undef, undef, undef, undef, undef, undef, undef, undef, undef, undef, undef, undef, undef, undef, undef, undef, undef, undef, undef, undef, undef, undef, undef, undef, undef, undef, undef, undef, undef, undef, undef, undef, undef, undef, undef, undef, undef, undef, undef, undef, undef, undef, undef, undef, undef, undef, undef, undef, undef, undef, undef, undef, undef, undef, undef, undef, undef, undef, undef, undef, undef, undef, undef, undef, undef, undef, undef, undef, undef, undef, undef, undef, undef, undef, undef, undef, undef, undef, undef, undef, undef, undef, undef, undef, undef, undef, undef, undef, undef, undef, undef, undef, undef, undef, undef, undef, undef, undef, undef, undef, undef, undef, undef, undef, undef, undef, undef, undef, undef, undef, undef, undef, undef, undef, undef, undef, undef, undef], []⟩ w1 := by
  refine wp_mono (Q := Exit.then (fun a0 w0 => Code.wp Try.prog (sndC (restC 7 ((Try.f11.body).getD .skip))) (bodyPost Try.prog Try.f11 (RefEncPost x w)) a0 w0) (bodyPost Try.prog Try.f11 (RefEncPost x w))) ?_ (then_k hK)
  clear hK
  conv => arg 2; whnf
  conv => arg 3; arg 1; ext a w; arg 2; whnf
  refine then_open fun K2 hK2 => ?_
  have HX1 := Lib.hid HX
  unfold crtCells at HX1
  have HI1 := Lib.hid HI
  have HB1 := Lib.hid HB
  have HS := Lib.hid hl
  obtain ⟨l1, l2, l3, l5, l6, l7, l8, l9, l10, l11⟩ := hl.le
  have hlt1 := HX1.out.lt
  clear HX HI HB hl
  have HK := Lib.hid hk
  have HBad := Lib.hid hbad
  have gk1 : 1 ≤ x.k := by omega
  have gk2 : x.k ≤ 6 := by omega
  clear hk hbad
  have q0 := HX1.out.cell 0
  simp only [List.getElem?_toArray, List.getElem?_cons_zero, List.getElem?_cons_succ] at q0
  have hw8 : IntKind.u8.wrap x.k = x.k := by rw [IntKind.wrap_u8]; omega
  have hown0 : (w1.alloc (.cells #[.int .u8 x.k] 5)).ownsRow w1.heap.size 5 1 (.slice (some ⟨w1.heap.size, 0, none⟩) 1 1) 1 (byteCells [x.k]) := own_of_blk (blk_new' _ _ _ _ rfl) (Nat.le_refl _) rfl (by omega)
  have hb2 := (Below.refl w1.heap.size w1).alloc (Nat.le_refl _) (.cells #[.int .u8 x.k] 5)
  have HB2 := Lib.hid (HB1.out.trans (hb2.mono (Nat.le_of_lt hlt1)))
  have HI2 := Lib.hid ((HI1.out.below (hb2.mono (Nat.le_of_lt hlt1))).more (show w.heap.size ≤ (w1.alloc (.cells #[.int .u8 x.k] 5)).heap.size by simp; omega))
  have hz2 : (w1.alloc (.cells #[.int .u8 x.k] 5)).heap.size = w1.heap.size + 1 := by simp
  have Q := Lib.hid (fun (j : Nat) => (hb2.cell (p := ⟨w.heap.size, j, none⟩) hlt1).trans (HX1.out.cell j))
  have Hown0 := Lib.hid hown0
  have HI1' := HI1
  have hb12 := hb2
  clear hown0 hb2 HI1
  have k1 : ¬ x.k = 1 := fun e => absurd (e.symm.trans HK.out) (by decide)
  have k2 : ¬ x.k = 2 := fun e => absurd (e.symm.trans HK.out) (by decide)
  have k3 : ¬ x.k = 3 := fun e => absurd (e.symm.trans HK.out) (by decide)
  have k4 : x.k = 4 := HK.out
  have n1 : (x.k == 1) = false := by rw [k4]; rfl
  have n2 : (x.k == 2) = false := by rw [k4]; rfl
  have n3 : (x.k == 3) = false := by rw [k4]; rfl
  have n4 : (x.k == 4) = true := by rw [k4]; rfl
  have HE := Lib.hid (show refI x = goO (listO numO) [x.b0, x.b1, x.b2, x.b3] by unfold refI; rw [if_neg k1, if_neg k2, if_neg k3, if_pos k4])
  have r0 := Q.out 0
  simp only [List.getElem?_toArray, List.getElem?_cons_zero, List.getElem?_cons_succ] at r0
  have Hk := Lib.hid k4
  clear k1 k2 k3 k4
  go_wp2_with fail
  generalize w1.alloc (.cells #[.int .u8 x.k] 5) = w2 at *
  go_loopg [9, 23, 24] 4 (fun g s9 s23 s24 wr => ∃ (i : Nat) (p : List Int) (ok : Bool) (A1 : Option Addr) (c1 : Nat), s24 = .int .i64 i ∧ i ≤ 4 ∧ g = 4 - i ∧ s23 = .bool ok ∧ s9 = .slice A1 (1 + p.length) c1 ∧ p.length ≤ 513 * i ∧ goO (listO numO) ([x.b0, x.b1, x.b2, x.b3].take i) = (if ok = true then some p else none) ∧ Below w1.heap.size w1 wr ∧ Below w.heap.size w wr ∧ wr.ownsRow w1.heap.size 5 1 (.slice A1 (1 + p.length) c1) (1 + p.length) (byteCells (x.k :: p)))
  case atStart => exact ⟨0, [], true, _, _, rfl, by omega, rfl, rfl, rfl, by simp, rfl, hb12, HB2.out, Hown0.out⟩
  case round =>
    clear hb12
    obtain ⟨i, p, ok, A1, c1, rfl, hi, hk, rfl, rfl, hpl, hgo, hb1r, hb, hown⟩ := hrel
    have Hk2 := Lib.hid hk
    have Hgo := Lib.hid hgo
    have Hb1r := Lib.hid hb1r
    have Hb := Lib.hid hb
    have Hown := Lib.hid hown
    have hszr := hb1r.size
    clear hk hgo hb1r hb hown
    by_cases hlt : i < 4
    · have hlt' : (i : Int) < 4 := by omega
      obtain ⟨Ai, ci, hcell, hcs⟩ := barAt (show Blk w1 w.heap.size 32 (crtCells V x) from HX1.out) HI1'.out hlt
      have hcell1 := (Hb1r.out.cell (p := ⟨w.heap.size, 7 + i, none⟩) hlt1).trans hcell
      have HR := Lib.hid (refNumbers_any Ai ci (barOf x i) wr ((hcs.below (Hb1r.out.mono (Nat.le_of_lt hlt1))).more (by omega)) (by have := bar_le HS.out.le hlt; omega))
      have HST := Lib.hid (show goO (listO numO) ([x.b0, x.b1, x.b2, x.b3].take (i + 1)) = (goO (listO numO) ([x.b0, x.b1, x.b2, x.b3].take i)).bind fun p => (listO numO (barOf x i)).map (p ++ ·) from bar_step x hlt)
      generalize barOf x i = z at *
      clear hcell hcs
      go_wp2_with fail
      refine HR.out.mono ?_
      rintro e w3 hp
      obtain ⟨hb3, A3, c3, a, ok1, rfl, hal, hC3, hf3, ho3⟩ := hp.out 513 (fun bs h => numsO_len _ _ h)
      have HGO := Lib.hid (show goO (listO numO) ([x.b0, x.b1, x.b2, x.b3].take (i + 1)) = (if (ok && ok1) = true then some (p ++ a) else none) by rw [HST.out, Hgo.out, ho3]; cases ok <;> cases ok1 <;> rfl)
      have HB3 := Lib.hid (Hb.out.trans (hb3.mono (by omega)))
      have HB13 := Lib.hid (Hb1r.out.trans (hb3.mono (by omega)))
      have hz3 := hb3.size
      have hown3 := own_below Hown.out hb3 (Nat.le_refl _)
      have hz31 : w1.heap.size ≤ w3.heap.size := by omega
      clear hp hb3 hf3 ho3 hcell1
      have key : ∀ okn : Bool, okn = (ok && ok1) → True := fun _ _ => trivial
      cases ok with
      | true =>
        go_wp2_with (at_builtin; refine wp_app_any elemByte rfl _ _ rfl rfl hown3 rfl hC3 (show (byteCells a).length = a.length * 1 by simp [byteCells]) (bytes_one a) ?h2 ?h3 ?h4 ?_)
        case h2 => omega
        case h3 => omega
        case h4 => exact hz31
        intro v4 w4 hown4 hg4 _
        have hb4 := below_app (Below.refl w1.heap.size _) hown3 hg4 hz31 (Nat.le_refl _)
        obtain ⟨A4, c4, rfl⟩ := own_slice hown4
        have HB4 := Lib.hid (And.intro (HB13.out.trans hb4) (HB3.out.trans (hb4.mono (Nat.le_of_lt hlt1))))
        rw [← byteCells_append, List.cons_append] at hown4
        have Hown4 := Lib.hid hown4
        clear hown3 hg4 hC3 hb4 hown4
        go_wp2_with fail
        go_roundg (4 - (i + 1))
        case measure => rw [Hk2.out]; omega
        case rel => exact ⟨i + 1, p ++ a, _, A4, c4, by go_num, by omega, rfl, rfl, by rw [List.length_append, Nat.add_assoc], by rw [List.length_append]; omega, by rw [HGO.out]; simp, HB4.out.1, HB4.out.2, by rw [List.length_append, ← Nat.add_assoc]; exact Hown4.out⟩
      | false =>
        go_wp2_with (at_builtin; refine wp_app_any elemByte rfl _ _ rfl rfl hown3 rfl hC3 (show (byteCells a).length = a.length * 1 by simp [byteCells]) (bytes_one a) ?h2 ?h3 ?h4 ?_)
        case h2 => omega
        case h3 => omega
        case h4 => exact hz31
        intro v4 w4 hown4 hg4 _
        have hb4 := below_app (Below.refl w1.heap.size _) hown3 hg4 hz31 (Nat.le_refl _)
        obtain ⟨A4, c4, rfl⟩ := own_slice hown4
        have HB4 := Lib.hid (And.intro (HB13.out.trans hb4) (HB3.out.trans (hb4.mono (Nat.le_of_lt hlt1))))
        rw [← byteCells_append, List.cons_append] at hown4
        have Hown4 := Lib.hid hown4
        clear hown3 hg4 hC3 hb4 hown4
        go_wp2_with fail
        go_roundg (4 - (i + 1))
        case measure => rw [Hk2.out]; omega
        case rel => exact ⟨i + 1, p ++ a, _, A4, c4, by go_num, by omega, rfl, rfl, by rw [List.length_append, Nat.add_assoc], by rw [List.length_append]; omega, by rw [HGO.out]; simp, HB4.out.1, HB4.out.2, by rw [List.length_append, ← Nat.add_assoc]; exact Hown4.out⟩
    · have hie : i = 4 := by omega
      subst hie
      have HR := Lib.hid (show refI x = (if ok = true then some p else none) by rw [HE.out]; exact Hgo.out)
      clear Hgo
      go_wp2_with fail
      go_ret2
      exact refe_fin Hb.out Hown.out HBad.out HR.out

end Go.Proofs.Ytmlbjcngboegfaa
