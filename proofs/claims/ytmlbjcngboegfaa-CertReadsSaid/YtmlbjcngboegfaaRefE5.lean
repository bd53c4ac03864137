/-
  The reference's Encode, by kinds. Written by an AI agent.
-/
import Derived.Test.YtmlbjcngboegfaaRefE81
import Derived.Test.YtmlbjcngboegfaaRefE82
import Derived.Test.YtmlbjcngboegfaaRefE83
import Derived.Test.YtmlbjcngboegfaaRefE84
import Derived.Test.YtmlbjcngboegfaaRefE85
import Derived.Test.YtmlbjcngboegfaaRefE86
namespace Go.Proofs.Ytmlbjcngboegfaa
open Go.RowKit

set_option maxRecDepth 100000 in
set_option maxHeartbeats 4000000 in
theorem refE5_0 (V : CV) (x : Crt) (w w1 : World) (HX : Blk w1 w.heap.size 32 (crtCells V x)) (HI : CrtIs w1 w.heap.size V x) (HB : Below w.heap.size w w1) (hl : CrtSm x) (hk : x.k < 1 ∨ 6 < x.k) (p t d b : Bool) (hV : refBad x = badB x.k p t d b (decide (0 < x.edges.length))) (u0 u29 u30 u31 u32 u33 u34 u35 u36 u37 u38 u39 u40 u41 u42 u43 u44 u45 u46 u47 u48 u49 u50 u51 u52 u53 u54 u55 u56 u57 u58 u59 u60 u61 u62 u63 u64 u65 u66 u67 u68 u69 u70 u71 u72 u73 u74 u75 u76 u77 u78 u79 u80 u81 u82 u83 : Value) (K : Act → World → Prop) (hK : ∀ a0 w0, Code.wp Try.prog (sndC (restC 5 ((Try.f11.body).getD .skip))) (bodyPost Try.prog Try.f11 (RefEncPost x w)) a0 w0 → K a0 w0) : Code.wp Try.prog (fstC (restC 5 ((Try.f11.body).getD .skip))) (Exit.then K (bodyPost Try.prog Try.f11 (RefEncPost x w))) ⟨#[u0, .pointer (some ⟨w.heap.size, 0, none⟩), .slice none 0 0, .bool false, .bool p, .bool t, .bool d, .bool b, undef, undef, undef, undef, undef, undef, undef, undef, undef, undef, undef, undef, undef, undef, undef, undef, undef, undef, undef, undef, undef, u29, u30, u31, u32, u33, u34, u35, u36, u37, u38, u39, u40, u41, u42, u43, u44, u45, u46, u47, u48, u49, u50, u51, u52, u53, u54, u55, u56, u57, u58, u59, u60, u61, u62, u63, u64, u65, u66, u67, u68, u69, u70, u71, u72, u73, u74, u75, u76, u77, u78, u79, u80, u81, u82, u83, undef, undef, undef, undef, undef, undef, undef, undef, undef, undef, undef, undef, undef, undef, undef, undef, undef, undef, undef, undef, undef, undef, undef, undef, undef, undef, undef, undef, undef, undef, undef, undef, undef, undef, undef, undef, undef, undef, undef, undef, undef, undef, undef, undef, undef, undef, undef, undef, undef, undef, undef, undef, undef, undef, undef, undef, undef, undef, undef, undef, undef, undef, undef, undef, undef, undef, undef, undef, undef, undef, undef, undef, undef, undef, undef, undef, undef, undef, undef, undef, undef, undef, undef, undef, undef, undef, undef, undef, undef, undef, undef, undef, undef, undef, undef, undef, undef, undef, undef, undef, undef, undef, undef, undef, undef, undef, undef, undef, undef, undef, undef, undef, undef, undef, undef, undef, undef, undef, undef, undef, undef, undef, undef, undef, undef, undef, undef, undef, undef, undef, undef, undef, undef, undef, undef, undef, undef, undef, undef, undef, undef, undef, undef, undef, undef, undef, undef, undef, undef, undef, undef, undef, undef, undef, undef, undef, undef, undef, undef, undef, undef, undef, undef, undef, undef, undef, undef, undef, undef, undef, undef, undef, undef, undef, undef, undef, undef, undef, undef, undef, undef, undef, undef, undef, undef, undef, undef, undef, undef, undef, undef, undef, undef], []⟩ w1 := by
  refine wp_mono (Q := Exit.then (fun a0 w0 => Code.wp Try.prog (sndC (restC 5 ((Try.f11.body).getD .skip))) (bodyPost Try.prog Try.f11 (RefEncPost x w)) a0 w0) (bodyPost Try.prog Try.f11 (RefEncPost x w))) ?_ (then_k hK)
  clear hK
  conv => arg 2; whnf
  conv => arg 3; arg 1; ext a w; arg 2; whnf
  refine then_open fun K2 hK2 => ?_
  have HX1 := Lib.hid HX
  unfold crtCells at HX1
  have HI1 := Lib.hid HI
  have HB1 := Lib.hid HB
  have HS := Lib.hid hl
  obtain ⟨l1, l2, l3, l5, l6, l7, l8, l9, l10, l11⟩ := hl.le
  have hlt1 := HX1.out.lt
  clear HX HI HB hl
  have HK := Lib.hid hk
  clear hk
  have q0 := HX1.out.cell 0
  have q11 := HX1.out.cell 11
  simp only [List.getElem?_toArray, List.getElem?_cons_zero, List.getElem?_cons_succ] at q0 q11
  generalize he : decide (0 < x.edges.length) = e at *
  have HV := Lib.hid hV
  clear hV
  by_cases g1 : x.k < 1
  · have HG := Lib.hid g1
    go_upto_region 8 with fail
    go_ret2
    exact bad_ret HB1.out (HV.out.trans (by simp [badB, HG.out])) _ _ _
  · have g6 : 6 < x.k := by have := HK.out; omega
    go_upto_region 8 with fail
    go_ret2
    exact bad_ret HB1.out (HV.out.trans (by simp [badB, HK.out])) _ _ _

set_option maxRecDepth 100000 in
set_option maxHeartbeats 4000000 in
theorem refE5_1 (V : CV) (x : Crt) (w w1 : World) (HX : Blk w1 w.heap.size 32 (crtCells V x)) (HI : CrtIs w1 w.heap.size V x) (HB : Below w.heap.size w w1) (hl : CrtSm x) (hk : x.k = 1) (p t d b : Bool) (hV : refBad x = badB x.k p t d b (decide (0 < x.edges.length))) (u0 u29 u30 u31 u32 u33 u34 u35 u36 u37 u38 u39 u40 u41 u42 u43 u44 u45 u46 u47 u48 u49 u50 u51 u52 u53 u54 u55 u56 u57 u58 u59 u60 u61 u62 u63 u64 u65 u66 u67 u68 u69 u70 u71 u72 u73 u74 u75 u76 u77 u78 u79 u80 u81 u82 u83 : Value) (K : Act → World → Prop) (hK : ∀ a0 w0, Code.wp Try.prog (sndC (restC 5 ((Try.f11.body).getD .skip))) (bodyPost Try.prog Try.f11 (RefEncPost x w)) a0 w0 → K a0 w0) : Code.wp Try.prog (fstC (restC 5 ((Try.f11.body).getD .skip))) (Exit.then K (bodyPost Try.prog Try.f11 (RefEncPost x w))) ⟨#[u0, .pointer (some ⟨w.heap.size, 0, none⟩), .slice none 0 0, .bool false, .bool p, .bool t, .bool d, .bool b, undef, undef, undef, undef, undef, undef, undef, undef, undef, undef, undef, undef, undef, undef, undef, undef, undef, undef, undef, undef, undef, u29, u30, u31, u32, u33, u34, u35, u36, u37, u38, u39, u40, u41, u42, u43, u44, u45, u46, u47, u48, u49, u50, u51, u52, u53, u54, u55, u56, u57, u58, u59, u60, u61, u62, u63, u64, u65, u66, u67, u68, u69, u70, u71, u72, u73, u74, u75, u76, u77, u78, u79, u80, u81, u82, u83, undef, undef, undef, undef, undef, undef, undef, undef, undef, undef, undef, undef, undef, undef, undef, undef, undef, undef, undef, undef, undef, undef, undef, undef, undef, undef, undef, undef, undef, undef, undef, undef, undef, undef, undef, undef, undef, undef, undef, undef, undef, undef, undef, undef, undef, undef, undef, undef, undef, undef, undef, undef, undef, undef, undef, undef, undef, undef, undef, undef, undef, undef, undef, undef, undef, undef, undef, undef, undef, undef, undef, undef, undef, undef, undef, undef, undef, undef, undef, undef, undef, undef, undef, undef, undef, undef, undef, undef, undef, undef, undef, undef, undef, undef, undef, undef, undef, undef, undef, undef, undef, undef, undef, undef, undef, undef, undef, undef, undef, undef, undef, undef, undef, undef, undef, undef, undef, undef, undef, undef, undef, undef, undef, undef, undef, undef, undef, undef, undef, undef, undef, undef, undef, undef, undef, undef, undef, undef, undef, undef, undef, undef, undef, undef, undef, undef, undef, undef, undef, undef, undef, undef, undef, undef, undef, undef, undef, undef, undef, undef, undef, undef, undef, undef, undef, undef, undef, undef, undef, undef, undef, undef, undef, undef, undef, undef, undef, undef, undef, undef, undef, undef, undef, undef, undef, undef, undef, undef, undef, undef, undef, undef, undef], []⟩ w1 := by
  refine wp_mono (Q := Exit.then (fun a0 w0 => Code.wp Try.prog (sndC (restC 5 ((Try.f11.body).getD .skip))) (bodyPost Try.prog Try.f11 (RefEncPost x w)) a0 w0) (bodyPost Try.prog Try.f11 (RefEncPost x w))) ?_ (then_k hK)
  clear hK
  conv => arg 2; whnf
  conv => arg 3; arg 1; ext a w; arg 2; whnf
  refine then_open fun K2 hK2 => ?_
  have HX1 := Lib.hid HX
  unfold crtCells at HX1
  have HI1 := Lib.hid HI
  have HB1 := Lib.hid HB
  have HS := Lib.hid hl
  obtain ⟨l1, l2, l3, l5, l6, l7, l8, l9, l10, l11⟩ := hl.le
  have hlt1 := HX1.out.lt
  clear HX HI HB hl
  have HK := Lib.hid hk
  clear hk
  have q0 := HX1.out.cell 0
  have q11 := HX1.out.cell 11
  simp only [List.getElem?_toArray, List.getElem?_cons_zero, List.getElem?_cons_succ] at q0 q11
  generalize he : decide (0 < x.edges.length) = e at *
  have HV := Lib.hid hV
  clear hV
  have k1 := HK.out
  have g1 : ¬ x.k < 1 := by omega
  have g6 : ¬ 6 < x.k := by omega
  have n1 : (x.k != 1) = false := by rw [k1]; decide
  have n2 : (x.k != 2) = true := by rw [k1]; decide
  have n3 : (x.k != 3) = true := by rw [k1]; decide
  have n4 : (x.k != 4) = true := by rw [k1]; decide
  have n5 : x.k < 5 := by omega
  have HN := Lib.hid (And.intro g1 (And.intro g6 (And.intro n1 (And.intro n2 (And.intro n3 (And.intro n4 n5))))))
  clear k1
  cases p with
  | true =>
    cases t with
    | true =>
      go_upto_region 8 with fail
      go_ret2
      exact bad_ret HB1.out (HV.out.trans (by simp [badB, HN.out.1, HN.out.2.1, HN.out.2.2.1, HN.out.2.2.2.1, HN.out.2.2.2.2.1, HN.out.2.2.2.2.2.1, HN.out.2.2.2.2.2.2])) _ _ _
    | false =>
      cases d with
      | true =>
        go_upto_region 8 with fail
        go_ret2
        exact bad_ret HB1.out (HV.out.trans (by simp [badB, HN.out.1, HN.out.2.1, HN.out.2.2.1, HN.out.2.2.2.1, HN.out.2.2.2.2.1, HN.out.2.2.2.2.2.1, HN.out.2.2.2.2.2.2])) _ _ _
      | false =>
        cases b with
        | true =>
          go_upto_region 8 with fail
          go_ret2
          exact bad_ret HB1.out (HV.out.trans (by simp [badB, HN.out.1, HN.out.2.1, HN.out.2.2.1, HN.out.2.2.2.1, HN.out.2.2.2.2.1, HN.out.2.2.2.2.2.1, HN.out.2.2.2.2.2.2])) _ _ _
        | false =>
          cases e with
          | true =>
            go_upto_region 8 with fail
            go_ret2
            exact bad_ret HB1.out (HV.out.trans (by simp [badB, HN.out.1, HN.out.2.1, HN.out.2.2.1, HN.out.2.2.2.1, HN.out.2.2.2.2.1, HN.out.2.2.2.2.2.1, HN.out.2.2.2.2.2.2])) _ _ _
          | false =>
            go_upto_region 8 with fail
            exact refE8_1 V x w w1 (by unfold crtCells; exact HX1.out) HI1.out HB1.out HS.out HK.out (HV.out.trans (by simp [badB, HN.out.1, HN.out.2.1, HN.out.2.2.1, HN.out.2.2.2.1, HN.out.2.2.2.2.1, HN.out.2.2.2.2.2.1, HN.out.2.2.2.2.2.2])) _ _ _ _ _ _ _ _ _ _ _ _ _ _ _ _ _ _ _ _ _ _ _ _ _ _ _ _ _ _ _ _ _ _ _ _ _ _ _ _ _ _ _ _ _ _ _ _ _ _ _ _ _ _ _ _ _ _ _ _ _ _ _ _ _ _ _ _ _ _ _ _ _ _ _ _ _ _ _ _ _ _ _ _ _ _ _ _ _ _ _ _ _ _ _ _ _ _ _ _ _ _ _ _ _ _ _ _ _ _ _ _ _ _ (by assumption)
  | false =>
    cases t with
    | true =>
      go_upto_region 8 with fail
      go_ret2
      exact bad_ret HB1.out (HV.out.trans (by simp [badB, HN.out.1, HN.out.2.1, HN.out.2.2.1, HN.out.2.2.2.1, HN.out.2.2.2.2.1, HN.out.2.2.2.2.2.1, HN.out.2.2.2.2.2.2])) _ _ _
    | false =>
      cases d with
      | true =>
        go_upto_region 8 with fail
        go_ret2
        exact bad_ret HB1.out (HV.out.trans (by simp [badB, HN.out.1, HN.out.2.1, HN.out.2.2.1, HN.out.2.2.2.1, HN.out.2.2.2.2.1, HN.out.2.2.2.2.2.1, HN.out.2.2.2.2.2.2])) _ _ _
      | false =>
        cases b with
        | true =>
          go_upto_region 8 with fail
          go_ret2
          exact bad_ret HB1.out (HV.out.trans (by simp [badB, HN.out.1, HN.out.2.1, HN.out.2.2.1, HN.out.2.2.2.1, HN.out.2.2.2.2.1, HN.out.2.2.2.2.2.1, HN.out.2.2.2.2.2.2])) _ _ _
        | false =>
          cases e with
          | true =>
            go_upto_region 8 with fail
            go_ret2
            exact bad_ret HB1.out (HV.out.trans (by simp [badB, HN.out.1, HN.out.2.1, HN.out.2.2.1, HN.out.2.2.2.1, HN.out.2.2.2.2.1, HN.out.2.2.2.2.2.1, HN.out.2.2.2.2.2.2])) _ _ _
          | false =>
            go_upto_region 8 with fail
            exact refE8_1 V x w w1 (by unfold crtCells; exact HX1.out) HI1.out HB1.out HS.out HK.out (HV.out.trans (by simp [badB, HN.out.1, HN.out.2.1, HN.out.2.2.1, HN.out.2.2.2.1, HN.out.2.2.2.2.1, HN.out.2.2.2.2.2.1, HN.out.2.2.2.2.2.2])) _ _ _ _ _ _ _ _ _ _ _ _ _ _ _ _ _ _ _ _ _ _ _ _ _ _ _ _ _ _ _ _ _ _ _ _ _ _ _ _ _ _ _ _ _ _ _ _ _ _ _ _ _ _ _ _ _ _ _ _ _ _ _ _ _ _ _ _ _ _ _ _ _ _ _ _ _ _ _ _ _ _ _ _ _ _ _ _ _ _ _ _ _ _ _ _ _ _ _ _ _ _ _ _ _ _ _ _ _ _ _ _ _ _ (by assumption)

set_option maxRecDepth 100000 in
set_option maxHeartbeats 4000000 in
theorem refE5_2 (V : CV) (x : Crt) (w w1 : World) (HX : Blk w1 w.heap.size 32 (crtCells V x)) (HI : CrtIs w1 w.heap.size V x) (HB : Below w.heap.size w w1) (hl : CrtSm x) (hk : x.k = 2) (p t d b : Bool) (hV : refBad x = badB x.k p t d b (decide (0 < x.edges.length))) (u0 u29 u30 u31 u32 u33 u34 u35 u36 u37 u38 u39 u40 u41 u42 u43 u44 u45 u46 u47 u48 u49 u50 u51 u52 u53 u54 u55 u56 u57 u58 u59 u60 u61 u62 u63 u64 u65 u66 u67 u68 u69 u70 u71 u72 u73 u74 u75 u76 u77 u78 u79 u80 u81 u82 u83 : Value) (K : Act → World → Prop) (hK : ∀ a0 w0, Code.wp Try.prog (sndC (restC 5 ((Try.f11.body).getD .skip))) (bodyPost Try.prog Try.f11 (RefEncPost x w)) a0 w0 → K a0 w0) : Code.wp Try.prog (fstC (restC 5 ((Try.f11.body).getD .skip))) (Exit.then K (bodyPost Try.prog Try.f11 (RefEncPost x w))) ⟨#[u0, .pointer (some ⟨w.heap.size, 0, none⟩), .slice none 0 0, .bool false, .bool p, .bool t, .bool d, .bool b, undef, undef, undef, undef, undef, undef, undef, undef, undef, undef, undef, undef, undef, undef, undef, undef, undef, undef, undef, undef, undef, u29, u30, u31, u32, u33, u34, u35, u36, u37, u38, u39, u40, u41, u42, u43, u44, u45, u46, u47, u48, u49, u50, u51, u52, u53, u54, u55, u56, u57, u58, u59, u60, u61, u62, u63, u64, u65, u66, u67, u68, u69, u70, u71, u72, u73, u74, u75, u76, u77, u78, u79, u80, u81, u82, u83, undef, undef, undef, undef, undef, undef, undef, undef, undef, undef, undef, undef, undef, undef, undef, undef, undef, undef, undef, undef, undef, undef, undef, undef, undef, undef, undef, undef, undef, undef, undef, undef, undef, undef, undef, undef, undef, undef, undef, undef, undef, undef, undef, undef, undef, undef, undef, undef, undef, undef, undef, undef, undef, undef, undef, undef, undef, undef, undef, undef, undef, undef, undef, undef, undef, undef, undef, undef, undef, undef, undef, undef, undef, undef, undef, undef, undef, undef, undef, undef, undef, undef, undef, undef, undef, undef, undef, undef, undef, undef, undef, undef, undef, undef, undef, undef, undef, undef, undef, undef, undef, undef, undef, undef, undef, undef, undef, undef, undef, undef, undef, undef, undef, undef, undef, undef, undef, undef, undef, undef, undef, undef, undef, undef, undef, undef, undef, undef, undef, undef, undef, undef, undef, undef, undef, undef, undef, undef, undef, undef, undef, undef, undef, undef, undef, undef, undef, undef, undef, undef, undef, undef, undef, undef, undef, undef, undef, undef, undef, undef, undef, undef, undef, undef, undef, undef, undef, undef, undef, undef, undef, undef, undef, undef, undef, undef, undef, undef, undef, undef, undef, undef, undef, undef, undef, undef, undef, undef, undef, undef, undef, undef, undef], []⟩ w1 := by
  refine wp_mono (Q := Exit.then (fun a0 w0 => Code.wp Try.prog (sndC (restC 5 ((Try.f11.body).getD .skip))) (bodyPost Try.prog Try.f11 (RefEncPost x w)) a0 w0) (bodyPost Try.prog Try.f11 (RefEncPost x w))) ?_ (then_k hK)
  clear hK
  conv => arg 2; whnf
  conv => arg 3; arg 1; ext a w; arg 2; whnf
  refine then_open fun K2 hK2 => ?_
  have HX1 := Lib.hid HX
  unfold crtCells at HX1
  have HI1 := Lib.hid HI
  have HB1 := Lib.hid HB
  have HS := Lib.hid hl
  obtain ⟨l1, l2, l3, l5, l6, l7, l8, l9, l10, l11⟩ := hl.le
  have hlt1 := HX1.out.lt
  clear HX HI HB hl
  have HK := Lib.hid hk
  clear hk
  have q0 := HX1.out.cell 0
  have q11 := HX1.out.cell 11
  simp only [List.getElem?_toArray, List.getElem?_cons_zero, List.getElem?_cons_succ] at q0 q11
  generalize he : decide (0 < x.edges.length) = e at *
  have HV := Lib.hid hV
  clear hV
  have k2 := HK.out
  have g1 : ¬ x.k < 1 := by omega
  have g6 : ¬ 6 < x.k := by omega
  have n1 : (x.k != 1) = true := by rw [k2]; decide
  have n2 : (x.k != 2) = false := by rw [k2]; decide
  have n3 : (x.k != 3) = true := by rw [k2]; decide
  have n4 : (x.k != 4) = true := by rw [k2]; decide
  have n5 : x.k < 5 := by omega
  have HN := Lib.hid (And.intro g1 (And.intro g6 (And.intro n1 (And.intro n2 (And.intro n3 (And.intro n4 n5))))))
  clear k2
  cases p with
  | true =>
    go_upto_region 8 with fail
    go_ret2
    exact bad_ret HB1.out (HV.out.trans (by simp [badB, HN.out.1, HN.out.2.1, HN.out.2.2.1, HN.out.2.2.2.1, HN.out.2.2.2.2.1, HN.out.2.2.2.2.2.1, HN.out.2.2.2.2.2.2])) _ _ _
  | false =>
    cases t with
    | true =>
      cases d with
      | true =>
        go_upto_region 8 with fail
        go_ret2
        exact bad_ret HB1.out (HV.out.trans (by simp [badB, HN.out.1, HN.out.2.1, HN.out.2.2.1, HN.out.2.2.2.1, HN.out.2.2.2.2.1, HN.out.2.2.2.2.2.1, HN.out.2.2.2.2.2.2])) _ _ _
      | false =>
        cases b with
        | true =>
          go_upto_region 8 with fail
          go_ret2
          exact bad_ret HB1.out (HV.out.trans (by simp [badB, HN.out.1, HN.out.2.1, HN.out.2.2.1, HN.out.2.2.2.1, HN.out.2.2.2.2.1, HN.out.2.2.2.2.2.1, HN.out.2.2.2.2.2.2])) _ _ _
        | false =>
          cases e with
          | true =>
            go_upto_region 8 with fail
            go_ret2
            exact bad_ret HB1.out (HV.out.trans (by simp [badB, HN.out.1, HN.out.2.1, HN.out.2.2.1, HN.out.2.2.2.1, HN.out.2.2.2.2.1, HN.out.2.2.2.2.2.1, HN.out.2.2.2.2.2.2])) _ _ _
          | false =>
            go_upto_region 8 with fail
            exact refE8_2 V x w w1 (by unfold crtCells; exact HX1.out) HI1.out HB1.out HS.out HK.out (HV.out.trans (by simp [badB, HN.out.1, HN.out.2.1, HN.out.2.2.1, HN.out.2.2.2.1, HN.out.2.2.2.2.1, HN.out.2.2.2.2.2.1, HN.out.2.2.2.2.2.2])) _ _ _ _ _ _ _ _ _ _ _ _ _ _ _ _ _ _ _ _ _ _ _ _ _ _ _ _ _ _ _ _ _ _ _ _ _ _ _ _ _ _ _ _ _ _ _ _ _ _ _ _ _ _ _ _ _ _ _ _ _ _ _ _ _ _ _ _ _ _ _ _ _ _ _ _ _ _ _ _ _ _ _ _ _ _ _ _ _ _ _ _ _ _ _ _ _ _ _ _ _ _ _ _ _ _ _ _ _ _ _ _ _ _ (by assumption)
    | false =>
      cases d with
      | true =>
        go_upto_region 8 with fail
        go_ret2
        exact bad_ret HB1.out (HV.out.trans (by simp [badB, HN.out.1, HN.out.2.1, HN.out.2.2.1, HN.out.2.2.2.1, HN.out.2.2.2.2.1, HN.out.2.2.2.2.2.1, HN.out.2.2.2.2.2.2])) _ _ _
      | false =>
        cases b with
        | true =>
          go_upto_region 8 with fail
          go_ret2
          exact bad_ret HB1.out (HV.out.trans (by simp [badB, HN.out.1, HN.out.2.1, HN.out.2.2.1, HN.out.2.2.2.1, HN.out.2.2.2.2.1, HN.out.2.2.2.2.2.1, HN.out.2.2.2.2.2.2])) _ _ _
        | false =>
          cases e with
          | true =>
            go_upto_region 8 with fail
            go_ret2
            exact bad_ret HB1.out (HV.out.trans (by simp [badB, HN.out.1, HN.out.2.1, HN.out.2.2.1, HN.out.2.2.2.1, HN.out.2.2.2.2.1, HN.out.2.2.2.2.2.1, HN.out.2.2.2.2.2.2])) _ _ _
          | false =>
            go_upto_region 8 with fail
            exact refE8_2 V x w w1 (by unfold crtCells; exact HX1.out) HI1.out HB1.out HS.out HK.out (HV.out.trans (by simp [badB, HN.out.1, HN.out.2.1, HN.out.2.2.1, HN.out.2.2.2.1, HN.out.2.2.2.2.1, HN.out.2.2.2.2.2.1, HN.out.2.2.2.2.2.2])) _ _ _ _ _ _ _ _ _ _ _ _ _ _ _ _ _ _ _ _ _ _ _ _ _ _ _ _ _ _ _ _ _ _ _ _ _ _ _ _ _ _ _ _ _ _ _ _ _ _ _ _ _ _ _ _ _ _ _ _ _ _ _ _ _ _ _ _ _ _ _ _ _ _ _ _ _ _ _ _ _ _ _ _ _ _ _ _ _ _ _ _ _ _ _ _ _ _ _ _ _ _ _ _ _ _ _ _ _ _ _ _ _ _ (by assumption)

set_option maxRecDepth 100000 in
set_option maxHeartbeats 4000000 in
theorem refE5_3 (V : CV) (x : Crt) (w w1 : World) (HX : Blk w1 w.heap.size 32 (crtCells V x)) (HI : CrtIs w1 w.heap.size V x) (HB : Below w.heap.size w w1) (hl : CrtSm x) (hk : x.k = 3) (p t d b : Bool) (hV : refBad x = badB x.k p t d b (decide (0 < x.edges.length))) (u0 u29 u30 u31 u32 u33 u34 u35 u36 u37 u38 u39 u40 u41 u42 u43 u44 u45 u46 u47 u48 u49 u50 u51 u52 u53 u54 u55 u56 u57 u58 u59 u60 u61 u62 u63 u64 u65 u66 u67 u68 u69 u70 u71 u72 u73 u74 u75 u76 u77 u78 u79 u80 u81 u82 u83 : Value) (K : Act → World → Prop) (hK : ∀ a0 w0, Code.wp Try.prog (sndC (restC 5 ((Try.f11.body).getD .skip))) (bodyPost Try.prog Try.f11 (RefEncPost x w)) a0 w0 → K a0 w0) : Code.wp Try.prog (fstC (restC 5 ((Try.f11.body).getD .skip))) (Exit.then K (bodyPost Try.prog Try.f11 (RefEncPost x w))) ⟨#[u0, .pointer (some ⟨w.heap.size, 0, none⟩), .slice none 0 0, .bool false, .bool p, .bool t, .bool d, .bool b, undef, undef, undef, undef, undef, undef, undef, undef, undef, undef, undef, undef, undef, undef, undef, undef, undef, undef, undef, undef, undef, u29, u30, u31, u32, u33, u34, u35, u36, u37, u38, u39, u40, u41, u42, u43, u44, u45, u46, u47, u48, u49, u50, u51, u52, u53, u54, u55, u56, u57, u58, u59, u60, u61, u62, u63, u64, u65, u66, u67, u68, u69, u70, u71, u72, u73, u74, u75, u76, u77, u78, u79, u80, u81, u82, u83, undef, undef, undef, undef, undef, undef, undef, undef, undef, undef, undef, undef, undef, undef, undef, undef, undef, undef, undef, undef, undef, undef, undef, undef, undef, undef, undef, undef, undef, undef, undef, undef, undef, undef, undef, undef, undef, undef, undef, undef, undef, undef, undef, undef, undef, undef, undef, undef, undef, undef, undef, undef, undef, undef, undef, undef, undef, undef, undef, undef, undef, undef, undef, undef, undef, undef, undef, undef, undef, undef, undef, undef, undef, undef, undef, undef, undef, undef, undef, undef, undef, undef, undef, undef, undef, undef, undef, undef, undef, undef, undef, undef, undef, undef, undef, undef, undef, undef, undef, undef, undef, undef, undef, undef, undef, undef, undef, undef, undef, undef, undef, undef, undef, undef, undef, undef, undef, undef, undef, undef, undef, undef, undef, undef, undef, undef, undef, undef, undef, undef, undef, undef, undef, undef, undef, undef, undef, undef, undef, undef, undef, undef, undef, undef, undef, undef, undef, undef, undef, undef, undef, undef, undef, undef, undef, undef, undef, undef, undef, undef, undef, undef, undef, undef, undef, undef, undef, undef, undef, undef, undef, undef, undef, undef, undef, undef, undef, undef, undef, undef, undef, undef, undef, undef, undef, undef, undef, undef, undef, undef, undef, undef, undef], []⟩ w1 := by
  refine wp_mono (Q := Exit.then (fun a0 w0 => Code.wp Try.prog (sndC (restC 5 ((Try.f11.body).getD .skip))) (bodyPost Try.prog Try.f11 (RefEncPost x w)) a0 w0) (bodyPost Try.prog Try.f11 (RefEncPost x w))) ?_ (then_k hK)
  clear hK
  conv => arg 2; whnf
  conv => arg 3; arg 1; ext a w; arg 2; whnf
  refine then_open fun K2 hK2 => ?_
  have HX1 := Lib.hid HX
  unfold crtCells at HX1
  have HI1 := Lib.hid HI
  have HB1 := Lib.hid HB
  have HS := Lib.hid hl
  obtain ⟨l1, l2, l3, l5, l6, l7, l8, l9, l10, l11⟩ := hl.le
  have hlt1 := HX1.out.lt
  clear HX HI HB hl
  have HK := Lib.hid hk
  clear hk
  have q0 := HX1.out.cell 0
  have q11 := HX1.out.cell 11
  simp only [List.getElem?_toArray, List.getElem?_cons_zero, List.getElem?_cons_succ] at q0 q11
  generalize he : decide (0 < x.edges.length) = e at *
  have HV := Lib.hid hV
  clear hV
  have k3 := HK.out
  have g1 : ¬ x.k < 1 := by omega
  have g6 : ¬ 6 < x.k := by omega
  have n1 : (x.k != 1) = true := by rw [k3]; decide
  have n2 : (x.k != 2) = true := by rw [k3]; decide
  have n3 : (x.k != 3) = false := by rw [k3]; decide
  have n4 : (x.k != 4) = true := by rw [k3]; decide
  have n5 : x.k < 5 := by omega
  have HN := Lib.hid (And.intro g1 (And.intro g6 (And.intro n1 (And.intro n2 (And.intro n3 (And.intro n4 n5))))))
  clear k3
  cases p with
  | true =>
    go_upto_region 8 with fail
    go_ret2
    exact bad_ret HB1.out (HV.out.trans (by simp [badB, HN.out.1, HN.out.2.1, HN.out.2.2.1, HN.out.2.2.2.1, HN.out.2.2.2.2.1, HN.out.2.2.2.2.2.1, HN.out.2.2.2.2.2.2])) _ _ _
  | false =>
    cases t with
    | true =>
      go_upto_region 8 with fail
      go_ret2
      exact bad_ret HB1.out (HV.out.trans (by simp [badB, HN.out.1, HN.out.2.1, HN.out.2.2.1, HN.out.2.2.2.1, HN.out.2.2.2.2.1, HN.out.2.2.2.2.2.1, HN.out.2.2.2.2.2.2])) _ _ _
    | false =>
      cases d with
      | true =>
        cases b with
        | true =>
          go_upto_region 8 with fail
          go_ret2
          exact bad_ret HB1.out (HV.out.trans (by simp [badB, HN.out.1, HN.out.2.1, HN.out.2.2.1, HN.out.2.2.2.1, HN.out.2.2.2.2.1, HN.out.2.2.2.2.2.1, HN.out.2.2.2.2.2.2])) _ _ _
        | false =>
          cases e with
          | true =>
            go_upto_region 8 with fail
            go_ret2
            exact bad_ret HB1.out (HV.out.trans (by simp [badB, HN.out.1, HN.out.2.1, HN.out.2.2.1, HN.out.2.2.2.1, HN.out.2.2.2.2.1, HN.out.2.2.2.2.2.1, HN.out.2.2.2.2.2.2])) _ _ _
          | false =>
            go_upto_region 8 with fail
            exact refE8_3 V x w w1 (by unfold crtCells; exact HX1.out) HI1.out HB1.out HS.out HK.out (HV.out.trans (by simp [badB, HN.out.1, HN.out.2.1, HN.out.2.2.1, HN.out.2.2.2.1, HN.out.2.2.2.2.1, HN.out.2.2.2.2.2.1, HN.out.2.2.2.2.2.2])) _ _ _ _ _ _ _ _ _ _ _ _ _ _ _ _ _ _ _ _ _ _ _ _ _ _ _ _ _ _ _ _ _ _ _ _ _ _ _ _ _ _ _ _ _ _ _ _ _ _ _ _ _ _ _ _ _ _ _ _ _ _ _ _ _ _ _ _ _ _ _ _ _ _ _ _ _ _ _ _ _ _ _ _ _ _ _ _ _ _ _ _ _ _ _ _ _ _ _ _ _ _ _ _ _ _ _ _ _ _ _ _ _ _ (by assumption)
      | false =>
        cases b with
        | true =>
          go_upto_region 8 with fail
          go_ret2
          exact bad_ret HB1.out (HV.out.trans (by simp [badB, HN.out.1, HN.out.2.1, HN.out.2.2.1, HN.out.2.2.2.1, HN.out.2.2.2.2.1, HN.out.2.2.2.2.2.1, HN.out.2.2.2.2.2.2])) _ _ _
        | false =>
          cases e with
          | true =>
            go_upto_region 8 with fail
            go_ret2
            exact bad_ret HB1.out (HV.out.trans (by simp [badB, HN.out.1, HN.out.2.1, HN.out.2.2.1, HN.out.2.2.2.1, HN.out.2.2.2.2.1, HN.out.2.2.2.2.2.1, HN.out.2.2.2.2.2.2])) _ _ _
          | false =>
            go_upto_region 8 with fail
            exact refE8_3 V x w w1 (by unfold crtCells; exact HX1.out) HI1.out HB1.out HS.out HK.out (HV.out.trans (by simp [badB, HN.out.1, HN.out.2.1, HN.out.2.2.1, HN.out.2.2.2.1, HN.out.2.2.2.2.1, HN.out.2.2.2.2.2.1, HN.out.2.2.2.2.2.2])) _ _ _ _ _ _ _ _ _ _ _ _ _ _ _ _ _ _ _ _ _ _ _ _ _ _ _ _ _ _ _ _ _ _ _ _ _ _ _ _ _ _ _ _ _ _ _ _ _ _ _ _ _ _ _ _ _ _ _ _ _ _ _ _ _ _ _ _ _ _ _ _ _ _ _ _ _ _ _ _ _ _ _ _ _ _ _ _ _ _ _ _ _ _ _ _ _ _ _ _ _ _ _ _ _ _ _ _ _ _ _ _ _ _ (by assumption)

set_option maxRecDepth 100000 in
set_option maxHeartbeats 4000000 in
theorem refE5_4 (V : CV) (x : Crt) (w w1 : World) (HX : Blk w1 w.heap.size 32 (crtCells V x)) (HI : CrtIs w1 w.heap.size V x) (HB : Below w.heap.size w w1) (hl : CrtSm x) (hk : x.k = 4) (p t d b : Bool) (hV : refBad x = badB x.k p t d b (decide (0 < x.edges.length))) (u0 u29 u30 u31 u32 u33 u34 u35 u36 u37 u38 u39 u40 u41 u42 u43 u44 u45 u46 u47 u48 u49 u50 u51 u52 u53 u54 u55 u56 u57 u58 u59 u60 u61 u62 u63 u64 u65 u66 u67 u68 u69 u70 u71 u72 u73 u74 u75 u76 u77 u78 u79 u80 u81 u82 u83 : Value) (K : Act → World → Prop) (hK : ∀ a0 w0, Code.wp Try.prog (sndC (restC 5 ((Try.f11.body).getD .skip))) (bodyPost Try.prog Try.f11 (RefEncPost x w)) a0 w0 → K a0 w0) : Code.wp Try.prog (fstC (restC 5 ((Try.f11.body).getD .skip))) (Exit.then K (bodyPost Try.prog Try.f11 (RefEncPost x w))) ⟨#[u0, .pointer (some ⟨w.heap.size, 0, none⟩), .slice none 0 0, .bool false, .bool p, .bool t, .bool d, .bool b, undef, undef, undef, undef, undef, undef, undef, undef, undef, undef, undef, undef, undef, undef, undef, undef, undef, undef, undef, undef, undef, u29, u30, u31, u32, u33, u34, u35, u36, u37, u38, u39, u40, u41, u42, u43, u44, u45, u46, u47, u48, u49, u50, u51, u52, u53, u54, u55, u56, u57, u58, u59, u60, u61, u62, u63, u64, u65, u66, u67, u68, u69, u70, u71, u72, u73, u74, u75, u76, u77, u78, u79, u80, u81, u82, u83, undef, undef, undef, undef, undef, undef, undef, undef, undef, undef, undef, undef, undef, undef, undef, undef, undef, undef, undef, undef, undef, undef, undef, undef, undef, undef, undef, undef, undef, undef, undef, undef, undef, undef, undef, undef, undef, undef, undef, undef, undef, undef, undef, undef, undef, undef, undef, undef, undef, undef, undef, undef, undef, undef, undef, undef, undef, undef, undef, undef, undef, undef, undef, undef, undef, undef, undef, undef, undef, undef, undef, undef, undef, undef, undef, undef, undef, undef, undef, undef, undef, undef, undef, undef, undef, undef, undef, undef, undef, undef, undef, undef, undef, undef, undef, undef, undef, undef, undef, undef, undef, undef, undef, undef, undef, undef, undef, undef, undef, undef, undef, undef, undef, undef, undef, undef, undef, undef, undef, undef, undef, undef, undef, undef, undef, undef, undef, undef, undef, undef, undef, undef, undef, undef, undef, undef, undef, undef, undef, undef, undef, undef, undef, undef, undef, undef, undef, undef, undef, undef, undef, undef, undef, undef, undef, undef, undef, undef, undef, undef, undef, undef, undef, undef, undef, undef, undef, undef, undef, undef, undef, undef, undef, undef, undef, undef, undef, undef, undef, undef, undef, undef, undef, undef, undef, undef, undef, undef, undef, undef, undef, undef, undef], []⟩ w1 := by
  refine wp_mono (Q := Exit.then (fun a0 w0 => Code.wp Try.prog (sndC (restC 5 ((Try.f11.body).getD .skip))) (bodyPost Try.prog Try.f11 (RefEncPost x w)) a0 w0) (bodyPost Try.prog Try.f11 (RefEncPost x w))) ?_ (then_k hK)
  clear hK
  conv => arg 2; whnf
  conv => arg 3; arg 1; ext a w; arg 2; whnf
  refine then_open fun K2 hK2 => ?_
  have HX1 := Lib.hid HX
  unfold crtCells at HX1
  have HI1 := Lib.hid HI
  have HB1 := Lib.hid HB
  have HS := Lib.hid hl
  obtain ⟨l1, l2, l3, l5, l6, l7, l8, l9, l10, l11⟩ := hl.le
  have hlt1 := HX1.out.lt
  clear HX HI HB hl
  have HK := Lib.hid hk
  clear hk
  have q0 := HX1.out.cell 0
  have q11 := HX1.out.cell 11
  simp only [List.getElem?_toArray, List.getElem?_cons_zero, List.getElem?_cons_succ] at q0 q11
  generalize he : decide (0 < x.edges.length) = e at *
  have HV := Lib.hid hV
  clear hV
  have k4 := HK.out
  have g1 : ¬ x.k < 1 := by omega
  have g6 : ¬ 6 < x.k := by omega
  have n1 : (x.k != 1) = true := by rw [k4]; decide
  have n2 : (x.k != 2) = true := by rw [k4]; decide
  have n3 : (x.k != 3) = true := by rw [k4]; decide
  have n4 : (x.k != 4) = false := by rw [k4]; decide
  have n5 : x.k < 5 := by omega
  have HN := Lib.hid (And.intro g1 (And.intro g6 (And.intro n1 (And.intro n2 (And.intro n3 (And.intro n4 n5))))))
  clear k4
  cases p with
  | true =>
    go_upto_region 8 with fail
    go_ret2
    exact bad_ret HB1.out (HV.out.trans (by simp [badB, HN.out.1, HN.out.2.1, HN.out.2.2.1, HN.out.2.2.2.1, HN.out.2.2.2.2.1, HN.out.2.2.2.2.2.1, HN.out.2.2.2.2.2.2])) _ _ _
  | false =>
    cases t with
    | true =>
      go_upto_region 8 with fail
      go_ret2
      exact bad_ret HB1.out (HV.out.trans (by simp [badB, HN.out.1, HN.out.2.1, HN.out.2.2.1, HN.out.2.2.2.1, HN.out.2.2.2.2.1, HN.out.2.2.2.2.2.1, HN.out.2.2.2.2.2.2])) _ _ _
    | false =>
      cases d with
      | true =>
        go_upto_region 8 with fail
        go_ret2
        exact bad_ret HB1.out (HV.out.trans (by simp [badB, HN.out.1, HN.out.2.1, HN.out.2.2.1, HN.out.2.2.2.1, HN.out.2.2.2.2.1, HN.out.2.2.2.2.2.1, HN.out.2.2.2.2.2.2])) _ _ _
      | false =>
        cases b with
        | true =>
          cases e with
          | true =>
            go_upto_region 8 with fail
            go_ret2
            exact bad_ret HB1.out (HV.out.trans (by simp [badB, HN.out.1, HN.out.2.1, HN.out.2.2.1, HN.out.2.2.2.1, HN.out.2.2.2.2.1, HN.out.2.2.2.2.2.1, HN.out.2.2.2.2.2.2])) _ _ _
          | false =>
            go_upto_region 8 with fail
            exact refE8_4 V x w w1 (by unfold crtCells; exact HX1.out) HI1.out HB1.out HS.out HK.out (HV.out.trans (by simp [badB, HN.out.1, HN.out.2.1, HN.out.2.2.1, HN.out.2.2.2.1, HN.out.2.2.2.2.1, HN.out.2.2.2.2.2.1, HN.out.2.2.2.2.2.2])) _ _ _ _ _ _ _ _ _ _ _ _ _ _ _ _ _ _ _ _ _ _ _ _ _ _ _ _ _ _ _ _ _ _ _ _ _ _ _ _ _ _ _ _ _ _ _ _ _ _ _ _ _ _ _ _ _ _ _ _ _ _ _ _ _ _ _ _ _ _ _ _ _ _ _ _ _ _ _ _ _ _ _ _ _ _ _ _ _ _ _ _ _ _ _ _ _ _ _ _ _ _ _ _ _ _ _ _ _ _ _ _ _ _ (by assumption)
        | false =>
          cases e with
          | true =>
            go_upto_region 8 with fail
            go_ret2
            exact bad_ret HB1.out (HV.out.trans (by simp [badB, HN.out.1, HN.out.2.1, HN.out.2.2.1, HN.out.2.2.2.1, HN.out.2.2.2.2.1, HN.out.2.2.2.2.2.1, HN.out.2.2.2.2.2.2])) _ _ _
          | false =>
            go_upto_region 8 with fail
            exact refE8_4 V x w w1 (by unfold crtCells; exact HX1.out) HI1.out HB1.out HS.out HK.out (HV.out.trans (by simp [badB, HN.out.1, HN.out.2.1, HN.out.2.2.1, HN.out.2.2.2.1, HN.out.2.2.2.2.1, HN.out.2.2.2.2.2.1, HN.out.2.2.2.2.2.2])) _ _ _ _ _ _ _ _ _ _ _ _ _ _ _ _ _ _ _ _ _ _ _ _ _ _ _ _ _ _ _ _ _ _ _ _ _ _ _ _ _ _ _ _ _ _ _ _ _ _ _ _ _ _ _ _ _ _ _ _ _ _ _ _ _ _ _ _ _ _ _ _ _ _ _ _ _ _ _ _ _ _ _ _ _ _ _ _ _ _ _ _ _ _ _ _ _ _ _ _ _ _ _ _ _ _ _ _ _ _ _ _ _ _ (by assumption)

set_option maxRecDepth 100000 in
set_option maxHeartbeats 4000000 in
theorem refE5_5 (V : CV) (x : Crt) (w w1 : World) (HX : Blk w1 w.heap.size 32 (crtCells V x)) (HI : CrtIs w1 w.heap.size V x) (HB : Below w.heap.size w w1) (hl : CrtSm x) (hk : x.k = 5) (p t d b : Bool) (hV : refBad x = badB x.k p t d b (decide (0 < x.edges.length))) (u0 u29 u30 u31 u32 u33 u34 u35 u36 u37 u38 u39 u40 u41 u42 u43 u44 u45 u46 u47 u48 u49 u50 u51 u52 u53 u54 u55 u56 u57 u58 u59 u60 u61 u62 u63 u64 u65 u66 u67 u68 u69 u70 u71 u72 u73 u74 u75 u76 u77 u78 u79 u80 u81 u82 u83 : Value) (K : Act → World → Prop) (hK : ∀ a0 w0, Code.wp Try.prog (sndC (restC 5 ((Try.f11.body).getD .skip))) (bodyPost Try.prog Try.f11 (RefEncPost x w)) a0 w0 → K a0 w0) : Code.wp Try.prog (fstC (restC 5 ((Try.f11.body).getD .skip))) (Exit.then K (bodyPost Try.prog Try.f11 (RefEncPost x w))) ⟨#[u0, .pointer (some ⟨w.heap.size, 0, none⟩), .slice none 0 0, .bool false, .bool p, .bool t, .bool d, .bool b, undef, undef, undef, undef, undef, undef, undef, undef, undef, undef, undef, undef, undef, undef, undef, undef, undef, undef, undef, undef, undef, u29, u30, u31, u32, u33, u34, u35, u36, u37, u38, u39, u40, u41, u42, u43, u44, u45, u46, u47, u48, u49, u50, u51, u52, u53, u54, u55, u56, u57, u58, u59, u60, u61, u62, u63, u64, u65, u66, u67, u68, u69, u70, u71, u72, u73, u74, u75, u76, u77, u78, u79, u80, u81, u82, u83, undef, undef, undef, undef, undef, undef, undef, undef, undef, undef, undef, undef, undef, undef, undef, undef, undef, undef, undef, undef, undef, undef, undef, undef, undef, undef, undef, undef, undef, undef, undef, undef, undef, undef, undef, undef, undef, undef, undef, undef, undef, undef, undef, undef, undef, undef, undef, undef, undef, undef, undef, undef, undef, undef, undef, undef, undef, undef, undef, undef, undef, undef, undef, undef, undef, undef, undef, undef, undef, undef, undef, undef, undef, undef, undef, undef, undef, undef, undef, undef, undef, undef, undef, undef, undef, undef, undef, undef, undef, undef, undef, undef, undef, undef, undef, undef, undef, undef, undef, undef, undef, undef, undef, undef, undef, undef, undef, undef, undef, undef, undef, undef, undef, undef, undef, undef, undef, undef, undef, undef, undef, undef, undef, undef, undef, undef, undef, undef, undef, undef, undef, undef, undef, undef, undef, undef, undef, undef, undef, undef, undef, undef, undef, undef, undef, undef, undef, undef, undef, undef, undef, undef, undef, undef, undef, undef, undef, undef, undef, undef, undef, undef, undef, undef, undef, undef, undef, undef, undef, undef, undef, undef, undef, undef, undef, undef, undef, undef, undef, undef, undef, undef, undef, undef, undef, undef, undef, undef, undef, undef, undef, undef, undef], []⟩ w1 := by
  refine wp_mono (Q := Exit.then (fun a0 w0 => Code.wp Try.prog (sndC (restC 5 ((Try.f11.body).getD .skip))) (bodyPost Try.prog Try.f11 (RefEncPost x w)) a0 w0) (bodyPost Try.prog Try.f11 (RefEncPost x w))) ?_ (then_k hK)
  clear hK
  conv => arg 2; whnf
  conv => arg 3; arg 1; ext a w; arg 2; whnf
  refine then_open fun K2 hK2 => ?_
  have HX1 := Lib.hid HX
  unfold crtCells at HX1
  have HI1 := Lib.hid HI
  have HB1 := Lib.hid HB
  have HS := Lib.hid hl
  obtain ⟨l1, l2, l3, l5, l6, l7, l8, l9, l10, l11⟩ := hl.le
  have hlt1 := HX1.out.lt
  clear HX HI HB hl
  have HK := Lib.hid hk
  clear hk
  have q0 := HX1.out.cell 0
  have q11 := HX1.out.cell 11
  simp only [List.getElem?_toArray, List.getElem?_cons_zero, List.getElem?_cons_succ] at q0 q11
  generalize he : decide (0 < x.edges.length) = e at *
  have HV := Lib.hid hV
  clear hV
  have k5 := HK.out
  have g1 : ¬ x.k < 1 := by omega
  have g6 : ¬ 6 < x.k := by omega
  have n1 : (x.k != 1) = true := by rw [k5]; decide
  have n2 : (x.k != 2) = true := by rw [k5]; decide
  have n3 : (x.k != 3) = true := by rw [k5]; decide
  have n4 : (x.k != 4) = true := by rw [k5]; decide
  have n5 : ¬ x.k < 5 := by omega
  have HN := Lib.hid (And.intro g1 (And.intro g6 (And.intro n1 (And.intro n2 (And.intro n3 (And.intro n4 n5))))))
  clear k5
  cases p with
  | true =>
    go_upto_region 8 with fail
    go_ret2
    exact bad_ret HB1.out (HV.out.trans (by simp [badB, HN.out.1, HN.out.2.1, HN.out.2.2.1, HN.out.2.2.2.1, HN.out.2.2.2.2.1, HN.out.2.2.2.2.2.1, HN.out.2.2.2.2.2.2])) _ _ _
  | false =>
    cases t with
    | true =>
      go_upto_region 8 with fail
      go_ret2
      exact bad_ret HB1.out (HV.out.trans (by simp [badB, HN.out.1, HN.out.2.1, HN.out.2.2.1, HN.out.2.2.2.1, HN.out.2.2.2.2.1, HN.out.2.2.2.2.2.1, HN.out.2.2.2.2.2.2])) _ _ _
    | false =>
      cases d with
      | true =>
        go_upto_region 8 with fail
        go_ret2
        exact bad_ret HB1.out (HV.out.trans (by simp [badB, HN.out.1, HN.out.2.1, HN.out.2.2.1, HN.out.2.2.2.1, HN.out.2.2.2.2.1, HN.out.2.2.2.2.2.1, HN.out.2.2.2.2.2.2])) _ _ _
      | false =>
        cases b with
        | true =>
          go_upto_region 8 with fail
          go_ret2
          exact bad_ret HB1.out (HV.out.trans (by simp [badB, HN.out.1, HN.out.2.1, HN.out.2.2.1, HN.out.2.2.2.1, HN.out.2.2.2.2.1, HN.out.2.2.2.2.2.1, HN.out.2.2.2.2.2.2])) _ _ _
        | false =>
          cases e with
          | true =>
            go_upto_region 8 with fail
            exact refE8_5 V x w w1 (by unfold crtCells; exact HX1.out) HI1.out HB1.out HS.out HK.out (HV.out.trans (by simp [badB, HN.out.1, HN.out.2.1, HN.out.2.2.1, HN.out.2.2.2.1, HN.out.2.2.2.2.1, HN.out.2.2.2.2.2.1, HN.out.2.2.2.2.2.2])) _ _ _ _ _ _ _ _ _ _ _ _ _ _ _ _ _ _ _ _ _ _ _ _ _ _ _ _ _ _ _ _ _ _ _ _ _ _ _ _ _ _ _ _ _ _ _ _ _ _ _ _ _ _ _ _ _ _ _ _ _ _ _ _ _ _ _ _ _ _ _ _ _ _ _ _ _ _ _ _ _ _ _ _ _ _ _ _ _ _ _ _ _ _ _ _ _ _ _ _ _ _ _ _ _ _ _ _ _ _ _ _ _ _ (by assumption)
          | false =>
            go_upto_region 8 with fail
            exact refE8_5 V x w w1 (by unfold crtCells; exact HX1.out) HI1.out HB1.out HS.out HK.out (HV.out.trans (by simp [badB, HN.out.1, HN.out.2.1, HN.out.2.2.1, HN.out.2.2.2.1, HN.out.2.2.2.2.1, HN.out.2.2.2.2.2.1, HN.out.2.2.2.2.2.2])) _ _ _ _ _ _ _ _ _ _ _ _ _ _ _ _ _ _ _ _ _ _ _ _ _ _ _ _ _ _ _ _ _ _ _ _ _ _ _ _ _ _ _ _ _ _ _ _ _ _ _ _ _ _ _ _ _ _ _ _ _ _ _ _ _ _ _ _ _ _ _ _ _ _ _ _ _ _ _ _ _ _ _ _ _ _ _ _ _ _ _ _ _ _ _ _ _ _ _ _ _ _ _ _ _ _ _ _ _ _ _ _ _ _ (by assumption)

set_option maxRecDepth 100000 in
set_option maxHeartbeats 4000000 in
theorem refE5_6 (V : CV) (x : Crt) (w w1 : World) (HX : Blk w1 w.heap.size 32 (crtCells V x)) (HI : CrtIs w1 w.heap.size V x) (HB : Below w.heap.size w w1) (hl : CrtSm x) (hk : x.k = 6) (p t d b : Bool) (hV : refBad x = badB x.k p t d b (decide (0 < x.edges.length))) (u0 u29 u30 u31 u32 u33 u34 u35 u36 u37 u38 u39 u40 u41 u42 u43 u44 u45 u46 u47 u48 u49 u50 u51 u52 u53 u54 u55 u56 u57 u58 u59 u60 u61 u62 u63 u64 u65 u66 u67 u68 u69 u70 u71 u72 u73 u74 u75 u76 u77 u78 u79 u80 u81 u82 u83 : Value) (K : Act → World → Prop) (hK : ∀ a0 w0, Code.wp Try.prog (sndC (restC 5 ((Try.f11.body).getD .skip))) (bodyPost Try.prog Try.f11 (RefEncPost x w)) a0 w0 → K a0 w0) : Code.wp Try.prog (fstC (restC 5 ((Try.f11.body).getD .skip))) (Exit.then K (bodyPost Try.prog Try.f11 (RefEncPost x w))) ⟨#[u0, .pointer (some ⟨w.heap.size, 0, none⟩), .slice none 0 0, .bool false, .bool p, .bool t, .bool d, .bool b, undef, undef, undef, undef, undef, undef, undef, undef, undef, undef, undef, undef, undef, undef, undef, undef, undef, undef, undef, undef, undef, u29, u30, u31, u32, u33, u34, u35, u36, u37, u38, u39, u40, u41, u42, u43, u44, u45, u46, u47, u48, u49, u50, u51, u52, u53, u54, u55, u56, u57, u58, u59, u60, u61, u62, u63, u64, u65, u66, u67, u68, u69, u70, u71, u72, u73, u74, u75, u76, u77, u78, u79, u80, u81, u82, u83, undef, undef, undef, undef, undef, undef, undef, undef, undef, undef, undef, undef, undef, undef, undef, undef, undef, undef, undef, undef, undef, undef, undef, undef, undef, undef, undef, undef, undef, undef, undef, undef, undef, undef, undef, undef, undef, undef, undef, undef, undef, undef, undef, undef, undef, undef, undef, undef, undef, undef, undef, undef, undef, undef, undef, undef, undef, undef, undef, undef, undef, undef, undef, undef, undef, undef, undef, undef, undef, undef, undef, undef, undef, undef, undef, undef, undef, undef, undef, undef, undef, undef, undef, undef, undef, undef, undef, undef, undef, undef, undef, undef, undef, undef, undef, undef, undef, undef, undef, undef, undef, undef, undef, undef, undef, undef, undef, undef, undef, undef, undef, undef, undef, undef, undef, undef, undef, undef, undef, undef, undef, undef, undef, undef, undef, undef, undef, undef, undef, undef, undef, undef, undef, undef, undef, undef, undef, undef, undef, undef, undef, undef, undef, undef, undef, undef, undef, undef, undef, undef, undef, undef, undef, undef, undef, undef, undef, undef, undef, undef, undef, undef, undef, undef, undef, undef, undef, undef, undef, undef, undef, undef, undef, undef, undef, undef, undef, undef, undef, undef, undef, undef, undef, undef, undef, undef, undef, undef, undef, undef, undef, undef, undef], []⟩ w1 := by
  refine wp_mono (Q := Exit.then (fun a0 w0 => Code.wp Try.prog (sndC (restC 5 ((Try.f11.body).getD .skip))) (bodyPost Try.prog Try.f11 (RefEncPost x w)) a0 w0) (bodyPost Try.prog Try.f11 (RefEncPost x w))) ?_ (then_k hK)
  clear hK
  conv => arg 2; whnf
  conv => arg 3; arg 1; ext a w; arg 2; whnf
  refine then_open fun K2 hK2 => ?_
  have HX1 := Lib.hid HX
  unfold crtCells at HX1
  have HI1 := Lib.hid HI
  have HB1 := Lib.hid HB
  have HS := Lib.hid hl
  obtain ⟨l1, l2, l3, l5, l6, l7, l8, l9, l10, l11⟩ := hl.le
  have hlt1 := HX1.out.lt
  clear HX HI HB hl
  have HK := Lib.hid hk
  clear hk
  have q0 := HX1.out.cell 0
  have q11 := HX1.out.cell 11
  simp only [List.getElem?_toArray, List.getElem?_cons_zero, List.getElem?_cons_succ] at q0 q11
  generalize he : decide (0 < x.edges.length) = e at *
  have HV := Lib.hid hV
  clear hV
  have k6 := HK.out
  have g1 : ¬ x.k < 1 := by omega
  have g6 : ¬ 6 < x.k := by omega
  have n1 : (x.k != 1) = true := by rw [k6]; decide
  have n2 : (x.k != 2) = true := by rw [k6]; decide
  have n3 : (x.k != 3) = true := by rw [k6]; decide
  have n4 : (x.k != 4) = true := by rw [k6]; decide
  have n5 : ¬ x.k < 5 := by omega
  have HN := Lib.hid (And.intro g1 (And.intro g6 (And.intro n1 (And.intro n2 (And.intro n3 (And.intro n4 n5))))))
  clear k6
  cases p with
  | true =>
    go_upto_region 8 with fail
    go_ret2
    exact bad_ret HB1.out (HV.out.trans (by simp [badB, HN.out.1, HN.out.2.1, HN.out.2.2.1, HN.out.2.2.2.1, HN.out.2.2.2.2.1, HN.out.2.2.2.2.2.1, HN.out.2.2.2.2.2.2])) _ _ _
  | false =>
    cases t with
    | true =>
      go_upto_region 8 with fail
      go_ret2
      exact bad_ret HB1.out (HV.out.trans (by simp [badB, HN.out.1, HN.out.2.1, HN.out.2.2.1, HN.out.2.2.2.1, HN.out.2.2.2.2.1, HN.out.2.2.2.2.2.1, HN.out.2.2.2.2.2.2])) _ _ _
    | false =>
      cases d with
      | true =>
        go_upto_region 8 with fail
        go_ret2
        exact bad_ret HB1.out (HV.out.trans (by simp [badB, HN.out.1, HN.out.2.1, HN.out.2.2.1, HN.out.2.2.2.1, HN.out.2.2.2.2.1, HN.out.2.2.2.2.2.1, HN.out.2.2.2.2.2.2])) _ _ _
      | false =>
        cases b with
        | true =>
          go_upto_region 8 with fail
          go_ret2
          exact bad_ret HB1.out (HV.out.trans (by simp [badB, HN.out.1, HN.out.2.1, HN.out.2.2.1, HN.out.2.2.2.1, HN.out.2.2.2.2.1, HN.out.2.2.2.2.2.1, HN.out.2.2.2.2.2.2])) _ _ _
        | false =>
          cases e with
          | true =>
            go_upto_region 8 with fail
            exact refE8_6 V x w w1 (by unfold crtCells; exact HX1.out) HI1.out HB1.out HS.out HK.out (HV.out.trans (by simp [badB, HN.out.1, HN.out.2.1, HN.out.2.2.1, HN.out.2.2.2.1, HN.out.2.2.2.2.1, HN.out.2.2.2.2.2.1, HN.out.2.2.2.2.2.2])) _ _ _ _ _ _ _ _ _ _ _ _ _ _ _ _ _ _ _ _ _ _ _ _ _ _ _ _ _ _ _ _ _ _ _ _ _ _ _ _ _ _ _ _ _ _ _ _ _ _ _ _ _ _ _ _ _ _ _ _ _ _ _ _ _ _ _ _ _ _ _ _ _ _ _ _ _ _ _ _ _ _ _ _ _ _ _ _ _ _ _ _ _ _ _ _ _ _ _ _ _ _ _ _ _ _ _ _ _ _ _ _ _ _ (by assumption)
          | false =>
            go_upto_region 8 with fail
            exact refE8_6 V x w w1 (by unfold crtCells; exact HX1.out) HI1.out HB1.out HS.out HK.out (HV.out.trans (by simp [badB, HN.out.1, HN.out.2.1, HN.out.2.2.1, HN.out.2.2.2.1, HN.out.2.2.2.2.1, HN.out.2.2.2.2.2.1, HN.out.2.2.2.2.2.2])) _ _ _ _ _ _ _ _ _ _ _ _ _ _ _ _ _ _ _ _ _ _ _ _ _ _ _ _ _ _ _ _ _ _ _ _ _ _ _ _ _ _ _ _ _ _ _ _ _ _ _ _ _ _ _ _ _ _ _ _ _ _ _ _ _ _ _ _ _ _ _ _ _ _ _ _ _ _ _ _ _ _ _ _ _ _ _ _ _ _ _ _ _ _ _ _ _ _ _ _ _ _ _ _ _ _ _ _ _ _ _ _ _ _ (by assumption)

theorem refE5 (V : CV) (x : Crt) (w w1 : World) (HX : Blk w1 w.heap.size 32 (crtCells V x)) (HI : CrtIs w1 w.heap.size V x) (HB : Below w.heap.size w w1) (hl : CrtSm x) (p t d b : Bool) (hV : refBad x = badB x.k p t d b (decide (0 < x.edges.length))) (u0 u29 u30 u31 u32 u33 u34 u35 u36 u37 u38 u39 u40 u41 u42 u43 u44 u45 u46 u47 u48 u49 u50 u51 u52 u53 u54 u55 u56 u57 u58 u59 u60 u61 u62 u63 u64 u65 u66 u67 u68 u69 u70 u71 u72 u73 u74 u75 u76 u77 u78 u79 u80 u81 u82 u83 : Value) (K : Act → World → Prop) (hK : ∀ a0 w0, Code.wp Try.prog (sndC (restC 5 ((Try.f11.body).getD .skip))) (bodyPost Try.prog Try.f11 (RefEncPost x w)) a0 w0 → K a0 w0) : Code.wp Try.prog (fstC (restC 5 ((Try.f11.body).getD .skip))) (Exit.then K (bodyPost Try.prog Try.f11 (RefEncPost x w))) ⟨#[u0, .pointer (some ⟨w.heap.size, 0, none⟩), .slice none 0 0, .bool false, .bool p, .bool t, .bool d, .bool b, undef, undef, undef, undef, undef, undef, undef, undef, undef, undef, undef, undef, undef, undef, undef, undef, undef, undef, undef, undef, undef, u29, u30, u31, u32, u33, u34, u35, u36, u37, u38, u39, u40, u41, u42, u43, u44, u45, u46, u47, u48, u49, u50, u51, u52, u53, u54, u55, u56, u57, u58, u59, u60, u61, u62, u63, u64, u65, u66, u67, u68, u69, u70, u71, u72, u73, u74, u75, u76, u77, u78, u79, u80, u81, u82, u83, undef, undef, undef, undef, undef, undef, undef, undef, undef, undef, undef, undef, undef, undef, undef, undef, undef, undef, undef, undef, undef, undef, undef, undef, undef, undef, undef, undef, undef, undef, undef, undef, undef, undef, undef, undef, undef, undef, undef, undef, undef, undef, undef, undef, undef, undef, undef, undef, undef, undef, undef, undef, undef, undef, undef, undef, undef, undef, undef, undef, undef, undef, undef, undef, undef, undef, undef, undef, undef, undef, undef, undef, undef, undef, undef, undef, undef, undef, undef, undef, undef, undef, undef, undef, undef, undef, undef, undef, undef, undef, undef, undef, undef, undef, undef, undef, undef, undef, undef, undef, undef, undef, undef, undef, undef, undef, undef, undef, undef, undef, undef, undef, undef, undef, undef, undef, undef, undef, undef, undef, undef, undef, undef, undef, undef, undef, undef, undef, undef, undef, undef, undef, undef, undef, undef, undef, undef, undef, undef, undef, undef, undef, undef, undef, undef, undef, undef, undef, undef, undef, undef, undef, undef, undef, undef, undef, undef, undef, undef, undef, undef, undef, undef, undef, undef, undef, undef, undef, undef, undef, undef, undef, undef, undef, undef, undef, undef, undef, undef, undef, undef, undef, undef, undef, undef, undef, undef, undef, undef, undef, undef, undef, undef], []⟩ w1 := by
  have e : (x.k < 1 ∨ 6 < x.k) ∨ x.k = 1 ∨ x.k = 2 ∨ x.k = 3 ∨ x.k = 4 ∨ x.k = 5 ∨ x.k = 6 := by omega
  rcases e with e | e | e | e | e | e | e
  · exact refE5_0 V x w w1 HX HI HB hl e p t d b hV u0 u29 u30 u31 u32 u33 u34 u35 u36 u37 u38 u39 u40 u41 u42 u43 u44 u45 u46 u47 u48 u49 u50 u51 u52 u53 u54 u55 u56 u57 u58 u59 u60 u61 u62 u63 u64 u65 u66 u67 u68 u69 u70 u71 u72 u73 u74 u75 u76 u77 u78 u79 u80 u81 u82 u83 K hK
  · exact refE5_1 V x w w1 HX HI HB hl e p t d b hV u0 u29 u30 u31 u32 u33 u34 u35 u36 u37 u38 u39 u40 u41 u42 u43 u44 u45 u46 u47 u48 u49 u50 u51 u52 u53 u54 u55 u56 u57 u58 u59 u60 u61 u62 u63 u64 u65 u66 u67 u68 u69 u70 u71 u72 u73 u74 u75 u76 u77 u78 u79 u80 u81 u82 u83 K hK
  · exact refE5_2 V x w w1 HX HI HB hl e p t d b hV u0 u29 u30 u31 u32 u33 u34 u35 u36 u37 u38 u39 u40 u41 u42 u43 u44 u45 u46 u47 u48 u49 u50 u51 u52 u53 u54 u55 u56 u57 u58 u59 u60 u61 u62 u63 u64 u65 u66 u67 u68 u69 u70 u71 u72 u73 u74 u75 u76 u77 u78 u79 u80 u81 u82 u83 K hK
  · exact refE5_3 V x w w1 HX HI HB hl e p t d b hV u0 u29 u30 u31 u32 u33 u34 u35 u36 u37 u38 u39 u40 u41 u42 u43 u44 u45 u46 u47 u48 u49 u50 u51 u52 u53 u54 u55 u56 u57 u58 u59 u60 u61 u62 u63 u64 u65 u66 u67 u68 u69 u70 u71 u72 u73 u74 u75 u76 u77 u78 u79 u80 u81 u82 u83 K hK
  · exact refE5_4 V x w w1 HX HI HB hl e p t d b hV u0 u29 u30 u31 u32 u33 u34 u35 u36 u37 u38 u39 u40 u41 u42 u43 u44 u45 u46 u47 u48 u49 u50 u51 u52 u53 u54 u55 u56 u57 u58 u59 u60 u61 u62 u63 u64 u65 u66 u67 u68 u69 u70 u71 u72 u73 u74 u75 u76 u77 u78 u79 u80 u81 u82 u83 K hK
  · exact refE5_5 V x w w1 HX HI HB hl e p t d b hV u0 u29 u30 u31 u32 u33 u34 u35 u36 u37 u38 u39 u40 u41 u42 u43 u44 u45 u46 u47 u48 u49 u50 u51 u52 u53 u54 u55 u56 u57 u58 u59 u60 u61 u62 u63 u64 u65 u66 u67 u68 u69 u70 u71 u72 u73 u74 u75 u76 u77 u78 u79 u80 u81 u82 u83 K hK
  · exact refE5_6 V x w w1 HX HI HB hl e p t d b hV u0 u29 u30 u31 u32 u33 u34 u35 u36 u37 u38 u39 u40 u41 u42 u43 u44 u45 u46 u47 u48 u49 u50 u51 u52 u53 u54 u55 u56 u57 u58 u59 u60 u61 u62 u63 u64 u65 u66 u67 u68 u69 u70 u71 u72 u73 u74 u75 u76 u77 u78 u79 u80 u81 u82 u83 K hK

end Go.Proofs.Ytmlbjcngboegfaa
