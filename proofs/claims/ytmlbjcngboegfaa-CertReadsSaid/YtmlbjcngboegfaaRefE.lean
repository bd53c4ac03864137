/-
  The reference's Encode, by kinds. Written by an AI agent.
-/
import Derived.Test.YtmlbjcngboegfaaRefE5
namespace Go.Proofs.Ytmlbjcngboegfaa
open Go.RowKit

set_option maxRecDepth 100000 in
set_option maxHeartbeats 4000000 in
theorem refE3_ (V : CV) (x : Crt) (w w1 : World) (HX : Blk w1 w.heap.size 32 (crtCells V x)) (HI : CrtIs w1 w.heap.size V x) (HB : Below w.heap.size w w1) (hl : CrtSm x) (p t : Bool) (hV : refBad x = badB x.k p t (decide (0 < x.pts.length + x.lines.length)) (decide (0 < x.b0.length) || decide (0 < x.b1.length) || decide (0 < x.b2.length) || decide (0 < x.b3.length)) (decide (0 < x.edges.length))) (u0 u29 u30 u31 u32 u33 u34 u35 u36 u37 u38 u39 u40 u41 u42 u43 u44 u45 u46 u47 : Value) (K : Act → World → Prop) (hK : ∀ a0 w0, Code.wp Try.prog (sndC (restC 3 ((Try.f11.body).getD .skip))) (bodyPost Try.prog Try.f11 (RefEncPost x w)) a0 w0 → K a0 w0) : Code.wp Try.prog (fstC (restC 3 ((Try.f11.body).getD .skip))) (Exit.then K (bodyPost Try.prog Try.f11 (RefEncPost x w))) ⟨#[u0, .pointer (some ⟨w.heap.size, 0, none⟩), .slice none 0 0, .bool false, .bool p, .bool t, undef, undef, undef, undef, undef, undef, undef, undef, undef, undef, undef, undef, undef, undef, undef, undef, undef, undef, undef, undef, undef, undef, undef, u29, u30, u31, u32, u33, u34, u35, u36, u37, u38, u39, u40, u41, u42, u43, u44, u45, u46, u47, undef, undef, undef, undef, undef, undef, undef, undef, undef, undef, undef, undef, undef, undef, undef, undef, undef, undef, undef, undef, undef, undef, undef, undef, undef, undef, undef, undef, undef, undef, undef, undef, undef, undef, undef, undef, undef, undef, undef, undef, undef, undef, undef, undef, undef, undef, undef, undef, undef, undef, undef, undef, undef, undef, undef, undef, undef, undef, undef, undef, undef, undef, undef, undef, undef, undef, undef, undef, undef, undef, undef, undef, undef, undef, undef, undef, undef, undef, undef, undef, undef, undef, undef, undef, undef, undef, undef, undef, undef, undef, undef, undef, undef, undef, undef, undef, undef, undef, undef, undef, undef, undef, undef, undef, undef, undef, undef, undef, undef, undef, undef, undef, undef, undef, undef, undef, undef, undef, undef, undef, undef, undef, undef, undef, undef, undef, undef, undef, undef, undef, undef, undef, undef, undef, undef, undef, undef, undef, undef, undef, undef, undef, undef, undef, undef, undef, undef, undef, undef, undef, undef, undef, undef, undef, undef, undef, undef, undef, undef, undef, undef, undef, undef, undef, undef, undef, undef, undef, undef, undef, undef, undef, undef, undef, undef, undef, undef, undef, undef, undef, undef, undef, undef, undef, undef, undef, undef, undef, undef, undef, undef, undef, undef, undef, undef, undef, undef, undef, undef, undef, undef, undef, undef, undef, undef, undef, undef, undef, undef, undef, undef, undef, undef, undef, undef, undef, undef, undef, undef, undef, undef, undef, undef, undef, undef, undef, undef, undef, undef], []⟩ w1 := by
  refine wp_mono (Q := Exit.then (fun a0 w0 => Code.wp Try.prog (sndC (restC 3 ((Try.f11.body).getD .skip))) (bodyPost Try.prog Try.f11 (RefEncPost x w)) a0 w0) (bodyPost Try.prog Try.f11 (RefEncPost x w))) ?_ (then_k hK)
  clear hK
  conv => arg 2; whnf
  conv => arg 3; arg 1; ext a w; arg 2; whnf
  refine then_open fun K2 hK2 => ?_
  have HX1 := Lib.hid HX
  unfold crtCells at HX1
  have HI1 := Lib.hid HI
  have HB1 := Lib.hid HB
  have HS := Lib.hid hl
  obtain ⟨l1, l2, l3, l5, l6, l7, l8, l9, l10, l11⟩ := hl.le
  have hlt1 := HX1.out.lt
  clear HX HI HB hl
  have q5 := HX1.out.cell 5
  have q6 := HX1.out.cell 6
  have q7 := HX1.out.cell 7
  have q8 := HX1.out.cell 8
  have q9 := HX1.out.cell 9
  have q10 := HX1.out.cell 10
  have q11 := HX1.out.cell 11
  simp only [List.getElem?_toArray, List.getElem?_cons_zero, List.getElem?_cons_succ] at q5 q6 q7 q8 q9 q10 q11
  have HV := Lib.hid hV
  clear hV
  by_cases h0 : (0 : Int) < x.b0.length
  · have h0' : 0 < x.b0.length := by omega
    go_upto_region 5 with fail
    exact refE5 V x w w1 (by unfold crtCells; exact HX1.out) HI1.out HB1.out HS.out _ _ _ _ (HV.out.trans (by congr 1 <;> first | rfl | (apply decide_eq_decide.2; omega) | simp [h0'])) _ _ _ _ _ _ _ _ _ _ _ _ _ _ _ _ _ _ _ _ _ _ _ _ _ _ _ _ _ _ _ _ _ _ _ _ _ _ _ _ _ _ _ _ _ _ _ _ _ _ _ _ _ _ _ _ _ (by assumption)
  have h0' : ¬ 0 < x.b0.length := by omega
  by_cases h1 : (0 : Int) < x.b1.length
  · have h1' : 0 < x.b1.length := by omega
    go_upto_region 5 with fail
    exact refE5 V x w w1 (by unfold crtCells; exact HX1.out) HI1.out HB1.out HS.out _ _ _ _ (HV.out.trans (by congr 1 <;> first | rfl | (apply decide_eq_decide.2; omega) | simp [h0', h1'])) _ _ _ _ _ _ _ _ _ _ _ _ _ _ _ _ _ _ _ _ _ _ _ _ _ _ _ _ _ _ _ _ _ _ _ _ _ _ _ _ _ _ _ _ _ _ _ _ _ _ _ _ _ _ _ _ _ (by assumption)
  have h1' : ¬ 0 < x.b1.length := by omega
  by_cases h2 : (0 : Int) < x.b2.length
  · have h2' : 0 < x.b2.length := by omega
    go_upto_region 5 with fail
    exact refE5 V x w w1 (by unfold crtCells; exact HX1.out) HI1.out HB1.out HS.out _ _ _ _ (HV.out.trans (by congr 1 <;> first | rfl | (apply decide_eq_decide.2; omega) | simp [h0', h1', h2'])) _ _ _ _ _ _ _ _ _ _ _ _ _ _ _ _ _ _ _ _ _ _ _ _ _ _ _ _ _ _ _ _ _ _ _ _ _ _ _ _ _ _ _ _ _ _ _ _ _ _ _ _ _ _ _ _ _ (by assumption)
  have h2' : ¬ 0 < x.b2.length := by omega
  by_cases h3 : (0 : Int) < x.b3.length
  · have h3' : 0 < x.b3.length := by omega
    go_upto_region 5 with fail
    exact refE5 V x w w1 (by unfold crtCells; exact HX1.out) HI1.out HB1.out HS.out _ _ _ _ (HV.out.trans (by congr 1 <;> first | rfl | (apply decide_eq_decide.2; omega) | simp [h0', h1', h2', h3'])) _ _ _ _ _ _ _ _ _ _ _ _ _ _ _ _ _ _ _ _ _ _ _ _ _ _ _ _ _ _ _ _ _ _ _ _ _ _ _ _ _ _ _ _ _ _ _ _ _ _ _ _ _ _ _ _ _ (by assumption)
  have h3' : ¬ 0 < x.b3.length := by omega
  go_upto_region 5 with fail
  exact refE5 V x w w1 (by unfold crtCells; exact HX1.out) HI1.out HB1.out HS.out _ _ _ _ (HV.out.trans (by congr 1 <;> first | rfl | (apply decide_eq_decide.2; omega) | simp [h0', h1', h2', h3'])) _ _ _ _ _ _ _ _ _ _ _ _ _ _ _ _ _ _ _ _ _ _ _ _ _ _ _ _ _ _ _ _ _ _ _ _ _ _ _ _ _ _ _ _ _ _ _ _ _ _ _ _ _ _ _ _ _ (by assumption)

set_option maxRecDepth 100000 in
set_option maxHeartbeats 4000000 in
theorem refEncode_any (V : CV) (x : Crt) (w : World) (h : CrtIs w w.heap.size V x) (hl : CrtSm x) : Calls Try.prog 11 #[crtVal V x] w (RefEncPost x w) := by
  have hb1 := (Below.refl w.heap.size w).alloc (Nat.le_refl _) (.cells (crtCells V x) 32)
  have HX1 := Lib.hid (Blk.new w 32 (crtCells V x))
  have HI1 := Lib.hid (h.below hb1)
  have HS := Lib.hid hl
  obtain ⟨l1, l2, l3, l5, l6, l7, l8, l9, l10, l11⟩ := hl.le
  unfold crtVal
  unfold crtCells at HX1 HI1 hb1 ⊢
  go_enter Try.func11, Try.ntmps11
  try simp only [List.append, List.append_eq, List.cons_append, List.nil_append]
  go_upto_region 1 with fail
  generalize hw1 : w.alloc (.cells #[.int .i64 x.k, .slice V.a1 x.ord.length V.c1, .slice V.a2 x.outs.length V.c2, .slice V.a3 x.turn.length V.c3, .int .i64 x.outer, .slice V.a5 x.pts.length V.c5, .slice V.a6 x.lines.length V.c6, .slice V.a7 x.b0.length V.c7, .slice V.a8 x.b1.length V.c8, .slice V.a9 x.b2.length V.c9, .slice V.a10 x.b3.length V.c10, .slice V.a11 x.edges.length V.c11] 32) = w1 at *
  clear hw1 h hl
  have q0 := HX1.out.cell 0
  have q1 := HX1.out.cell 1
  have q2 := HX1.out.cell 2
  have q3 := HX1.out.cell 3
  have q4 := HX1.out.cell 4
  have q5 := HX1.out.cell 5
  have q6 := HX1.out.cell 6
  have q7 := HX1.out.cell 7
  have q8 := HX1.out.cell 8
  have q9 := HX1.out.cell 9
  have q10 := HX1.out.cell 10
  have q11 := HX1.out.cell 11
  simp only [List.getElem?_toArray, List.getElem?_cons_zero, List.getElem?_cons_succ] at q0 q1 q2 q3 q4 q5 q6 q7 q8 q9 q10 q11
  have HV := Lib.hid (show refBad x = badB x.k (decide (0 < x.ord.length + x.outs.length)) (decide (0 < x.turn.length) || x.outer != 0) (decide (0 < x.pts.length + x.lines.length)) (decide (0 < x.b0.length) || decide (0 < x.b1.length) || decide (0 < x.b2.length) || decide (0 < x.b3.length)) (decide (0 < x.edges.length)) from rfl)
  have HB1 := Lib.hid hb1
  clear hb1
  clear q5 q6 q7 q8 q9 q10 q11
  by_cases h1 : (0 : Int) < x.turn.length
  · have h1' : 0 < x.turn.length := by omega
    go_upto_region 3 with fail
    exact refE3_ V x w w1 (by unfold crtCells; exact HX1.out) HI1.out HB1.out HS.out _ _ (HV.out.trans (by congr 1 <;> first | rfl | (apply decide_eq_decide.2; omega) | simp [h1'])) _ _ _ _ _ _ _ _ _ _ _ _ _ _ _ _ _ _ _ _ _ (by assumption)
  have h1' : ¬ 0 < x.turn.length := by omega
  go_upto_region 3 with fail
  exact refE3_ V x w w1 (by unfold crtCells; exact HX1.out) HI1.out HB1.out HS.out _ _ (HV.out.trans (by congr 1 <;> first | rfl | (apply decide_eq_decide.2; omega) | simp [h1'])) _ _ _ _ _ _ _ _ _ _ _ _ _ _ _ _ _ _ _ _ _ (by assumption)

end Go.Proofs.Ytmlbjcngboegfaa
