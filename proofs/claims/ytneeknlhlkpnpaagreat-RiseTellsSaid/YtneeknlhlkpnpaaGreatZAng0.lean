import Derived.Test.YtneeknlhlkpnpaaGreatZEul
import Derived.Test.YtneeknlhlkpnpaaGreatZVw
/-
 Angles of a rotation: kinds, faces; in each face as many are Low as are High (plain law). Written by an AI agent.
-/
namespace Go.Proofs.YtneeknlhlkpnpaaGreat
open Go.RowKit
theorem nodup_at {α : Type} {l : List α} (h : l.Nodup) {i j : Nat} (hi : i < l.length) (hj : j < l.length) (e : l[i] = l[j]) : i = j := by
 rcases Nat.lt_trichotomy i j with h1 | h1 | h1
 ·exact absurd e (List.pairwise_iff_getElem.1 h i j hi hj h1)
 ·exact h1
 ·exact absurd e.symm (List.pairwise_iff_getElem.1 h j i hj hi h1)
def kindF (a b : Nat) : Nat := if a % 2 = 0 ∧ b % 2 = 0 then 1 else if a % 2 = 1 ∧ b % 2 = 1 then 2 else 0
def faceU (F : List (List Int)) : Nat → Int → Nat
 | 0, _ => 0
 | k + 1, h => if (F.getD k []).contains h then k else faceU F k h
def angK (es : List (Int × Int)) (rs : List (List Int)) (h : Nat) : Nat := kindF h (sig es rs h)
def angF (n : Int) (es : List (Int × Int)) (rs : List (List Int)) (h : Nat) : Nat := faceU (facesOf n es rs) (facesOf n es rs).length ((ot h : Nat) : Int)
theorem faceU_spec {F : List (List Int)} {h : Int} : ∀ k, (∃ f, f < k ∧ h ∈ F.getD f []) → faceU F k h < k ∧ h ∈ F.getD (faceU F k h) []
 | 0, ⟨f, hf, _⟩ => absurd hf (Nat.not_lt_zero _)
 | k + 1, ⟨f, hf, hm⟩ => by
  unfold faceU
  by_cases hk : h ∈ F.getD k []
  ·rw [if_pos (by simpa using hk)]
   exact ⟨by omega, hk⟩
  ·rw [if_neg (by simpa using hk)]
   have : f ≠ k := fun e => hk (e ▸ hm)
   obtain ⟨h1, h2⟩ := faceU_spec k ⟨f, by omega, hm⟩
   exact ⟨by omega, h2⟩
theorem row_mem {N : Nat} {f : Nat → Nat} (hf : Perm N f) {h : Nat} (hh : h < N) (x : Nat) : (x : Int) ∈ rowOf f h ↔ Orb f h x := by
 unfold rowOf
 rw [List.mem_map, orb_per hf hh]
 constructor
 ·rintro ⟨i, hi, e⟩
  exact ⟨i, List.mem_range.1 hi, by omega⟩
 ·rintro ⟨i, hi, e⟩
  exact ⟨i, List.mem_range.2 hi, by rw [e]⟩
theorem rows_get (f : Nat → Nat) (N : Nat) {i : Nat} (hi : i < (rowsUpto f N).length) : ∃ h, h < N ∧ leastB f h = true ∧ (rowsUpto f N).getD i [] = rowOf f h ∧ ((List.range N).filter (leastB f))[i]? = some h := by
 unfold rowsUpto at hi ⊢
 rw [List.length_map] at hi
 have hm := List.getElem_mem hi
 rw [List.mem_filter, List.mem_range] at hm
 refine ⟨_, hm.1, hm.2, ?_, List.getElem?_eq_getElem hi⟩
 rw [List.getD_eq_getElem?_getD, List.getElem?_map, List.getElem?_eq_getElem hi]
 rfl
section
variable {n : Int} {es : List (Int × Int)} {rs : List (List Int)}
theorem face_has (hR : RightP n es rs) {h : Nat} (hh : h < 2 * es.length) : ∃ f, f < (facesOf n es rs).length ∧ (h : Int) ∈ (facesOf n es rs).getD f [] := by
 have hP := nxf_perm hR
 obtain ⟨m, hm, hmo, hml⟩ := least_of (P := fun k => Orb (nxf es rs) k h) (Orb.refl _ h)
 have hb : leastB (nxf es rs) m = true := by
  unfold leastB
  rw [tst_iff]
  intro j hj ho
  exact hml j hj (ho.trans hmo)
 rw [faces_rows hR]
 have hmem : rowOf (nxf es rs) m ∈ rowsUpto (nxf es rs) (2 * es.length) := List.mem_map.2 ⟨m, List.mem_filter.2 ⟨List.mem_range.2 (by omega), hb⟩, rfl⟩
 obtain ⟨f, hf, e⟩ := List.getElem_of_mem hmem
 refine ⟨f, hf, ?_⟩
 rw [List.getD_eq_getElem?_getD, List.getElem?_eq_getElem hf]
 show (h : Int) ∈ (rowsUpto (nxf es rs) (2 * es.length))[f]
 rw [e, row_mem hP (by omega)]
 exact hmo
theorem face_nat (hR : RightP n es rs) {f : Nat} {z : Int} (h : z ∈ (facesOf n es rs).getD f []) : ∃ k : Nat, z = k ∧ k < 2 * es.length := by
 have hP := nxf_perm hR
 rw [faces_rows hR] at h
 rcases Nat.lt_or_ge f (rowsUpto (nxf es rs) (2 * es.length)).length with hf | hf
 ·obtain ⟨a, ha, _, ea, _⟩ := rows_get _ _ hf
  rw [ea] at h
  unfold rowOf at h
  obtain ⟨i, _, rfl⟩ := List.mem_map.1 h
  exact ⟨_, rfl, hP.iter_lt i ha⟩
 ·rw [List.getD_eq_getElem?_getD, List.getElem?_eq_none hf] at h
  cases h
theorem angF_spec (hR : RightP n es rs) {h : Nat} (hh : h < 2 * es.length) : angF n es rs h < (facesOf n es rs).length ∧ ((ot h : Nat) : Int) ∈ (facesOf n es rs).getD (angF n es rs h) [] :=
 faceU_spec _ (face_has hR (ot_lt hh))
end
theorem perm_surj {N : Nat} {f : Nat → Nat} (hf : Perm N f) {x : Nat} (hx : x < N) : ∃ y, y < N ∧ f y = x := by
 obtain ⟨p, hp, _, e⟩ := hf.period hx
 refine ⟨iter f (p - 1) x, hf.iter_lt _ hx, ?_⟩
 rw [← iter_succ f, show p - 1 + 1 = p by omega]
 exact e
theorem perm_count {N : Nat} {f : Nat → Nat} (hf : Perm N f) (q : Nat → Bool) : (List.range N).countP (fun k => q (f k)) = (List.range N).countP q := by
 have hp : ((List.range N).map f).Perm (List.range N) := by
  rw [List.perm_ext_iff_of_nodup]
  ·intro a
   rw [List.mem_map, List.mem_range]
   constructor
   ·rintro ⟨k, hk, rfl⟩
    exact hf.lt k (List.mem_range.1 hk)
   ·intro ha
    obtain ⟨y, hy, e⟩ := perm_surj hf ha
    exact ⟨y, List.mem_range.2 hy, e⟩
  ·unfold List.Nodup
   rw [List.pairwise_map]
   refine List.Pairwise.imp_of_mem (fun {a b} ha hb hab e => ?_) List.pairwise_lt_range
   have := hf.inj a b (List.mem_range.1 ha) (List.mem_range.1 hb) e
   omega
  ·exact List.nodup_range
 have := hp.countP_eq q
 rw [List.countP_map] at this
 exact this
theorem count_congr {N : Nat} {p q : Nat → Bool} (h : ∀ k, k < N → p k = q k) : (List.range N).countP p = (List.range N).countP q :=
 List.countP_congr fun k hk => by rw [h k (List.mem_range.1 hk)]
theorem up_down {N : Nat} {f : Nat → Nat} (hf : Perm N f) {P q : Nat → Bool} (hP : ∀ k, k < N → P (f k) = P k) :
  (List.range N).countP (fun k => P k && (!q k && q (f k))) = (List.range N).countP (fun k => P k && (q k && !q (f k))) := by
 have h1 : (List.range N).countP (fun k => P k && q (f k)) = (List.range N).countP (fun k => P k && q k) := by
  rw [← perm_count hf (fun k => P k && q k)]
  exact count_congr fun k hk => by rw [hP k hk]
 have h2 := countP_split (List.range N) (fun k => P k && q (f k)) q
 have h3 := countP_split (List.range N) (fun k => P k && q k) (fun k => q (f k))
 have e1 : (List.range N).countP (fun k => P k && q (f k) && q k) = (List.range N).countP (fun k => P k && q k && q (f k)) := count_congr fun k _ => by cases P k <;> cases q k <;> cases q (f k) <;> rfl
 have e2 : (List.range N).countP (fun k => P k && (!q k && q (f k))) = (List.range N).countP (fun k => P k && q (f k) && !q k) := count_congr fun k _ => by cases P k <;> cases q k <;> cases q (f k) <;> rfl
 have e3 : (List.range N).countP (fun k => P k && (q k && !q (f k))) = (List.range N).countP (fun k => P k && q k && !q (f k)) := count_congr fun k _ => by cases P k <;> cases q k <;> cases q (f k) <;> rfl
 omega
def ev (k : Nat) : Bool := decide (k % 2 = 0)
section
variable {n : Int} {es : List (Int × Int)} {rs : List (List Int)}
end
end Go.Proofs.YtneeknlhlkpnpaaGreat
namespace Go.Proofs.YtneeknlhlkpnpaaGreat
open Go.RowKit
section
variable {n : Int} {es : List (Int × Int)} {rs : List (List Int)}
def hasOdd (es : List (Int × Int)) (x : Nat) : Prop := ∃ k, k < 2 * es.length ∧ vtx es k = x ∧ ev k = false
def hasEven (es : List (Int × Int)) (x : Nat) : Prop := ∃ k, k < 2 * es.length ∧ vtx es k = x ∧ ev k = true
def turnN (es : List (Int × Int)) (rs : List (List Int)) (x : Nat) : Nat := (List.range (2 * es.length)).countP fun k => decide (vtx es k = x) && (!ev k && ev (sig es rs k))
theorem vtx_closed (hR : RightP n es rs) (x : Nat) {k : Nat} (hk : k < 2 * es.length) : decide (vtx es (sig es rs k) = x) = decide (vtx es k = x) := by rw [(vtx_sig hR hk).2]
theorem turn_back (hR : RightP n es rs) (x : Nat) : (List.range (2 * es.length)).countP (fun k => decide (vtx es k = x) && (ev k && !ev (sig es rs k))) = turnN es rs x :=
 (up_down (sig_perm hR) (P := fun k => decide (vtx es k = x)) (q := ev) (fun _k hk => vtx_closed hR x hk)).symm
def plainN (es : List (Int × Int)) (rs : List (List Int)) (x : Nat) : Nat := (List.range (2 * es.length)).countP fun k => decide (vtx es k = x) && decide (angK es rs k = 0)
theorem kindF_plain (a b : Nat) : kindF a b = 0 ↔ ev a ≠ ev b := by
 unfold kindF ev
 have ha := Nat.mod_two_eq_zero_or_one a
 have hb := Nat.mod_two_eq_zero_or_one b
 rcases ha with ha | ha <;> rcases hb with hb | hb <;> simp [ha, hb]
theorem plain_two (hR : RightP n es rs) (x : Nat) : plainN es rs x = 2 * turnN es rs x := by
 have h1 := turn_back hR x
 have h2 := countP_split (List.range (2 * es.length)) (fun k => decide (vtx es k = x) && decide (angK es rs k = 0)) ev
 have e1 : (List.range (2 * es.length)).countP (fun k => decide (vtx es k = x) && decide (angK es rs k = 0) && ev k) = (List.range (2 * es.length)).countP (fun k => decide (vtx es k = x) && (ev k && !ev (sig es rs k))) := count_congr fun k _ => by
  unfold angK
  rw [Bool.eq_iff_iff]
  simp only [Bool.and_eq_true, decide_eq_true_eq, kindF_plain]
  cases ev k <;> cases ev (sig es rs k) <;> simp
 have e2 : (List.range (2 * es.length)).countP (fun k => decide (vtx es k = x) && decide (angK es rs k = 0) && !ev k) = turnN es rs x := count_congr fun k _ => by
  unfold angK
  rw [Bool.eq_iff_iff]
  simp only [Bool.and_eq_true, decide_eq_true_eq, kindF_plain]
  cases ev k <;> cases ev (sig es rs k) <;> simp
 unfold plainN
 omega
theorem turn_pos (hR : RightP n es rs) (x : Nat) : 0 < turnN es rs x ↔ hasOdd es x ∧ hasEven es x := by
 unfold turnN
 rw [List.countP_pos_iff]
 constructor
 ·rintro ⟨k, hk, h⟩
  rw [List.mem_range] at hk
  simp only [Bool.and_eq_true, decide_eq_true_eq, Bool.not_eq_true'] at h
  obtain ⟨h1, h2, h3⟩ := h
  obtain ⟨h4, h5⟩ := vtx_sig hR hk
  exact ⟨⟨k, hk, h1, h2⟩, ⟨_, h4, h5.trans h1, h3⟩⟩
 ·rintro ⟨⟨a, ha, hax, hao⟩, b, hb, hbx, hbe⟩
  apply Classical.byContradiction
  intro hno
  obtain ⟨i, hi⟩ := (orb_sig hR ha hb).2 (hax.trans hbx.symm)
  have key : ∀ i, vtx es (iter (sig es rs) i a) = x ∧ iter (sig es rs) i a < 2 * es.length ∧ ev (iter (sig es rs) i a) = false := fun i => by
   induction i with
   | zero => exact ⟨hax, ha, hao⟩
   | succ i ih =>
    rw [iter_succ]
    obtain ⟨h1, h2, h3⟩ := ih
    obtain ⟨h4, h5⟩ := vtx_sig hR h2
    refine ⟨h5.trans h1, h4, ?_⟩
    cases hh : ev (sig es rs (iter (sig es rs) i a)) with
    | false => rfl
    | true => exact absurd ⟨_, List.mem_range.2 h2, by simp [h1, h3, hh]⟩ hno
  have := (key i).2.2
  rw [hi, hbe] at this
  cases this
end
end Go.Proofs.YtneeknlhlkpnpaaGreat
namespace Go.Proofs.YtneeknlhlkpnpaaGreat
open Go.RowKit
theorem getD_setZ (l : List Int) (i j : Nat) (v : Int) (hi : i < l.length) : (l.set i v).getD j 0 = if j = i then v else l.getD j 0 := by
 by_cases h : j = i
 ·subst h
  rw [if_pos rfl, List.getD_eq_getElem?_getD, List.getElem?_set_self hi]
  rfl
 ·rw [if_neg h, List.getD_eq_getElem?_getD, List.getElem?_set_ne (fun e => h e.symm), List.getD_eq_getElem?_getD]
section
variable (V Fc : Nat → Nat) (n M : Nat) (rm : List Int)
end
section
variable {V Fc : Nat → Nat} {n M : Nat} {rm : List Int}
end
end Go.Proofs.YtneeknlhlkpnpaaGreat
namespace Go.Proofs.YtneeknlhlkpnpaaGreat
open Go.RowKit
structure SG (w wc : World) (n : Int) (A : Option Addr) (cap : Nat) (es : List (Int × Int)) (C : Option Addr) (rs : List (List Int)) : Prop where
 b : Blk wc w.heap.size 24 #[.int .i64 n, .slice A es.length cap]
 below : Below w.heap.size w wc
 es : Cells wc wc.heap.size A (edgeCells es)
 rs : RowsAt wc wc.heap.size C rs
 lt : w.heap.size < wc.heap.size
section
variable {w wc w' : World} {n : Int} {A : Option Addr} {cap : Nat} {es : List (Int × Int)} {C : Option Addr} {rs : List (List Int)}
theorem SG.next (h : SG w wc n A cap es C rs) (hb : Below wc.heap.size wc w') : SG w w' n A cap es C rs := by
 have hz := hb.size
 have h1 := h.lt
 exact ⟨h.b.below hb h1, h.below.trans (hb.mono (Nat.le_of_lt h1)), (h.es.below hb).more hz, (h.rs.below hb).more hz, by omega⟩
theorem SG.g0 (h : SG w wc n A cap es C rs) : wc.cell? ⟨w.heap.size, 0, none⟩ = some (.int .i64 n) := h.b.cell 0
theorem SG.g1 (h : SG w wc n A cap es C rs) : wc.cell? ⟨w.heap.size, 1, none⟩ = some (.slice A es.length cap) := h.b.cell 1
theorem SG.start (n : Int) (cap : Nat) (hes : Cells w w.heap.size A (edgeCells es)) (hrs : RowsAt w w.heap.size C rs) : SG w (w.alloc (.cells #[.int .i64 n, .slice A es.length cap] 24)) n A cap es C rs := by
 have hbw := (Below.refl w.heap.size w).alloc (Nat.le_refl _) (.cells #[.int .i64 n, .slice A es.length cap] 24)
 exact ⟨Blk.new w _ _, hbw, (hes.below hbw).more hbw.size, (hrs.below hbw).more hbw.size, by simp⟩
end
theorem kind_any (a b : Nat) (w : World) : Calls Tryz.prog 51 #[.int .i64 a, .int .i64 b] w fun e w' => e = .returned (.int .i64 (kindF a b : Nat)) ∧ w = w' := by
 have ha : Int.tmod (a : Int) 2 = ((a % 2 : Nat) : Int) := by rw [Int.tmod_eq_emod_of_nonneg (by omega)]; omega
 have hb : Int.tmod (b : Int) 2 = ((b % 2 : Nat) : Int) := by rw [Int.tmod_eq_emod_of_nonneg (by omega)]; omega
 have HK := Lib.hid (show kindF a b = if a % 2 = 0 ∧ b % 2 = 0 then 1 else if a % 2 = 1 ∧ b % 2 = 1 then 2 else 0 from rfl)
 rcases Nat.mod_two_eq_zero_or_one a with h1 | h1 <;> rcases Nat.mod_two_eq_zero_or_one b with h2 | h2
 all_goals
  rw [h1] at ha HK
  rw [h2] at hb HK
  clear h1 h2
  go_enter Tryz.func51, Tryz.ntmps51
  go_wp2_with fail
  go_ret
  exact ⟨ret_int (by rw [HK.out]; rfl), rfl⟩
noncomputable def askA (n : Int) (es : List (Int × Int)) (rs : List (List Int)) : Bool := rightB n es rs && (decide (gen n es rs = 0) && (ordB rs.length es && decide (cls (Q es es.length) rs.length = 1)))
set_option maxRecDepth 20000 in
set_option maxHeartbeats 2000000 in
theorem askA_any (n : Int) (A C : Option Addr) (cap ccap : Nat) (es : List (Int × Int)) (rs : List (List Int)) (w : World) (hes : Cells w w.heap.size A (edgeCells es)) (hrs : RowsAt w w.heap.size C rs) (hr1 : rs.length ≤ 1000) (hr2 : ∀ l ∈ rs, l.length ≤ 1000) :
  Calls Tryz.prog 49 #[.agg #[.int .i64 n, .slice A es.length cap], .slice C rs.length ccap] w (fun e w' => e = .returned (.bool (askA n es rs)) ∧ Below w.heap.size w w') := by
 have S1 := Lib.hid (SG.start n cap hes hrs)
 have HR2 := Lib.hid hr2
 clear hes hrs hr2
 go_enter Tryz.func49, Tryz.ntmps49
 go_upto_region 1 with fail
 generalize w.alloc (.cells #[.int .i64 n, .slice A es.length cap] 24) = w1 at *
 have g0 := S1.out.g0
 have g1 := S1.out.g1
 go_wp2_with fail
 refine (genus_any n A C cap ccap es rs w1 S1.out.es S1.out.rs hr1 HR2.out).mono ?_
 rintro e w2 ⟨hb2, hy, hno⟩
 have S2 := Lib.hid (S1.out.next hb2)
 have g0 := S2.out.g0
 have g1 := S2.out.g1
 clear hb2 S1
 obtain ⟨hi1, hi2, hi3⟩ := @vE_in n es
 have HI3 := Lib.hid hi3
 clear hi3
 cases hm : rightB n es rs with
 | false =>
  have he := hno hm
  subst he
  have HF := Lib.hid (show askA n es rs = false by unfold askA; rw [hm]; rfl)
  clear hm hy hno
  go_wp2_with fail
  refine (view_any n A cap es w2 S2.out.es).mono ?_
  rintro e w3 ⟨gv, rfl, hb3, hv3⟩
  have S3 := Lib.hid (S2.out.next hb3)
  have HV3 := Lib.hid hv3
  clear hb3 hv3 S2
  go_wp2_with fail
  refine (order_any gv (vN n es) (vE n es) w3 HV3.out HI3.out hi1 hi2).mono ?_
  rintro e w4 ⟨v, rfl, hb4, _⟩
  have S4 := Lib.hid (S3.out.next hb4)
  clear hb4 S3
  go_wp2_with fail
  go_ret
  exact ⟨ret_bool HF.out.symm, S4.out.below⟩
 | true =>
  have he := hy hm
  subst he
  have HP := Lib.hid (right_iff.1 hm)
  have HM := Lib.hid hm
  have hmay := right_may hm
  have HMAY := Lib.hid hmay
  obtain ⟨hn0, hn1, hn2⟩ := may_parts hmay
  have hln := HP.out.len
  obtain ⟨N, rfl⟩ : ∃ k : Nat, n = k := ⟨n.toNat, by omega⟩
  have hNr : rs.length = N := by omega
  have HA := Lib.hid (show askA N es rs = (decide (gen N es rs = 0) && (ordB N es && decide (cls (Q es es.length) N = 1))) by unfold askA; rw [hm, hNr]; rfl)
  have HVE := Lib.hid (show vN N es = N ∧ vE N es = es by unfold vN vE; rw [hmay]; exact ⟨rfl, rfl⟩)
  obtain ⟨q, hq⟩ : ∃ q, q = gen N es rs := ⟨_, rfl⟩
  rw [← hq] at HA
  rw [← hq]
  have hqb : q ≤ 1000000 := by
   have := gen_spec HP.out (right_inN HP.out)
   have hcl : cls (Q es es.length) rs.length ≤ rs.length := Nat.le_trans List.countP_le_length (by simp)
   omega
  clear hy hno hm hmay hq
  go_wp2_with fail
  refine (view_any N A cap es w2 S2.out.es).mono ?_
  rintro e w3 ⟨gv, rfl, hb3, hv3⟩
  have S3 := Lib.hid (S2.out.next hb3)
  have HV3 := Lib.hid hv3
  clear hb3 hv3 S2
  go_wp2_with fail
  refine (order_any gv (vN N es) (vE N es) w3 HV3.out HI3.out hi1 hi2).mono ?_
  rintro e w4 ⟨v, rfl, hb4, _⟩
  have S4 := Lib.hid (S3.out.next hb4)
  have g0 := S4.out.g0
  have g1 := S4.out.g1
  rw [HVE.out.1, HVE.out.2]
  clear hb4 S3
  by_cases hq0 : q = 0
  ·subst hq0
   cases ho : ordB N es with
   | false =>
    have HF := Lib.hid (show askA N es rs = false by rw [HA.out, ho]; rfl)
    clear ho
    go_wp2_with fail
    go_ret
    exact ⟨ret_bool HF.out.symm, S4.out.below⟩
   | true =>
    have HF := Lib.hid (show askA N es rs = decide (cls (Q es es.length) N = 1) by rw [HA.out, ho]; rfl)
    clear ho
    go_wp2_with fail
    refine (parts0_is N A cap es w4 S4.out.es HMAY.out).mono ?_
    rintro e w5 ⟨A5, c5, rfl, hb5⟩
    have S5 := Lib.hid (S4.out.next hb5)
    have hcl : cls (Q es es.length) N ≤ N := Nat.le_trans List.countP_le_length (by simp)
    clear hb5 S4
    generalize cls (Q es es.length) N = c at *
    by_cases hc : c = 1
    ·subst hc
     go_wp2_with fail
     go_ret
     exact ⟨ret_bool HF.out.symm, S5.out.below⟩
    ·have hc' : ((c : Int) == 1) = false := by rw [beq_eq_false_iff_ne]; omega
     have HF2 := Lib.hid (show askA N es rs = false by rw [HF.out, decide_eq_false hc])
     clear hc
     go_wp2_with fail
     go_ret
     exact ⟨ret_bool HF2.out.symm, S5.out.below⟩
  ·have hq' : ((q : Int) == 0) = false := by rw [beq_eq_false_iff_ne]; omega
   have HF := Lib.hid (show askA N es rs = false by rw [HA.out, decide_eq_false hq0]; rfl)
   clear hq0
   go_wp2_with fail
   go_ret
   exact ⟨ret_bool HF.out.symm, S4.out.below⟩
end Go.Proofs.YtneeknlhlkpnpaaGreat
namespace Go.Proofs.YtneeknlhlkpnpaaGreat
open Go.RowKit
def kL (l : List Int) (j : Nat) : Nat := kindF (l.getD j 0).toNat (l.getD ((j + 1) % l.length) 0).toNat
def plU (l : List Int) (i : Nat) : Nat := (List.range i).countP fun j => decide (kL l j = 0)
def bimB (rs : List (List Int)) : Bool := rs.all fun l => decide (plU l l.length ≤ 2)
theorem plU_succ (l : List Int) (i : Nat) : plU l (i + 1) = plU l i + if kL l i = 0 then 1 else 0 := by
 unfold plU
 rw [List.range_succ, List.countP_append]
 simp
theorem plU_le (l : List Int) (i : Nat) : plU l i ≤ i := Nat.le_trans List.countP_le_length (by simp)
theorem ask_right {n : Int} {es : List (Int × Int)} {rs : List (List Int)} (h : askA n es rs = true) : RightP n es rs := by
 unfold askA at h
 exact right_iff.1 (Bool.and_eq_true _ _ ▸ h).1
set_option maxRecDepth 20000 in
set_option maxHeartbeats 2000000 in
theorem bimo_any (n : Int) (A C : Option Addr) (cap ccap : Nat) (es : List (Int × Int)) (rs : List (List Int)) (w : World) (hes : Cells w w.heap.size A (edgeCells es)) (hrs : RowsAt w w.heap.size C rs) (hr1 : rs.length ≤ 1000) (hr2 : ∀ l ∈ rs, l.length ≤ 1000) :
  Calls Tryz.prog 71 #[.agg #[.int .i64 n, .slice A es.length cap], .slice C rs.length ccap] w (fun e w' => e = .returned (.bool (askA n es rs && bimB rs)) ∧ Below w.heap.size w w') := by
 have S1 := Lib.hid (SG.start n cap hes hrs)
 have HR2 := Lib.hid hr2
 clear hes hrs hr2
 go_enter Tryz.func71, Tryz.ntmps71
 go_upto_region 1 with fail
 generalize w.alloc (.cells #[.int .i64 n, .slice A es.length cap] 24) = w1 at *
 have g0 := S1.out.g0
 have g1 := S1.out.g1
 go_wp2_with fail
 refine (askA_any n A C cap ccap es rs w1 S1.out.es S1.out.rs hr1 HR2.out).mono ?_
 rintro e w2 ⟨rfl, hb2⟩
 have S2 := Lib.hid (S1.out.next hb2)
 clear hb2 S1 g0 g1
 cases ha : askA n es rs with
 | false =>
  have HA := Lib.hid ha
  clear ha
  go_wp2_with fail
  go_ret
  exact ⟨ret_bool (by rw [HA.out]; rfl), S2.out.below⟩
 | true =>
  have HP := Lib.hid (ask_right ha)
  have HA := Lib.hid ha
  clear ha
  go_wp2_with fail
  go_loopg [16] rs.length (fun k s16 wr => ∃ i : Nat, s16 = .int .i64 i ∧ i ≤ rs.length ∧ k = rs.length - i ∧ w2 = wr ∧ ∀ j (h : j < rs.length), j < i → plU rs[j] rs[j].length ≤ 2)
  case atStart => exact ⟨0, rfl, Nat.zero_le _, rfl, rfl, fun j _ h => absurd h (Nat.not_lt_zero _)⟩
  case round =>
   obtain ⟨i, rfl, hi, hk, rfl, hd⟩ := hrel
   have Hk := Lib.hid hk
   have HD := Lib.hid hd
   clear hk hd
   by_cases hil : i < rs.length
   ·have hil' : (i : Int) < rs.length := by omega
    obtain ⟨b, off, rfl, hbb, hcc⟩ := S2.out.rs (by omega)
    obtain ⟨Ai, ci, zi, hCi⟩ := hcc i hil
    have HCI := Lib.hid hCi
    have HAT := Lib.hid (fun t (ht : t < rs[i].length) => HP.out.nat hil ht)
    have HN := Lib.hid (fun (h : plU rs[i] rs[i].length ≤ 2) (j : Nat) (hj : j < rs.length) (hji : j < i + 1) => (by
     by_cases e : j = i
     ·subst e; exact h
     ·exact HD.out j hj (by omega) : plU rs[j] rs[j].length ≤ 2))
    have HF := Lib.hid (fun (h : ¬ plU rs[i] rs[i].length ≤ 2) => (by
     unfold bimB
     rw [List.all_eq_false]
     exact ⟨rs[i], List.getElem_mem hil, by simpa using h⟩ : bimB rs = false))
    have hll : rs[i].length ≤ 1000 := HR2.out _ (List.getElem_mem hil)
    generalize rs[i] = l at *
    clear hcc hCi
    go_wp2_with fail
    clear zi
    go_loopg [7, 22] l.length (fun k s7 s22 wr => ∃ j : Nat, s22 = .int .i64 j ∧ s7 = .int .i64 (plU l j : Nat) ∧ j ≤ l.length ∧ k = l.length - j ∧ w2 = wr)
    case atStart => exact ⟨0, rfl, rfl, Nat.zero_le _, rfl, rfl⟩
    case round =>
     obtain ⟨j, rfl, rfl, hj, hk2, rfl⟩ := hrel
     have Hk2 := Lib.hid hk2
     clear hk2
     have hpl := plU_le l j
     by_cases hjl : j < l.length
     ·have hjl' : (j : Int) < l.length := by omega
      obtain ⟨bi, oi, rfl, _, hci⟩ := HCI.out.ints (by omega)
      have hml : (j + 1) % l.length < l.length := Nat.mod_lt _ (by omega)
      obtain ⟨x, hx, _⟩ := HAT.out j hjl
      obtain ⟨y, hy, _⟩ := HAT.out ((j + 1) % l.length) hml
      have cx := hci j hjl
      have cy := hci ((j + 1) % l.length) hml
      rw [hx] at cx
      rw [hy] at cy
      have hmod : Int.tmod ((j : Int) + 1) (l.length : Int) = (((j + 1) % l.length : Nat) : Int) := by
       rw [Int.tmod_eq_emod_of_nonneg (by omega)]; simp
      have hml' : ((((j + 1) % l.length : Nat)) : Int) < l.length := by omega
      have HK := Lib.hid (show plU l (j + 1) = plU l j + if kindF x y = 0 then 1 else 0 by
       rw [plU_succ]
       unfold kL
       rw [List.getD_eq_getElem?_getD, List.getElem?_eq_getElem hjl, List.getD_eq_getElem?_getD, List.getElem?_eq_getElem hml]
       simp [hx, hy])
      have hkd := kind_any x y w2
      have hlne : ¬ (l.length : Int) = 0 := by omega
      generalize (j + 1) % l.length = m at *
      obtain ⟨kd, hkd2⟩ : ∃ kd, kd = kindF x y := ⟨_, rfl⟩
      rw [← hkd2] at hkd HK
      generalize plU l j = u at *
      have hkb : kd ≤ 2 := by rw [hkd2]; unfold kindF; split <;> (try split) <;> omega
      clear hci hx hy hkd2
      go_wp2_with fail
      refine hkd.mono ?_
      rintro e w3 ⟨rfl, rfl⟩
      clear hkd cx cy
      by_cases hk0 : kd = 0
      ·subst hk0
       go_wp2_with fail
       go_roundg (l.length - (j + 1))
       case measure => rw [Hk2.out]; omega
       case rel => exact ⟨j + 1, by go_num, by rw [HK.out]; go_num, by omega, rfl, rfl⟩
      ·have hk0' : ((kd : Int) == 0) = false := by rw [beq_eq_false_iff_ne]; omega
       have HK3 := Lib.hid (show plU l (j + 1) = u by rw [HK.out, if_neg hk0]; rfl)
       clear hk0
       go_wp2_with fail
       go_roundg (l.length - (j + 1))
       case measure => rw [Hk2.out]; omega
       case rel => exact ⟨j + 1, by go_num, by rw [HK3.out], by omega, rfl, rfl⟩
     ·have hje : j = l.length := by omega
      have hjl' : ¬ (j : Int) < l.length := by omega
      have HPE := Lib.hid (show plU l j = plU l l.length by rw [hje])
      generalize plU l j = u at *
      clear hje
      by_cases hu : u ≤ 2
      ·have hu' : ¬ (2 : Int) < u := by omega
       have HN2 := Lib.hid (HN.out (by rw [← HPE.out]; exact hu))
       go_wp2_with fail
       go_roundg (rs.length - (i + 1))
       case measure => rw [Hk.out]; omega
       case rel => exact ⟨i + 1, by go_num, by omega, rfl, rfl, HN2.out⟩
      ·have hu' : (2 : Int) < u := by omega
       have HF2 := Lib.hid (HF.out (by rw [← HPE.out]; exact hu))
       go_wp2_with fail
       go_ret
       exact ⟨ret_bool (by rw [HF2.out, HA.out]; rfl), S2.out.below⟩
   ·have hil' : ¬ (i : Int) < rs.length := by omega
    have HT := Lib.hid (show bimB rs = true by
     unfold bimB
     rw [List.all_eq_true]
     intro l hl
     obtain ⟨j, hj, rfl⟩ := List.getElem_of_mem hl
     simpa using HD.out j hj (by omega))
    go_wp2_with fail
    go_ret
    exact ⟨ret_bool (by rw [HT.out, HA.out]; rfl), S2.out.below⟩
end Go.Proofs.YtneeknlhlkpnpaaGreat
