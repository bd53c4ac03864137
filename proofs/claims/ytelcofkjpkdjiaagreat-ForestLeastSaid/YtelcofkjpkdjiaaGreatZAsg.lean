import Derived.Test.YtelcofkjpkdjiaaGreatZFits
import Derived.Test.YtelcofkjpkdjiaaGreatZVw
import Derived.Test.YtelcofkjpkdjiaaGreatZEul
import Derived.Test.YtelcofkjpkdjiaaGreatZRfs
/-
  Sources and sinks: the program's and the reference's. Written by an AI agent.
-/
namespace Go.Proofs.YtelcofkjpkdjiaaGreat
open Go.RowKit

/-- the empty rows of the first i -/
def bareT (ls : List (List Int)) (i : Nat) : List Nat := (List.range i).filter fun x => decide ((ls.getD x []).length = 0)
def bareI (ls : List (List Int)) (i : Nat) : List Int := (bareT ls i).map fun z : Nat => (z : Int)
theorem bareI_succ (ls : List (List Int)) (i : Nat) : bareI ls (i + 1) = bareI ls i ++ if (ls.getD i []).length = 0 then [(i : Int)] else [] := by
  unfold bareI bareT
  rw [List.range_succ, List.filter_append, List.map_append]
  congr 1
  by_cases h : (ls.getD i []).length = 0
  · rw [if_pos h, List.filter_cons, decide_eq_true h]; rfl
  · rw [if_neg h, List.filter_cons, decide_eq_false h]; rfl
theorem bareI_le (ls : List (List Int)) (i : Nat) : (bareI ls i).length ≤ i := by
  unfold bareI bareT
  rw [List.length_map]
  exact Nat.le_trans (List.length_filter_le _ _) (by simp)
/-- a fresh list of numbers -/
def ListPost (l : List Int) (w : World) (e : Ending) (w' : World) : Prop := ∃ v, e = .returned v ∧ Below w.heap.size w w' ∧ w'.ownsRow w.heap.size 3 1 v l.length (intCells l)
set_option maxRecDepth 20000 in
set_option maxHeartbeats 4000000 in
theorem bare_any (C : Option Addr) (cap : Nat) (ls : List (List Int)) (w : World) (hrs : RowsAt w w.heap.size C ls) (hl : ls.length ≤ 1000) (hl2 : ∀ l ∈ ls, l.length ≤ 10000) :
    Calls Tryz.prog 73 #[.slice C ls.length cap] w (ListPost (bareI ls ls.length) w) := by
  have HR := Lib.hid hrs
  have HL := Lib.hid hl2
  clear hrs hl2
  go_enter Tryz.func73, Tryz.ntmps73
  go_wp2_with fail
  go_loopg [2, 7] ls.length (fun k s2 s7 wr => ∃ i : Nat, s7 = .int .i64 i ∧ i ≤ ls.length ∧ k = ls.length - i ∧ Below w.heap.size w wr ∧ wr.ownsRow w.heap.size 3 1 s2 (bareI ls i).length (intCells (bareI ls i)))
  case atStart => exact ⟨0, rfl, Nat.zero_le _, rfl, Below.refl _ _, rfl, .inl ⟨rfl, rfl⟩⟩
  case round =>
    obtain ⟨i, rfl, hi, hk, hb, hown⟩ := hrel
    have Hk := Lib.hid hk
    have HB := Lib.hid hb
    have HOW := Lib.hid hown
    obtain ⟨A2, c2, rfl⟩ := own_slice hown
    clear hk hb hown
    by_cases hil : i < ls.length
    · have hil' : (i : Int) < ls.length := by omega
      obtain ⟨b, off, rfl, hbb, hcc⟩ := (HR.out.below HB.out) (by omega)
      obtain ⟨Ai, ci, zi, _⟩ := hcc i hil
      have HS := Lib.hid (bareI_succ ls i)
      have hge : ls.getD i [] = ls[i] := by rw [List.getD_eq_getElem?_getD, List.getElem?_eq_getElem hil]; rfl
      have hll := HL.out _ (List.getElem_mem hil)
      rw [hge] at HS
      obtain ⟨m, hm⟩ : ∃ m, m = ls[i].length := ⟨_, rfl⟩
      rw [← hm] at zi HS hll
      have hle := bareI_le ls i
      clear hcc hm hge
      by_cases hm0 : m = 0
      · subst hm0
        have HS2 := Lib.hid (show bareI ls (i + 1) = bareI ls i ++ [(i : Int)] by rw [HS.out, if_pos rfl])
        have hzw := HB.out.size
        go_wp2_with (at_builtin; refine wp_app elemInt rfl _ _ rfl w.heap.size (.slice A2 (bareI ls i).length c2) _ _ rfl wr.heap.size [.int .i64 (i : Int)] rfl rfl HOW.out rfl rfl ?x2 ?x3 ?x4 ?_)
        case x2 => omega
        case x3 => omega
        try (case x4 => omega)
        intro v10 w10 ho10 hg10 hb10
        have HBX := Lib.hid (below_app HB.out HOW.out hg10 hzw (Nat.le_refl _))
        have HOX := Lib.hid (show w10.ownsRow w.heap.size 3 1 v10 (bareI ls (i + 1)).length (intCells (bareI ls (i + 1))) by
          rw [HS2.out]
          simpa [intCells] using ho10)
        clear ho10 hg10 hb10
        go_wp2_with fail
        go_roundg (ls.length - (i + 1))
        case measure => rw [Hk.out]; omega
        case rel => exact ⟨i + 1, by go_num, by omega, rfl, HBX.out, HOX.out⟩
      · have hm0' : ((m : Int) == 0) = false := by rw [beq_eq_false_iff_ne]; omega
        have HS2 := Lib.hid (show bareI ls (i + 1) = bareI ls i by rw [HS.out, if_neg hm0, List.append_nil])
        have HOX := Lib.hid (show wr.ownsRow w.heap.size 3 1 (.slice A2 (bareI ls i).length c2) (bareI ls (i + 1)).length (intCells (bareI ls (i + 1))) by rw [HS2.out]; exact HOW.out)
        clear hm0
        go_wp2_with fail
        go_roundg (ls.length - (i + 1))
        case measure => rw [Hk.out]; omega
        case rel => exact ⟨i + 1, by go_num, by omega, rfl, HB.out, HOX.out⟩
    · have hie : i = ls.length := by omega
      have hil' : ¬ (i : Int) < ls.length := by omega
      have HOX := Lib.hid (show wr.ownsRow w.heap.size 3 1 (.slice A2 (bareI ls i).length c2) (bareI ls ls.length).length (intCells (bareI ls ls.length)) by rw [← hie]; exact HOW.out)
      clear hie
      go_wp2_with fail
      go_ret
      exact ⟨_, rfl, HB.out, HOX.out⟩
def rowsF (n : Nat) (es : List (Int × Int)) (f : Int × Int → Int) : List (List Int) := (List.range n).map fun x : Nat => endsF es f x es.length
theorem rowsF_length (n : Nat) (es : List (Int × Int)) (f : Int × Int → Int) : (rowsF n es f).length = n := by simp [rowsF]
theorem rows_of {w : World} {base g n : Nat} {t : TypeId} {vs : List Value} {ls : List (List Int)} (hb : Blk w g t vs.toArray) (hv : vs.length = n) (hl : ls.length = n) (ho : ∀ k (h : k < vs.length) (h' : k < ls.length), w.ownsRow base 3 1 vs[k] ls[k].length (intCells ls[k])) : RowsAt w w.heap.size (some ⟨g, 0, none⟩) ls := fun _ => by
  refine ⟨g, 0, rfl, hb.lt, fun i hi => ?_⟩
  have h1 := ho i (by omega) hi
  obtain ⟨Ai, ci, e⟩ := own_slice h1
  rw [e] at h1
  refine ⟨Ai, ci, ?_, Cells.of_own h1⟩
  rw [Nat.zero_add, hb.cell i]
  simp [List.getElem?_eq_getElem (show i < vs.length by omega), e]
/-- a view's two tables of rows -/
theorem ViewAt.tabs {w : World} {gv n : Nat} {es : List (Int × Int)} (h : ViewAt w gv n es) : ∃ (A : Option Addr) (c go gi : Nat), Blk w gv 119 #[.int .i64 n, .slice A es.length c, .slice (some ⟨go, 0, none⟩) n n, .slice (some ⟨gi, 0, none⟩) n n] ∧
    RowsAt w w.heap.size (some ⟨go, 0, none⟩) (rowsF n es Prod.fst) ∧ RowsAt w w.heap.size (some ⟨gi, 0, none⟩) (rowsF n es Prod.snd) := by
  obtain ⟨A, c, go, gi, os, is, h1, h2, h3, h4, h5, h6, h7⟩ := h
  refine ⟨A, c, go, gi, h1, rows_of (base := 0) h5 h3 (rowsF_length _ _ _) fun k hk hk' => ?_, rows_of (base := 0) h6 h4 (rowsF_length _ _ _) fun k hk hk' => ?_⟩
  · have := h7.own k (by rw [List.length_append]; omega) (by rw [lsV_length]; omega)
    rw [List.getElem_append_left hk, lsV_at_fst (by omega)] at this
    simpa [rowsF] using this
  · have := h7.own (n + k) (by rw [List.length_append]; omega) (by rw [lsV_length]; omega)
    rw [lsV_at_snd (by omega), List.getElem_append_right (by omega)] at this
    simpa [rowsF, h3] using this
/-- the vertices that no edge's end of this side touches -/
def bareV (n : Nat) (es : List (Int × Int)) (f : Int × Int → Int) : List Nat := bareT (rowsF n es f) n
theorem mem_bareV {n : Nat} {es : List (Int × Int)} {f : Int × Int → Int} {x : Nat} : x ∈ bareV n es f ↔ x < n ∧ ∀ i, i < es.length → f (es.getD i (0, 0)) ≠ (x : Int) := by
  unfold bareV bareT
  rw [List.mem_filter, List.mem_range]
  constructor
  · rintro ⟨hx, h⟩
    refine ⟨hx, fun i hi e => ?_⟩
    unfold rowsF at h
    rw [List.getD_eq_getElem?_getD, List.getElem?_map, List.getElem?_range hx] at h
    simp only [Option.map_some, Option.getD_some, decide_eq_true_eq, List.length_eq_zero_iff] at h
    have : (i : Int) ∈ endsF es f x es.length := mem_endsF.2 ⟨i, rfl, hi, e⟩
    rw [h] at this
    cases this
  · rintro ⟨hx, h⟩
    refine ⟨hx, ?_⟩
    unfold rowsF
    rw [List.getD_eq_getElem?_getD, List.getElem?_map, List.getElem?_range hx]
    simp only [Option.map_some, Option.getD_some, decide_eq_true_eq, List.length_eq_zero_iff]
    apply List.eq_nil_iff_forall_not_mem.2
    intro a ha
    obtain ⟨i, _, hi, e⟩ := mem_endsF.1 ha
    exact h i hi e
def bareVI (n : Nat) (es : List (Int × Int)) (f : Int × Int → Int) : List Int := (bareV n es f).map fun z : Nat => (z : Int)
theorem rowsF_le {n : Nat} {es : List (Int × Int)} {f : Int × Int → Int} (hl : es.length ≤ 1000) : ∀ l ∈ rowsF n es f, l.length ≤ 10000 := by
  intro l hl2
  obtain ⟨x, _, rfl⟩ := List.mem_map.1 hl2
  have := endsF_length es f x es.length
  omega
set_option maxRecDepth 20000 in
theorem sources_any (gv n : Nat) (es : List (Int × Int)) (w : World) (hv : ViewAt w gv n es) (hn : n ≤ 1000) (hl : es.length ≤ 1000) :
    Calls Tryz.prog 32 #[.pointer (some ⟨gv, 0, none⟩)] w (ListPost (bareVI n es Prod.snd) w) := by
  obtain ⟨A, c, go, gi, h1, h2, h3⟩ := hv.tabs
  have hb := bare_any (some ⟨gi, 0, none⟩) n (rowsF n es Prod.snd) w h3 (by rw [rowsF_length]; exact hn) (rowsF_le hl)
  rw [rowsF_length] at hb
  have H3 := Lib.hid h3
  have c3 := h1.cell 3
  simp only [List.getElem?_toArray, List.getElem?_cons_zero, List.getElem?_cons_succ] at c3
  clear h1 h2 h3 hv
  go_enter Tryz.func32, Tryz.ntmps32
  go_wp2_with fail
  refine hb.mono ?_
  rintro e w2 ⟨v, rfl, hb2, ho2⟩
  have HB2 := Lib.hid hb2
  have HO2 := Lib.hid ho2
  clear hb hb2 ho2
  go_wp2_with fail
  go_ret
  exact ⟨v, rfl, HB2.out, HO2.out⟩
set_option maxRecDepth 20000 in
theorem sinks_any (gv n : Nat) (es : List (Int × Int)) (w : World) (hv : ViewAt w gv n es) (hn : n ≤ 1000) (hl : es.length ≤ 1000) :
    Calls Tryz.prog 46 #[.pointer (some ⟨gv, 0, none⟩)] w (ListPost (bareVI n es Prod.fst) w) := by
  obtain ⟨A, c, go, gi, h1, h2, h3⟩ := hv.tabs
  have hb := bare_any (some ⟨go, 0, none⟩) n (rowsF n es Prod.fst) w h2 (by rw [rowsF_length]; exact hn) (rowsF_le hl)
  rw [rowsF_length] at hb
  have c2 := h1.cell 2
  simp only [List.getElem?_toArray, List.getElem?_cons_zero, List.getElem?_cons_succ] at c2
  clear h1 h2 h3 hv
  go_enter Tryz.func46, Tryz.ntmps46
  go_wp2_with fail
  refine hb.mono ?_
  rintro e w2 ⟨v, rfl, hb2, ho2⟩
  have HB2 := Lib.hid hb2
  have HO2 := Lib.hid ho2
  clear hb hb2 ho2
  go_wp2_with fail
  go_ret
  exact ⟨v, rfl, HB2.out, HO2.out⟩
end Go.Proofs.YtelcofkjpkdjiaaGreat
/-
  angle.Assign: what it computes. Written by an AI agent.
-/
namespace Go.Proofs.YtelcofkjpkdjiaaGreat
open Go.RowKit

/-- sources, then sinks -/
def endsL (n : Nat) (es : List (Int × Int)) : List Nat := bareV n es Prod.snd ++ bareV n es Prod.fst
def endsI (n : Nat) (es : List (Int × Int)) : List Int := (endsL n es).map fun z : Nat => (z : Int)
theorem endsI_eq (n : Nat) (es : List (Int × Int)) : [bareVI n es Prod.snd, bareVI n es Prod.fst].flatten = endsI n es := by
  simp [endsI, endsL, bareVI]
theorem endsI_length (n : Nat) (es : List (Int × Int)) : (endsI n es).length = (endsL n es).length := by simp [endsI]
theorem endsL_lt {n : Nat} {es : List (Int × Int)} {x : Nat} (h : x ∈ endsL n es) : x < n := by
  unfold endsL at h
  rw [List.mem_append, mem_bareV, mem_bareV] at h
  rcases h with h | h <;> exact h.1
theorem bareV_le (n : Nat) (es : List (Int × Int)) (f : Int × Int → Int) : (bareV n es f).length ≤ n := by
  have := bareI_le (rowsF n es f) n
  simpa [bareI, bareV] using this
theorem endsL_le (n : Nat) (es : List (Int × Int)) : (endsL n es).length ≤ 2 * n := by
  unfold endsL
  rw [List.length_append]
  have := bareV_le n es Prod.snd
  have := bareV_le n es Prod.fst
  omega
/-- the first place that serves -/
def firstF (f : Nat → Option (List Int)) (F : Nat) : Option (Nat × List Int) := (List.range F).findSome? fun i => (f i).map fun G => (i, G)
theorem firstF_at {f : Nat → Option (List Int)} : ∀ {F i : Nat} {G : List Int}, i < F → f i = some G → (∀ j, j < i → f j = none) → firstF f F = some (i, G) := by
  intro F i G hi hG hn
  obtain ⟨d, rfl⟩ : ∃ d, F = i + (1 + d) := ⟨F - i - 1, by omega⟩
  unfold firstF
  rw [List.range_add, List.findSome?_append, List.findSome?_eq_none_iff.2 (fun j hj => by rw [hn j (List.mem_range.1 hj)]; rfl), List.range_add, List.map_append, List.findSome?_append]
  simp [hG]
theorem firstF_none {f : Nat → Option (List Int)} {F : Nat} (h : ∀ j, j < F → f j = none) : firstF f F = none := by
  unfold firstF
  rw [List.findSome?_eq_none_iff]
  intro j hj
  rw [h j (List.mem_range.1 hj)]
  rfl
noncomputable def fitE (n : Int) (es : List (Int × Int)) (rs : List (List Int)) (f0 : Nat) : Option (List Int) := fitR (vtx es) (angF n es rs) (angK es rs) rs.length (2 * es.length) (facesOf n es rs).length f0 (endsL rs.length es)
noncomputable def assignR (n : Int) (es : List (Int × Int)) (rs : List (List Int)) : Option (Nat × List Int) :=
  if (askA n es rs && bimB rs) = true then (if es.length = 0 then some (0, List.replicate rs.length (-1)) else firstF (fitE n es rs) (facesOf n es rs).length) else none
def AssPost (r : Option (Nat × List Int)) (n : Nat) (w : World) (e : Ending) (w' : World) : Prop :=
  Below w.heap.size w w' ∧ match r with
    | none => e = .returned (.tuple #[.int .i64 0, .slice none 0 0, .bool false])
    | some (f, G) => ∃ g, e = .returned (.tuple #[.int .i64 f, .slice (some ⟨g, 0, none⟩) n n, .bool true]) ∧ Blk w' g 3 (intCells G).toArray ∧ w.heap.size ≤ g
theorem ask_pos {n : Int} {es : List (Int × Int)} {rs : List (List Int)} (h : askA n es rs = true) : 0 < rs.length := by
  unfold askA at h
  simp only [Bool.and_eq_true, decide_eq_true_eq] at h
  obtain ⟨_, _, _, h⟩ := h
  rcases Nat.eq_zero_or_pos rs.length with e | e
  · rw [e] at h
    have : cls (Q es es.length) 0 = 0 := by simp [cls]
    omega
  · exact e
set_option maxRecDepth 20000 in
set_option maxHeartbeats 4000000 in
theorem assign_any (n : Int) (A C : Option Addr) (cap ccap : Nat) (es : List (Int × Int)) (rs : List (List Int)) (w : World) (hes : Cells w w.heap.size A (edgeCells es)) (hrs : RowsAt w w.heap.size C rs) (hr1 : rs.length ≤ 1000) (hr2 : ∀ l ∈ rs, l.length ≤ 1000) :
    Calls Tryz.prog 13 #[.agg #[.int .i64 n, .slice A es.length cap], .slice C rs.length ccap] w (AssPost (assignR n es rs) rs.length w) := by
  have S1 := Lib.hid (SG.start n cap hes hrs)
  have HR2 := Lib.hid hr2
  clear hes hrs hr2
  go_enter Tryz.func13, Tryz.ntmps13
  go_upto_region 1 with fail
  generalize w.alloc (.cells #[.int .i64 n, .slice A es.length cap] 24) = w1 at *
  have g0 := S1.out.g0
  have g1 := S1.out.g1
  go_wp2_with fail
  refine (bimo_any n A C cap ccap es rs w1 S1.out.es S1.out.rs hr1 HR2.out).mono ?_
  rintro e w2 ⟨rfl, hb2⟩
  have S2 := Lib.hid (S1.out.next hb2)
  clear hb2 S1 g0 g1
  cases ha : (askA n es rs && bimB rs) with
  | false =>
    have HA := Lib.hid (show assignR n es rs = none by unfold assignR; rw [ha]; rfl)
    clear ha
    go_wp2_with fail
    go_ret3
    rw [HA.out]
    exact ⟨S2.out.below, rfl⟩
  | true =>
    have hak := ((Bool.and_eq_true _ _).mp ha).1
    have hP := ask_right hak
    have hpos := ask_pos hak
    have HP := Lib.hid hP
    have HAS := Lib.hid (show assignR n es rs = if es.length = 0 then some (0, List.replicate rs.length (-1)) else firstF (fitE n es rs) (facesOf n es rs).length by unfold assignR; rw [if_pos ha])
    have HAK := Lib.hid hak
    have g0 := S2.out.g0
    have g1 := S2.out.g1
    obtain ⟨N, hN⟩ : ∃ N, N = rs.length := ⟨_, rfl⟩
    have HN := Lib.hid hN
    have hnN : n = (N : Int) := by rw [hN]; exact hP.len.symm
    subst hnN
    have hN1 : N ≤ 1000 := by omega
    have hN0 : 0 < N := by omega
    clear ha hak hP
    by_cases he : es.length = 0
    · have HAS2 := Lib.hid (show assignR N es rs = some (0, List.replicate N (-1)) by rw [HAS.out, if_pos he, ← HN.out])
      have he' : ((es.length : Int) == 0) = true := by rw [he]; rfl
      have HB3 := Lib.hid (Blk.new w2 3 #[.int .i64 (-1)])
      have hb3 := (Below.refl w2.heap.size w2).alloc (Nat.le_refl _) (.cells #[.int .i64 (-1)] 3)
      have S3 := Lib.hid (S2.out.next hb3)
      have hz3 := World.size_alloc w2 (.cells #[.int .i64 (-1)] 3)
      clear hb3 hN
      have g0' := S3.out.g0
      go_wp2_with fail
      generalize w2.alloc (.cells #[.int .i64 (-1)] 3) = w3 at *
      refine (repeat_any (-1) w2.heap.size N w3 HB3.out hN0 hN1).mono ?_
      rintro e w4 ⟨g, rfl, hg, hb4, hG⟩
      have S4 := Lib.hid (S3.out.next hb4)
      have HG := Lib.hid hG
      have HGL := Lib.hid (show w.heap.size ≤ g from Nat.le_trans S3.out.below.size hg)
      clear hb4 hG hg
      go_wp2_with fail
      go_ret3
      rw [HAS2.out, ← HN.out]
      exact ⟨S4.out.below, g, rfl, HG.out, HGL.out⟩
    · have HAS2 := Lib.hid (show assignR N es rs = firstF (fitE N es rs) (facesOf N es rs).length by rw [HAS.out, if_neg he])
      have he' : ((es.length : Int) == 0) = false := by rw [beq_eq_false_iff_ne]; omega
      have hmm := may_parts HP.out.may
      have hm2 : es.length ≤ 1000 := by have := hmm.2.2; omega
      have hv1 : vN N es = N := by unfold vN; rw [if_pos HP.out.may]; rfl
      have hv2 : vE N es = es := by unfold vE; rw [if_pos HP.out.may]
      have hview := view_any N A cap es w2 S2.out.es
      rw [hv1, hv2] at hview
      clear hmm hv1 hv2 hN
      go_wp2_with fail
      refine hview.mono ?_
      rintro e w3 ⟨gv, rfl, hb3, hvw⟩
      have S3 := Lib.hid (S2.out.next hb3)
      have HV := Lib.hid hvw
      clear hb3 hvw hview g0 g1
      go_wp2_with fail
      refine (sources_any gv N es w3 HV.out hN1 hm2).mono ?_
      rintro e w4 ⟨v1, rfl, hb4, ho4⟩
      obtain ⟨A4, c4, rfl⟩ := own_slice ho4
      have S4 := Lib.hid (S3.out.next hb4)
      have HV4 := Lib.hid (HV.out.below hb4 (Nat.le_refl _))
      have HC4 := Lib.hid (Cells.of_own ho4)
      clear hb4 ho4
      go_wp2_with fail
      refine (sinks_any gv N es w4 HV4.out hN1 hm2).mono ?_
      rintro e w5 ⟨v2, rfl, hb5, ho5⟩
      obtain ⟨A5, c5, rfl⟩ := own_slice ho5
      have S5 := Lib.hid (S4.out.next hb5)
      have HC45 := Lib.hid ((HC4.out.below hb5).more hb5.size)
      have HC5 := Lib.hid (Cells.of_own ho5)
      have HB6 := Lib.hid (Blk.new w5 30 #[.slice A4 (bareVI N es Prod.snd).length c4, .slice A5 (bareVI N es Prod.fst).length c5])
      have hb6 := (Below.refl w5.heap.size w5).alloc (Nat.le_refl _) (.cells #[.slice A4 (bareVI N es Prod.snd).length c4, .slice A5 (bareVI N es Prod.fst).length c5] 30)
      have S6 := Lib.hid (S5.out.next hb6)
      have HC46 := Lib.hid ((HC45.out.below hb6).more hb6.size)
      have HC56 := Lib.hid ((HC5.out.below hb6).more hb6.size)
      clear hb5 ho5 hb6
      go_wp2_with fail
      generalize w5.alloc (.cells #[.slice A4 (bareVI N es Prod.snd).length c4, .slice A5 (bareVI N es Prod.fst).length c5] 30) = w6 at *
      have hcat := concat_any (some ⟨w5.heap.size, 0, none⟩) 2 [bareVI N es Prod.snd, bareVI N es Prod.fst] w6 (fun _ => ⟨w5.heap.size, 0, rfl, HB6.out.lt, fun i hi => by
        match i, hi with
        | 0, _ => exact ⟨A4, c4, HB6.out.cell 0, HC46.out⟩
        | 1, _ => exact ⟨A5, c5, HB6.out.cell 1, HC56.out⟩⟩) (by simp) (by
          rw [endsI_eq, endsI_length]
          have := endsL_le N es
          omega)
      rw [endsI_eq] at hcat
      refine hcat.mono ?_
      rintro e w7 ⟨A7, c7, rfl, hb7, hc7⟩
      have S7 := Lib.hid (S6.out.next hb7)
      have HC7 := Lib.hid hc7
      clear hb7 hc7 hcat
      have g0 := S7.out.g0
      have g1 := S7.out.g1
      go_wp2_with fail
      refine (angs_any N A C cap ccap es rs w7 S7.out.es S7.out.rs hr1 HR2.out).mono ?_
      rintro e w8 ⟨A8, c8, rfl, hb8, hc8, _⟩
      have har : angR N es rs = angL N es rs := by unfold angR; rw [if_pos HAK.out]
      rw [har, angL_length]
      rw [har, angL_qu] at hc8
      have S8 := Lib.hid (S7.out.next hb8)
      have HC78 := Lib.hid ((HC7.out.below hb8).more hb8.size)
      have HC8 := Lib.hid hc8
      clear hb8 hc8 har g0 g1
      have g0 := S8.out.g0
      have g1 := S8.out.g1
      go_wp2_with fail
      refine (faces_any N A C cap ccap es rs w8 S8.out.es S8.out.rs hr1 HR2.out).mono ?_
      rintro e w9 ⟨A9, c9, rfl, hb9, hc9⟩
      have S9 := Lib.hid (S8.out.next hb9)
      have HC79 := Lib.hid ((HC78.out.below hb9).more hb9.size)
      have HC89 := Lib.hid ((HC8.out.below hb9).more hb9.size)
      have hFl := faces_le HP.out
      have hF1 : (facesOf N es rs).length ≤ 1000 := by
        have := (may_parts HP.out.may).2.2
        omega
      have HFc := Lib.hid (show ∀ h, h < 2 * es.length → angF N es rs h < (facesOf N es rs).length from fun h hh => (angF_spec HP.out hh).1)
      have HVx := Lib.hid (show ∀ h, h < 2 * es.length → vtx es h < 8192 from fun h hh => by
        have := vtx_lt (right_inN HP.out) hh
        omega)
      have HKd := Lib.hid (show ∀ h, h < 2 * es.length → angK es rs h ≤ 2 from fun h _ => by unfold angK kindF; split <;> (try split) <;> omega)
      have HFE := Lib.hid (show ∀ f0, fitE N es rs f0 = fitR (vtx es) (angF N es rs) (angK es rs) N (2 * es.length) (facesOf N es rs).length f0 (endsL N es) from fun f0 => by unfold fitE; rw [← HN.out])
      have hEl := endsL_le N es
      clear hb9 hc9 g0 g1
      obtain ⟨F, hF⟩ : ∃ F, F = (facesOf N es rs).length := ⟨_, rfl⟩
      rw [← hF] at HFc HFE HAS2 hFl hF1
      rw [← hF]
      have HEI := Lib.hid (endsI_length N es)
      rw [HEI.out]
      clear hF
      go_wp2_with fail
      go_loopg [42] F (fun k s42 wr => ∃ i : Nat, s42 = .int .i64 i ∧ i ≤ F ∧ k = F - i ∧ Below w9.heap.size w9 wr ∧ ∀ j, j < i → fitE N es rs j = none)
      case atStart => exact ⟨0, rfl, Nat.zero_le _, rfl, Below.refl _ _, fun j h => absurd h (Nat.not_lt_zero _)⟩
      case round =>
        obtain ⟨i, rfl, hi, hk, hb, hno⟩ := hrel
        have Hk := Lib.hid hk
        have HB := Lib.hid hb
        have HNO := Lib.hid hno
        have SW := Lib.hid (S9.out.next hb)
        have hsz := hb.size
        clear hk hb hno
        have g0 := SW.out.g0
        have g1 := SW.out.g1
        by_cases hil : i < F
        · have hil' : (i : Int) < F := by omega
          have hft := fit_any A8 A7 c8 c7 (vtx es) (angF N es rs) (angK es rs) N (2 * es.length) F i (endsL N es) wr ((HC89.out.below HB.out).more hsz) ((HC79.out.below HB.out).more hsz) HFc.out HVx.out HKd.out (fun x hx => endsL_lt hx) hN1 hN0 (by omega) hF1 hil (by omega)
          rw [← HFE.out i] at hft
          go_wp2_with fail
          refine hft.mono ?_
          rintro e w10 ⟨hb10, hm⟩
          have S10 := Lib.hid (SW.out.next hb10)
          have HB10 := Lib.hid (HB.out.trans (hb10.mono hsz))
          clear hft
          cases hfe : fitE N es rs i with
          | none =>
            rw [hfe] at hm
            subst hm
            have HFN := Lib.hid hfe
            clear hfe hb10
            go_wp2_with fail
            go_roundg (F - (i + 1))
            case measure => rw [Hk.out]; omega
            case rel => exact ⟨i + 1, by go_num, by omega, rfl, HB10.out, fun j hj => by
              by_cases e : j = i
              · subst e; exact HFN.out
              · exact HNO.out j (by omega)⟩
          | some G =>
            rw [hfe] at hm
            obtain ⟨g, rfl, hg, hG⟩ := hm
            have HFN := Lib.hid (show assignR N es rs = some (i, G) by rw [HAS2.out]; exact firstF_at hil hfe HNO.out)
            have HG := Lib.hid hG
            have HGL := Lib.hid (show w.heap.size ≤ g from Nat.le_trans SW.out.below.size hg)
            clear hfe hb10 hG hg
            go_wp2_with fail
            go_ret3
            rw [HFN.out, ← HN.out]
            exact ⟨S10.out.below, g, rfl, HG.out, HGL.out⟩
        · have hie : i = F := by omega
          have hil' : ¬ (i : Int) < F := by omega
          have HFN := Lib.hid (show assignR N es rs = none by rw [HAS2.out]; exact firstF_none fun j hj => HNO.out j (by omega))
          clear hie
          go_wp2_with fail
          go_ret3
          rw [HFN.out]
          exact ⟨SW.out.below, rfl⟩
end Go.Proofs.YtelcofkjpkdjiaaGreat
/-
  What the angle laws ask first: Great, Odd. Written by an AI agent.
-/
namespace Go.Proofs.YtelcofkjpkdjiaaGreat
open Go.RowKit

theorem cls_one {R : Nat → Nat → Prop} {N : Nat} (hR : Equ N R) (h : cls R N = 1) : ∀ x, x < N → R 0 x := by
  intro x hx
  obtain ⟨y, hyx, hy, hl⟩ := least_of (P := fun y => R y x) (hR.refl x hx)
  by_cases h0 : y = 0
  · subst h0; exact hy
  · exfalso
    obtain ⟨d, hd⟩ : ∃ d, N = y + (1 + d) := ⟨N - y - 1, by omega⟩
    unfold cls at h
    rw [hd, List.range_add, List.countP_append, List.range_add, List.map_append, List.countP_append] at h
    have h1 : 0 < (List.range y).countP fun h => tst (∀ k, k < h → ¬ R k h) := List.countP_pos_iff.2 ⟨0, List.mem_range.2 (by omega), tst_iff.2 fun k hk => absurd hk (Nat.not_lt_zero _)⟩
    have h2 : 0 < (List.map (fun x => y + x) (List.range 1)).countP fun h => tst (∀ k, k < h → ¬ R k h) := List.countP_pos_iff.2 ⟨y, by simp, tst_iff.2 fun k hk hr => hl k hk (hR.trans k y x (by omega) (by omega) hx hr hy)⟩
    omega
theorem one_cls {R : Nat → Nat → Prop} {N : Nat} (hN : 0 < N) (h : ∀ x, x < N → R 0 x) : cls R N = 1 := by
  unfold cls
  obtain ⟨d, rfl⟩ : ∃ d, N = 1 + d := ⟨N - 1, by omega⟩
  rw [List.range_add, List.countP_append]
  have h1 : (List.range 1).countP (fun h => tst (∀ k, k < h → ¬ R k h)) = 1 := by
    have : tst (∀ k, k < 0 → ¬ R k 0) = true := tst_iff.2 fun k hk => absurd hk (Nat.not_lt_zero _)
    rw [show List.range 1 = [0] from rfl, List.countP_cons, this]
    rfl
  have h2 : (List.map (fun x => 1 + x) (List.range d)).countP (fun h => tst (∀ k, k < h → ¬ R k h)) = 0 := by
    rw [List.countP_eq_zero]
    intro z hz ht
    obtain ⟨j, hj, rfl⟩ := List.mem_map.1 hz
    have hj := List.mem_range.1 hj
    exact tst_iff.1 ht 0 (by omega) (h _ (by omega))
  omega
theorem kin_Q {es : List (Int × Int)} {x y : Nat} : Kin 0 es x y ↔ Q es es.length x y := by
  unfold Kin Q
  refine Star.congr fun i hi => ?_
  unfold withoutB
  have h0 : ∀ a, setHas 0 a = false := fun a => by simp [setHas]
  rw [h0, h0, decide_eq_true hi]
  rfl
theorem parts_one {es : List (Int × Int)} {N : Nat} (hin : InN N es) (hn : N ≤ 64) (hN : 0 < N) : (∀ x, x < N → rpart (List.replicate N false) es N x = 0) ↔ cls (Q es es.length) N = 1 := by
  have hr : ∀ x, x < N → (rpart (List.replicate N false) es N x = 0 ↔ Q es es.length 0 x) := fun x hx => by
    have h1 := rpart_iff (wo := 0) (woL := List.replicate N false) hin hn (fun y hy => by rw [List.getD_eq_getElem?_getD, List.getElem?_replicate, if_pos hy]; simp) hx 0 hN
    have h2 : ((0 : Nat) : Int) = 0 := rfl
    rw [h2] at h1
    rw [h1]
    constructor
    · rintro ⟨_, h, _⟩
      exact kin_Q.1 (Kin.symm h)
    · intro h
      exact ⟨by simp, Kin.symm (kin_Q.2 h), fun y hy => absurd hy (Nat.not_lt_zero _)⟩
  constructor
  · intro h
    exact one_cls hN fun x hx => (hr x hx).1 (h x hx)
  · intro h x hx
    exact (hr x hx).2 (cls_one (Q_equ N es.length) h x hx)
def GreatPost2 (most : Nat) (es : List (Int × Int)) (rs : List (List Int)) (w : World) (e : Ending) (w' : World) : Prop := ∃ b, e = .returned (.bool b) ∧ Below w.heap.size w w' ∧ (b = false → es.length ≤ most ∧ rs.length ≤ 70 ∧ ∀ l ∈ rs, l.length ≤ 200)
set_option maxHeartbeats 2000000 in
theorem great2_any (n : Int) (A C : Option Addr) (cap ccap : Nat) (es : List (Int × Int)) (rs : List (List Int)) (most : Nat) (w : World) (hrs : RowsAt w w.heap.size C rs) :
    Calls Tryz.prog 8 #[.agg #[.int .i64 n, .slice A es.length cap], .slice C rs.length ccap, .int .i64 most] w (GreatPost2 most es rs w) := by
  go_enter Tryz.func8, Tryz.ntmps8
  have hbw := (Below.refl w.heap.size w).alloc (Nat.le_refl _) (.cells #[.int .i64 n, .slice A es.length cap] 24)
  by_cases h1 : most < es.length
  · have h1' : (most : Int) < es.length := by omega
    go_wp2_with fail
    go_ret
    exact ⟨true, rfl, hbw, fun h => by cases h⟩
  have h1' : ¬ (most : Int) < es.length := by omega
  have h1'' : decide ((most : Int) < es.length) = false := decide_eq_false h1'
  by_cases h2 : 70 < rs.length
  · go_wp2_with fail
    go_ret
    exact ⟨true, rfl, hbw, fun h => by cases h⟩
  have hrs1 := hrs.below hbw
  go_wp2_with fail
  generalize w.alloc (.cells #[.int .i64 n, .slice A es.length cap] 24) = w1 at *
  go_loopg [21] rs.length (fun k s18 wr => ∃ i : Nat, s18 = .int .i64 i ∧ i ≤ rs.length ∧ k = rs.length - i ∧ wr = w1 ∧ ∀ j (hj : j < rs.length), j < i → rs[j].length ≤ 200)
  case atStart => exact ⟨0, rfl, Nat.zero_le _, rfl, rfl, fun j _ hj => absurd hj (by omega)⟩
  case round =>
    obtain ⟨i, rfl, hi, hk, hwr, hs⟩ := hrel
    have Hk := Lib.hid hk; clear hk
    have Hs := Lib.hid hs; clear hs
    by_cases hlt : i < rs.length
    · have hlt' : (i : Int) < rs.length := by omega
      obtain ⟨b, off, rfl, hbb, hc⟩ := hrs1 (by omega)
      obtain ⟨Ai, ci, e0, _⟩ := hc i hlt
      have e0 : wr.cell? ⟨b, off + i, none⟩ = some (.slice Ai rs[i].length ci) := by rw [hwr]; exact e0
      have HB := Lib.hid (show Below w.heap.size w wr by rw [hwr]; exact hbw)
      have HH := Lib.hid (fun (h : rs[i].length ≤ 200) => (fun j (hj : j < rs.length) (hji : j < i + 1) => (by
        by_cases h0 : j = i
        · subst h0; exact h
        · exact Hs.out j hj (by omega) : rs[j].length ≤ 200)))
      have Hwr := Lib.hid hwr
      clear hc hwr
      generalize rs[i] = l at *
      by_cases hl : 200 < l.length
      · go_wp2_with fail
        go_ret
        exact ⟨true, rfl, HB.out, fun h => by cases h⟩
      · have H2 := Lib.hid (HH.out (by omega))
        go_wp2_with fail
        go_roundg (rs.length - (i + 1))
        case measure => rw [Hk.out]; omega
        case rel => exact ⟨i + 1, by go_num, by omega, rfl, Hwr.out, H2.out⟩
    · have HB := Lib.hid (show Below w.heap.size w wr by rw [hwr]; exact hbw)
      have HR := Lib.hid (show ∀ l ∈ rs, l.length ≤ 200 from fun l hl => by
        obtain ⟨j, hj, rfl⟩ := List.mem_iff_getElem.1 hl
        exact Hs.out j hj (by omega))
      have Hwr := Lib.hid hwr
      clear hwr
      go_wp2_with fail
      go_ret
      exact ⟨false, rfl, HB.out, fun _ => ⟨by omega, by omega, HR.out⟩⟩
end Go.Proofs.YtelcofkjpkdjiaaGreat
/-
  What the angle laws ask first: the document's example. Written by an AI agent.
-/
namespace Go.Proofs.YtelcofkjpkdjiaaGreat
open Go.RowKit

theorem speaks6_cls : cls (Q [(0, 1)] 1) 2 = 1 := one_cls (by omega) fun x hx => by
  match x, hx with
  | 0, _ => exact .refl 0
  | 1, _ => exact .head ⟨0, by simp, by simp, .inl rfl⟩ (.refl 1)
theorem speaks6_gen : gen 2 [(0, 1)] [[0], [1]] = 0 := by
  unfold gen
  rw [show facesOf 2 [(0, 1)] [[0], [1]] = [[0, 1]] by decide +kernel, show ([(0, 1)] : List (Int × Int)).length = 1 from rfl, show ([[0], [1]] : List (List Int)).length = 2 from rfl, speaks6_cls, show iso [[0], [1]] = 0 by decide +kernel]
  rfl
theorem speaks6_ask : askA 2 [(0, 1)] [[0], [1]] = true := by
  unfold askA
  rw [speaks6_gen, show ([(0, 1)] : List (Int × Int)).length = 1 from rfl, show ([[0], [1]] : List (List Int)).length = 2 from rfl, speaks6_cls, show rightB 2 [(0, 1)] [[0], [1]] = true by decide +kernel, show ordB 2 [(0, 1)] = true by decide +kernel]
  rfl
theorem speaks6_fit : fitE 2 [(0, 1)] [[0], [1]] 0 = some [0, 1] := by
  unfold fitE
  decide +kernel
theorem speaks6_assign : assignR 2 [(0, 1)] [[0], [1]] = some (0, [0, 1]) := by
  unfold assignR
  rw [speaks6_ask, show bimB [[0], [1]] = true by decide +kernel, if_pos (by rfl), if_neg (by decide), show (facesOf 2 [(0, 1)] [[0], [1]]).length = 1 by decide +kernel]
  exact firstF_at (by omega) speaks6_fit fun j hj => absurd hj (Nat.not_lt_zero _)
theorem rows01 (w : World) : RowsAt (((w.alloc (.cells #[.int .i64 0] 3)).alloc (.cells #[.int .i64 1] 3)).alloc (.cells #[.slice (some ⟨w.heap.size, 0, none⟩) 1 1, .slice (some ⟨w.heap.size + 1, 0, none⟩) 1 1] 30)) (((w.alloc (.cells #[.int .i64 0] 3)).alloc (.cells #[.int .i64 1] 3)).alloc (.cells #[.slice (some ⟨w.heap.size, 0, none⟩) 1 1, .slice (some ⟨w.heap.size + 1, 0, none⟩) 1 1] 30)).heap.size (some ⟨w.heap.size + 1 + 1, 0, none⟩) [[0], [1]] ∧
    Below w.heap.size w (((w.alloc (.cells #[.int .i64 0] 3)).alloc (.cells #[.int .i64 1] 3)).alloc (.cells #[.slice (some ⟨w.heap.size, 0, none⟩) 1 1, .slice (some ⟨w.heap.size + 1, 0, none⟩) 1 1] 30)) := by
  have b1 := Blk.new w 3 #[.int .i64 0]
  have z1 := World.size_alloc w (.cells #[.int .i64 0] 3)
  have k1 := (Below.refl w.heap.size w).alloc (Nat.le_refl _) (.cells #[.int .i64 0] 3)
  generalize w.alloc (.cells #[.int .i64 0] 3) = w1 at *
  have b2 := Blk.new w1 3 #[.int .i64 1]
  have b1' := b1.alloc (.cells #[.int .i64 1] 3)
  have z2 := World.size_alloc w1 (.cells #[.int .i64 1] 3)
  have k2 := k1.alloc (by omega) (.cells #[.int .i64 1] 3)
  generalize w1.alloc (.cells #[.int .i64 1] 3) = w2 at *
  have b3 := Blk.new w2 30 #[.slice (some ⟨w.heap.size, 0, none⟩) 1 1, .slice (some ⟨w.heap.size + 1, 0, none⟩) 1 1]
  have b1'' := b1'.alloc (.cells #[.slice (some ⟨w.heap.size, 0, none⟩) 1 1, .slice (some ⟨w.heap.size + 1, 0, none⟩) 1 1] 30)
  have b2' := b2.alloc (.cells #[.slice (some ⟨w.heap.size, 0, none⟩) 1 1, .slice (some ⟨w.heap.size + 1, 0, none⟩) 1 1] 30)
  have z3 := World.size_alloc w2 (.cells #[.slice (some ⟨w.heap.size, 0, none⟩) 1 1, .slice (some ⟨w.heap.size + 1, 0, none⟩) 1 1] 30)
  have k3 := k2.alloc (by omega) (.cells #[.slice (some ⟨w.heap.size, 0, none⟩) 1 1, .slice (some ⟨w.heap.size + 1, 0, none⟩) 1 1] 30)
  generalize w2.alloc (.cells #[.slice (some ⟨w.heap.size, 0, none⟩) 1 1, .slice (some ⟨w.heap.size + 1, 0, none⟩) 1 1] 30) = w3 at *
  rw [z1] at b2'
  rw [z2, z1] at b3
  refine ⟨fun _ => ⟨w.heap.size + 1 + 1, 0, rfl, by omega, fun i hi => ?_⟩, k3⟩
  match i, hi with
  | 0, _ => exact ⟨_, 1, b3.cell 0, (Cells.blk' (xs := intCells [0]) b1'').more (by omega)⟩
  | 1, _ => exact ⟨_, 1, b3.cell 1, (Cells.blk' (xs := intCells [1]) b2').more (by omega)⟩
end Go.Proofs.YtelcofkjpkdjiaaGreat
