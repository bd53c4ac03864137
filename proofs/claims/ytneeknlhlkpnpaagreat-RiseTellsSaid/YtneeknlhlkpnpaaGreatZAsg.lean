import Derived.Test.YtneeknlhlkpnpaaGreatZFits
import Derived.Test.YtneeknlhlkpnpaaGreatZVw
import Derived.Test.YtneeknlhlkpnpaaGreatZEul
import Derived.Test.YtneeknlhlkpnpaaGreatZRfs
/-
 Sources and sinks: the program's and the reference's. Written by an AI agent.
-/
namespace Go.Proofs.YtneeknlhlkpnpaaGreat
open Go.RowKit
def bareT (ls : List (List Int)) (i : Nat) : List Nat := (List.range i).filter fun x => decide ((ls.getD x []).length = 0)
def bareI (ls : List (List Int)) (i : Nat) : List Int := (bareT ls i).map fun z : Nat => (z : Int)
theorem bareI_succ (ls : List (List Int)) (i : Nat) : bareI ls (i + 1) = bareI ls i ++ if (ls.getD i []).length = 0 then [(i : Int)] else [] := by
 unfold bareI bareT
 rw [List.range_succ, List.filter_append, List.map_append]
 congr 1
 by_cases h : (ls.getD i []).length = 0
 ·rw [if_pos h, List.filter_cons, decide_eq_true h]; rfl
 ·rw [if_neg h, List.filter_cons, decide_eq_false h]; rfl
theorem bareI_le (ls : List (List Int)) (i : Nat) : (bareI ls i).length ≤ i := by
 unfold bareI bareT
 rw [List.length_map]
 exact Nat.le_trans (List.length_filter_le _ _) (by simp)
def ListPost (l : List Int) (w : World) (e : Ending) (w' : World) : Prop := ∃ v, e = .returned v ∧ Below w.heap.size w w' ∧ w'.ownsRow w.heap.size 3 1 v l.length (intCells l)
set_option maxRecDepth 20000 in
set_option maxHeartbeats 4000000 in
theorem bare_any (C : Option Addr) (cap : Nat) (ls : List (List Int)) (w : World) (hrs : RowsAt w w.heap.size C ls) (hl : ls.length ≤ 1000) (hl2 : ∀ l ∈ ls, l.length ≤ 10000) :
  Calls Tryz.prog 109 #[.slice C ls.length cap] w (ListPost (bareI ls ls.length) w) := by
 have HR := Lib.hid hrs
 have HL := Lib.hid hl2
 clear hrs hl2
 go_enter Tryz.func109, Tryz.ntmps109
 go_wp2_with fail
 go_loopg [2, 7] ls.length (fun k s2 s7 wr => ∃ i : Nat, s7 = .int .i64 i ∧ i ≤ ls.length ∧ k = ls.length - i ∧ Below w.heap.size w wr ∧ wr.ownsRow w.heap.size 3 1 s2 (bareI ls i).length (intCells (bareI ls i)))
 case atStart => exact ⟨0, rfl, Nat.zero_le _, rfl, Below.refl _ _, rfl, .inl ⟨rfl, rfl⟩⟩
 case round =>
  obtain ⟨i, rfl, hi, hk, hb, hown⟩ := hrel
  have Hk := Lib.hid hk
  have HB := Lib.hid hb
  have HOW := Lib.hid hown
  obtain ⟨A2, c2, rfl⟩ := own_slice hown
  clear hk hb hown
  by_cases hil : i < ls.length
  ·have hil' : (i : Int) < ls.length := by omega
   obtain ⟨b, off, rfl, hbb, hcc⟩ := (HR.out.below HB.out) (by omega)
   obtain ⟨Ai, ci, zi, _⟩ := hcc i hil
   have HS := Lib.hid (bareI_succ ls i)
   have hge : ls.getD i [] = ls[i] := by rw [List.getD_eq_getElem?_getD, List.getElem?_eq_getElem hil]; rfl
   have hll := HL.out _ (List.getElem_mem hil)
   rw [hge] at HS
   obtain ⟨m, hm⟩ : ∃ m, m = ls[i].length := ⟨_, rfl⟩
   rw [← hm] at zi HS hll
   have hle := bareI_le ls i
   clear hcc hm hge
   by_cases hm0 : m = 0
   ·subst hm0
    have HS2 := Lib.hid (show bareI ls (i + 1) = bareI ls i ++ [(i : Int)] by rw [HS.out, if_pos rfl])
    have hzw := HB.out.size
    go_wp2_with (at_builtin; refine wp_app elemInt rfl _ _ rfl w.heap.size (.slice A2 (bareI ls i).length c2) _ _ rfl wr.heap.size [.int .i64 (i : Int)] rfl rfl HOW.out rfl rfl ?x2 ?x3 ?x4 ?_)
    case x2 => omega
    case x3 => omega
    try (case x4 => omega)
    intro v10 w10 ho10 hg10 hb10
    have HBX := Lib.hid (below_app HB.out HOW.out hg10 hzw (Nat.le_refl _))
    have HOX := Lib.hid (show w10.ownsRow w.heap.size 3 1 v10 (bareI ls (i + 1)).length (intCells (bareI ls (i + 1))) by
     rw [HS2.out]
     simpa [intCells] using ho10)
    clear ho10 hg10 hb10
    go_wp2_with fail
    go_roundg (ls.length - (i + 1))
    case measure => rw [Hk.out]; omega
    case rel => exact ⟨i + 1, by go_num, by omega, rfl, HBX.out, HOX.out⟩
   ·have hm0' : ((m : Int) == 0) = false := by rw [beq_eq_false_iff_ne]; omega
    have HS2 := Lib.hid (show bareI ls (i + 1) = bareI ls i by rw [HS.out, if_neg hm0, List.append_nil])
    have HOX := Lib.hid (show wr.ownsRow w.heap.size 3 1 (.slice A2 (bareI ls i).length c2) (bareI ls (i + 1)).length (intCells (bareI ls (i + 1))) by rw [HS2.out]; exact HOW.out)
    clear hm0
    go_wp2_with fail
    go_roundg (ls.length - (i + 1))
    case measure => rw [Hk.out]; omega
    case rel => exact ⟨i + 1, by go_num, by omega, rfl, HB.out, HOX.out⟩
  ·have hie : i = ls.length := by omega
   have hil' : ¬ (i : Int) < ls.length := by omega
   have HOX := Lib.hid (show wr.ownsRow w.heap.size 3 1 (.slice A2 (bareI ls i).length c2) (bareI ls ls.length).length (intCells (bareI ls ls.length)) by rw [← hie]; exact HOW.out)
   clear hie
   go_wp2_with fail
   go_ret
   exact ⟨_, rfl, HB.out, HOX.out⟩
def rowsF (n : Nat) (es : List (Int × Int)) (f : Int × Int → Int) : List (List Int) := (List.range n).map fun x : Nat => endsF es f x es.length
theorem rowsF_length (n : Nat) (es : List (Int × Int)) (f : Int × Int → Int) : (rowsF n es f).length = n := by simp [rowsF]
theorem rows_of {w : World} {base g n : Nat} {t : TypeId} {vs : List Value} {ls : List (List Int)} (hb : Blk w g t vs.toArray) (hv : vs.length = n) (hl : ls.length = n) (ho : ∀ k (h : k < vs.length) (h' : k < ls.length), w.ownsRow base 3 1 vs[k] ls[k].length (intCells ls[k])) : RowsAt w w.heap.size (some ⟨g, 0, none⟩) ls := fun _ => by
 refine ⟨g, 0, rfl, hb.lt, fun i hi => ?_⟩
 have h1 := ho i (by omega) hi
 obtain ⟨Ai, ci, e⟩ := own_slice h1
 rw [e] at h1
 refine ⟨Ai, ci, ?_, Cells.of_own h1⟩
 rw [Nat.zero_add, hb.cell i]
 simp [List.getElem?_eq_getElem (show i < vs.length by omega), e]
theorem ViewAt.tabs {w : World} {gv n : Nat} {es : List (Int × Int)} (h : ViewAt w gv n es) : ∃ (A : Option Addr) (c go gi : Nat), Blk w gv 91 #[.int .i64 n, .slice A es.length c, .slice (some ⟨go, 0, none⟩) n n, .slice (some ⟨gi, 0, none⟩) n n] ∧
  RowsAt w w.heap.size (some ⟨go, 0, none⟩) (rowsF n es Prod.fst) ∧ RowsAt w w.heap.size (some ⟨gi, 0, none⟩) (rowsF n es Prod.snd) := by
 obtain ⟨A, c, go, gi, os, is, h1, h2, h3, h4, h5, h6, h7⟩ := h
 refine ⟨A, c, go, gi, h1, rows_of (base := 0) h5 h3 (rowsF_length _ _ _) fun k hk hk' => ?_, rows_of (base := 0) h6 h4 (rowsF_length _ _ _) fun k hk hk' => ?_⟩
 ·have := h7.own k (by rw [List.length_append]; omega) (by rw [lsV_length]; omega)
  rw [List.getElem_append_left hk, lsV_at_fst (by omega)] at this
  simpa [rowsF] using this
 ·have := h7.own (n + k) (by rw [List.length_append]; omega) (by rw [lsV_length]; omega)
  rw [lsV_at_snd (by omega), List.getElem_append_right (by omega)] at this
  simpa [rowsF, h3] using this
def bareV (n : Nat) (es : List (Int × Int)) (f : Int × Int → Int) : List Nat := bareT (rowsF n es f) n
theorem mem_bareV {n : Nat} {es : List (Int × Int)} {f : Int × Int → Int} {x : Nat} : x ∈ bareV n es f ↔ x < n ∧ ∀ i, i < es.length → f (es.getD i (0, 0)) ≠ (x : Int) := by
 unfold bareV bareT
 rw [List.mem_filter, List.mem_range]
 constructor
 ·rintro ⟨hx, h⟩
  refine ⟨hx, fun i hi e => ?_⟩
  unfold rowsF at h
  rw [List.getD_eq_getElem?_getD, List.getElem?_map, List.getElem?_range hx] at h
  simp only [Option.map_some, Option.getD_some, decide_eq_true_eq, List.length_eq_zero_iff] at h
  have : (i : Int) ∈ endsF es f x es.length := mem_endsF.2 ⟨i, rfl, hi, e⟩
  rw [h] at this
  cases this
 ·rintro ⟨hx, h⟩
  refine ⟨hx, ?_⟩
  unfold rowsF
  rw [List.getD_eq_getElem?_getD, List.getElem?_map, List.getElem?_range hx]
  simp only [Option.map_some, Option.getD_some, decide_eq_true_eq, List.length_eq_zero_iff]
  apply List.eq_nil_iff_forall_not_mem.2
  intro a ha
  obtain ⟨i, _, hi, e⟩ := mem_endsF.1 ha
  exact h i hi e
def bareVI (n : Nat) (es : List (Int × Int)) (f : Int × Int → Int) : List Int := (bareV n es f).map fun z : Nat => (z : Int)
theorem rowsF_le {n : Nat} {es : List (Int × Int)} {f : Int × Int → Int} (hl : es.length ≤ 1000) : ∀ l ∈ rowsF n es f, l.length ≤ 10000 := by
 intro l hl2
 obtain ⟨x, _, rfl⟩ := List.mem_map.1 hl2
 have := endsF_length es f x es.length
 omega
set_option maxRecDepth 20000 in
theorem sources_any (gv n : Nat) (es : List (Int × Int)) (w : World) (hv : ViewAt w gv n es) (hn : n ≤ 1000) (hl : es.length ≤ 1000) :
  Calls Tryz.prog 55 #[.pointer (some ⟨gv, 0, none⟩)] w (ListPost (bareVI n es Prod.snd) w) := by
 obtain ⟨A, c, go, gi, h1, h2, h3⟩ := hv.tabs
 have hb := bare_any (some ⟨gi, 0, none⟩) n (rowsF n es Prod.snd) w h3 (by rw [rowsF_length]; exact hn) (rowsF_le hl)
 rw [rowsF_length] at hb
 have H3 := Lib.hid h3
 have c3 := h1.cell 3
 simp only [List.getElem?_toArray, List.getElem?_cons_zero, List.getElem?_cons_succ] at c3
 clear h1 h2 h3 hv
 go_enter Tryz.func55, Tryz.ntmps55
 go_wp2_with fail
 refine hb.mono ?_
 rintro e w2 ⟨v, rfl, hb2, ho2⟩
 have HB2 := Lib.hid hb2
 have HO2 := Lib.hid ho2
 clear hb hb2 ho2
 go_wp2_with fail
 go_ret
 exact ⟨v, rfl, HB2.out, HO2.out⟩
end Go.Proofs.YtneeknlhlkpnpaaGreat
namespace Go.Proofs.YtneeknlhlkpnpaaGreat
open Go.RowKit
theorem bareV_le (n : Nat) (es : List (Int × Int)) (f : Int × Int → Int) : (bareV n es f).length ≤ n := by
 have := bareI_le (rowsF n es f) n
 simpa [bareI, bareV] using this
end Go.Proofs.YtneeknlhlkpnpaaGreat
namespace Go.Proofs.YtneeknlhlkpnpaaGreat
open Go.RowKit
theorem one_cls {R : Nat → Nat → Prop} {N : Nat} (hN : 0 < N) (h : ∀ x, x < N → R 0 x) : cls R N = 1 := by
 unfold cls
 obtain ⟨d, rfl⟩ : ∃ d, N = 1 + d := ⟨N - 1, by omega⟩
 rw [List.range_add, List.countP_append]
 have h1 : (List.range 1).countP (fun h => tst (∀ k, k < h → ¬ R k h)) = 1 := by
  have : tst (∀ k, k < 0 → ¬ R k 0) = true := tst_iff.2 fun k hk => absurd hk (Nat.not_lt_zero _)
  rw [show List.range 1 = [0] from rfl, List.countP_cons, this]
  rfl
 have h2 : (List.map (fun x => 1 + x) (List.range d)).countP (fun h => tst (∀ k, k < h → ¬ R k h)) = 0 := by
  rw [List.countP_eq_zero]
  intro z hz ht
  obtain ⟨j, hj, rfl⟩ := List.mem_map.1 hz
  have hj := List.mem_range.1 hj
  exact tst_iff.1 ht 0 (by omega) (h _ (by omega))
 omega
end Go.Proofs.YtneeknlhlkpnpaaGreat
namespace Go.Proofs.YtneeknlhlkpnpaaGreat
open Go.RowKit
theorem speaks6_cls : cls (Q [(0, 1)] 1) 2 = 1 := one_cls (by omega) fun x hx => by
 match x, hx with
 | 0, _ => exact .refl 0
 | 1, _ => exact .head ⟨0, by simp, by simp, .inl rfl⟩ (.refl 1)
theorem speaks6_gen : gen 2 [(0, 1)] [[0], [1]] = 0 := by
 unfold gen
 rw [show facesOf 2 [(0, 1)] [[0], [1]] = [[0, 1]] by decide +kernel, show ([(0, 1)] : List (Int × Int)).length = 1 from rfl, show ([[0], [1]] : List (List Int)).length = 2 from rfl, speaks6_cls, show iso [[0], [1]] = 0 by decide +kernel]
 rfl
theorem speaks6_ask : askA 2 [(0, 1)] [[0], [1]] = true := by
 unfold askA
 rw [speaks6_gen, show ([(0, 1)] : List (Int × Int)).length = 1 from rfl, show ([[0], [1]] : List (List Int)).length = 2 from rfl, speaks6_cls, show rightB 2 [(0, 1)] [[0], [1]] = true by decide +kernel, show ordB 2 [(0, 1)] = true by decide +kernel]
 rfl
theorem rows01 (w : World) : RowsAt (((w.alloc (.cells #[.int .i64 0] 3)).alloc (.cells #[.int .i64 1] 3)).alloc (.cells #[.slice (some ⟨w.heap.size, 0, none⟩) 1 1, .slice (some ⟨w.heap.size + 1, 0, none⟩) 1 1] 25)) (((w.alloc (.cells #[.int .i64 0] 3)).alloc (.cells #[.int .i64 1] 3)).alloc (.cells #[.slice (some ⟨w.heap.size, 0, none⟩) 1 1, .slice (some ⟨w.heap.size + 1, 0, none⟩) 1 1] 25)).heap.size (some ⟨w.heap.size + 1 + 1, 0, none⟩) [[0], [1]] ∧
  Below w.heap.size w (((w.alloc (.cells #[.int .i64 0] 3)).alloc (.cells #[.int .i64 1] 3)).alloc (.cells #[.slice (some ⟨w.heap.size, 0, none⟩) 1 1, .slice (some ⟨w.heap.size + 1, 0, none⟩) 1 1] 25)) := by
 have b1 := Blk.new w 3 #[.int .i64 0]
 have z1 := World.size_alloc w (.cells #[.int .i64 0] 3)
 have k1 := (Below.refl w.heap.size w).alloc (Nat.le_refl _) (.cells #[.int .i64 0] 3)
 generalize w.alloc (.cells #[.int .i64 0] 3) = w1 at *
 have b2 := Blk.new w1 3 #[.int .i64 1]
 have b1' := b1.alloc (.cells #[.int .i64 1] 3)
 have z2 := World.size_alloc w1 (.cells #[.int .i64 1] 3)
 have k2 := k1.alloc (by omega) (.cells #[.int .i64 1] 3)
 generalize w1.alloc (.cells #[.int .i64 1] 3) = w2 at *
 have b3 := Blk.new w2 25 #[.slice (some ⟨w.heap.size, 0, none⟩) 1 1, .slice (some ⟨w.heap.size + 1, 0, none⟩) 1 1]
 have b1'' := b1'.alloc (.cells #[.slice (some ⟨w.heap.size, 0, none⟩) 1 1, .slice (some ⟨w.heap.size + 1, 0, none⟩) 1 1] 25)
 have b2' := b2.alloc (.cells #[.slice (some ⟨w.heap.size, 0, none⟩) 1 1, .slice (some ⟨w.heap.size + 1, 0, none⟩) 1 1] 25)
 have z3 := World.size_alloc w2 (.cells #[.slice (some ⟨w.heap.size, 0, none⟩) 1 1, .slice (some ⟨w.heap.size + 1, 0, none⟩) 1 1] 25)
 have k3 := k2.alloc (by omega) (.cells #[.slice (some ⟨w.heap.size, 0, none⟩) 1 1, .slice (some ⟨w.heap.size + 1, 0, none⟩) 1 1] 25)
 generalize w2.alloc (.cells #[.slice (some ⟨w.heap.size, 0, none⟩) 1 1, .slice (some ⟨w.heap.size + 1, 0, none⟩) 1 1] 25) = w3 at *
 rw [z1] at b2'
 rw [z2, z1] at b3
 refine ⟨fun _ => ⟨w.heap.size + 1 + 1, 0, rfl, by omega, fun i hi => ?_⟩, k3⟩
 match i, hi with
 | 0, _ => exact ⟨_, 1, b3.cell 0, (Cells.blk' (xs := intCells [0]) b1'').more (by omega)⟩
 | 1, _ => exact ⟨_, 1, b3.cell 1, (Cells.blk' (xs := intCells [1]) b2').more (by omega)⟩
end Go.Proofs.YtneeknlhlkpnpaaGreat
