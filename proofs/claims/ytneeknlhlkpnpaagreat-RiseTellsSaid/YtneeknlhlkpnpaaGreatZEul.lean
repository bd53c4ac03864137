import Derived.Test.YtneeknlhlkpnpaaGreatZGol
import Derived.Test.YtneeknlhlkpnpaaGreatZReg
import Derived.Lib.AppendZerosOnto
import Derived.Test.YtneeknlhlkpnpaaGreatZVw
/-
 Package rotation: vertex, Right: what they compute. Written by an AI agent.
-/
namespace Go.Proofs.YtneeknlhlkpnpaaGreat
open Go.RowKit
def RowsAt (w : World) (B : Nat) (A : Option Addr) (rs : List (List Int)) : Prop :=
 0 < rs.length → ∃ b off, A = some ⟨b, off, none⟩ ∧ b < B ∧ ∀ i (h : i < rs.length), ∃ Ai ci, w.cell? ⟨b, off + i, none⟩ = some (.slice Ai rs[i].length ci) ∧ Cells w B Ai (intCells rs[i])
section
variable {w w' : World} {B B' : Nat} {A : Option Addr} {rs : List (List Int)}
theorem RowsAt.keep (h : RowsAt w B A rs) (hk : ∀ p : Addr, p.block < B → w'.cell? p = w.cell? p) : RowsAt w' B A rs := fun hn => by
 obtain ⟨b, off, e, hb, hc⟩ := h hn
 refine ⟨b, off, e, hb, fun i hi => ?_⟩
 obtain ⟨Ai, ci, h1, h2⟩ := hc i hi
 exact ⟨Ai, ci, (hk _ (by exact hb)).trans h1, h2.keep hk⟩
theorem RowsAt.more (h : RowsAt w B A rs) (hB : B ≤ B') : RowsAt w B' A rs := fun hn => by
 obtain ⟨b, off, e, hb, hc⟩ := h hn
 refine ⟨b, off, e, by omega, fun i hi => ?_⟩
 obtain ⟨Ai, ci, h1, h2⟩ := hc i hi
 exact ⟨Ai, ci, h1, h2.more hB⟩
theorem RowsAt.below (h : RowsAt w B A rs) (hb : Below B w w') : RowsAt w' B A rs := h.keep fun _ hp => hb.cell hp
end
def atE (es : List (Int × Int)) (h : Nat) : Int := if h % 2 = 0 then (es.getD (h / 2) (0, 0)).1 else (es.getD (h / 2) (0, 0)).2
theorem vertex_any (n : Int) (A : Option Addr) (cap : Nat) (es : List (Int × Int)) (h : Nat) (w : World) (hes : Cells w w.heap.size A (edgeCells es)) (hh : h < 2 * es.length) (hlen : es.length ≤ 1000) :
  Calls Tryz.prog 119 #[.agg #[.int .i64 n, .slice A es.length cap], .int .i64 h] w (fun e w' => e = .returned (.int .i64 (atE es h)) ∧ Below w.heap.size w w') := by
 obtain ⟨b, off, rfl, hb, hc⟩ := hes.edges (by omega)
 have hk : h / 2 < es.length := by omega
 obtain ⟨c0, c1⟩ := hc (h / 2) hk
 clear hc
 have e0 : es.getD (h / 2) (0, 0) = es[h / 2] := by simp [hk]
 have ha : atE es h = if h % 2 = 0 then es[h / 2].1 else es[h / 2].2 := by unfold atE; rw [e0]
 have Ha := Lib.hid ha; clear ha e0
 generalize es[h / 2].1 = t at *
 generalize es[h / 2].2 = u at *
 have hq : Int.tdiv (h : Int) 2 = ((h / 2 : Nat) : Int) := by rw [Int.tdiv_eq_ediv_of_nonneg (by omega)]; simp
 have hk' : ((h / 2 : Nat) : Int) < es.length := by omega
 have hbw := (Below.refl w.heap.size w).alloc (Nat.le_refl _) (.cells #[.int .i64 n, .slice (some ⟨b, off, none⟩) es.length cap] 24)
 by_cases h2 : h % 2 = 0
 ·have hr : Int.tmod (h : Int) 2 = 0 := by rw [Int.tmod_eq_emod_of_nonneg (by omega)]; omega
  rw [if_pos h2] at Ha
  go_enter Tryz.func119, Tryz.ntmps119
  go_wp2_with fail
  go_ret
  exact ⟨ret_int Ha.out.symm, hbw.alloc hbw.size _⟩
 ·have hr : Int.tmod (h : Int) 2 = 1 := by rw [Int.tmod_eq_emod_of_nonneg (by omega)]; omega
  rw [if_neg h2] at Ha
  go_enter Tryz.func119, Tryz.ntmps119
  go_wp2_with fail
  go_ret
  exact ⟨ret_int Ha.out.symm, hbw.alloc hbw.size _⟩
theorem indexBool_any (A : Option Addr) (cap : Nat) (l : List Bool) (v : Bool) (w : World) (hl : Cells w w.heap.size A (boolCells l)) (hlen : l.length ≤ 100000) :
  Calls Tryz.prog 157 #[.slice A l.length cap, .bool v] w fun e w' => ∃ r : Int, e = .returned (.int .i64 r) ∧ (0 ≤ r ↔ v ∈ l) ∧ ∃ m, w' = w.drewN m := by
 go_enter Tryz.func157, Tryz.ntmps157
 go_wp2_with fail
 go_loopg [8] l.length (fun k s8 wr => ∃ i m : Nat, s8 = .int .i64 i ∧ i ≤ l.length ∧ k = l.length - i ∧ wr = w.drewN m ∧ ∀ j, j < i → l[j]? ≠ some v)
 case atStart => exact ⟨0, 0, rfl, Nat.zero_le _, rfl, rfl, fun j hj => absurd hj (by omega)⟩
 case round =>
  obtain ⟨i, m, rfl, hi, hk, hwr, hno⟩ := hrel
  have Hk := Lib.hid hk; clear hk
  have Hno := Lib.hid hno; clear hno
  by_cases hlt : i < l.length
  ·obtain ⟨b, off, rfl, hbb, hc⟩ := hl.bools (by omega)
   have c0 : wr.cell? ⟨b, off + i, none⟩ = some (.bool (l.getD i false)) := by rw [hwr]; exact hc i hlt
   have Hwr := Lib.hid hwr; clear hwr hc
   have hl1 : l[i]? = some (l.getD i false) := by rw [List.getD_eq_getElem?_getD, List.getElem?_eq_getElem hlt]; rfl
   have Hl1 := Lib.hid hl1; clear hl1
   have hlt' : (i : Int) < l.length := by omega
   generalize l.getD i false = u at *
   by_cases huv : v = u
   ·subst huv
    have hE := Lib.hid (List.mem_of_getElem? Hl1.out)
    have hb : (v == v) = true := by simp
    go_wp2_with fail
    go_ret
    exact ⟨i, rfl, ⟨fun _ => hE.out, fun _ => by omega⟩, m, Hwr.out⟩
   ·have hb : (v == u) = false := by simp [huv]
    go_wp2_with fail
    go_roundg (l.length - (i + 1))
    case measure => rw [Hk.out]; omega
    case rel => exact ⟨i + 1, m, by go_num, by omega, rfl, Hwr.out, fun j hj => by
     by_cases h : j = i
     ·rw [h, Hl1.out]; exact fun e => huv (by injection e with e; exact e.symm)
     ·exact Hno.out j (by omega)⟩
  ·have hn : v ∉ l := fun h => by
    obtain ⟨j, hj, he⟩ := List.mem_iff_getElem.1 h
    exact Hno.out j (by omega) (by rw [List.getElem?_eq_getElem hj, he])
   have Hn := Lib.hid hn; clear hn
   have Hwr := Lib.hid hwr; clear hwr
   go_wp2_with fail
   go_ret
   exact ⟨-1, rfl, ⟨fun h => absurd h (by omega), fun h => absurd h Hn.out⟩, m, Hwr.out⟩
theorem containsBool_any (A : Option Addr) (cap : Nat) (l : List Bool) (v : Bool) (w : World) (hl : Cells w w.heap.size A (boolCells l)) (hlen : l.length ≤ 100000) :
  Calls Tryz.prog 120 #[.slice A l.length cap, .bool v] w (QuietB (decide (v ∈ l)) w) := by
 have Hc := Lib.hid (indexBool_any A cap l v w hl hlen)
 go_enter Tryz.func120, Tryz.ntmps120
 go_wp2_with fail
 refine Hc.out.mono ?_
 rintro e w' ⟨r, rfl, hr, m, rfl⟩
 have Hr := Lib.hid hr; clear hr
 go_wp2_with fail
 go_ret
 exact ⟨ret_bool (by rw [decide_eq_decide]; exact Hr.out), m, rfl⟩
def rStep (es : List (Int × Int)) (x : Nat) (st : Option (List Bool)) (h : Int) : Option (List Bool) :=
 match st with
 | none => none
 | some seen => if h < 0 ∨ (seen.length : Int) ≤ h then none else if seen.getD h.toNat false = true then none else if atE es h.toNat ≠ x then none else some (seen.set h.toNat true)
def rRow (es : List (Int × Int)) (x : Nat) (st : Option (List Bool)) (l : List Int) : Option (List Bool) := l.foldl (rStep es x) st
def rAll (es : List (Int × Int)) (rs : List (List Int)) (k : Nat) : Option (List Bool) := (List.range k).foldl (fun st x => rRow es x st (rs.getD x [])) (some (List.replicate (2 * es.length) false))
def rightB (n : Int) (es : List (Int × Int)) (rs : List (List Int)) : Bool :=
 mayB n es && decide ((rs.length : Int) = n) && match rAll es rs rs.length with | none => false | some seen => !decide (false ∈ seen)
theorem rRow_none {es : List (Int × Int)} {x : Nat} (l : List Int) : rRow es x none l = none := by
 unfold rRow
 induction l with
 | nil => rfl
 | cons a r ih => exact ih
theorem rAll_succ (es : List (Int × Int)) (rs : List (List Int)) (k : Nat) : rAll es rs (k + 1) = rRow es k (rAll es rs k) (rs.getD k []) := by
 unfold rAll; rw [List.range_succ, List.foldl_append]; rfl
theorem rRow_split {es : List (Int × Int)} {x : Nat} {st : Option (List Bool)} (a b : List Int) : rRow es x st (a ++ b) = rRow es x (rRow es x st a) b := by
 unfold rRow; rw [List.foldl_append]
theorem rRow_take {es : List (Int × Int)} {x i : Nat} {st : Option (List Bool)} {l : List Int} (h : i < l.length) : rRow es x st (l.take (i + 1)) = rStep es x (rRow es x st (l.take i)) l[i] := by
 rw [List.take_succ_eq_append_getElem h, rRow_split]; rfl
theorem rAll_dead {es : List (Int × Int)} {rs : List (List Int)} {k : Nat} (h : rAll es rs k = none) : ∀ d, rAll es rs (k + d) = none
 | 0 => h
 | d + 1 => by rw [← Nat.add_assoc, rAll_succ, rAll_dead h d, rRow_none]
theorem right_dead {n : Int} {es : List (Int × Int)} {rs : List (List Int)} {x i : Nat} (hx : x < rs.length) (h : rRow es x (rAll es rs x) (rs[x].take i) = none) : rightB n es rs = false := by
 have h1 : rAll es rs (x + 1) = none := by
  rw [rAll_succ, List.getD_eq_getElem?_getD, List.getElem?_eq_getElem hx]
  show rRow es x (rAll es rs x) rs[x] = none
  rw [← List.take_append_drop i rs[x], rRow_split, h, rRow_none]
 have h2 := rAll_dead h1 (rs.length - (x + 1))
 rw [show x + 1 + (rs.length - (x + 1)) = rs.length by omega] at h2
 unfold rightB
 rw [h2]; simp
theorem rStep_len {es : List (Int × Int)} {x : Nat} {s s' : List Bool} {h : Int} (e : rStep es x (some s) h = some s') : s'.length = s.length := by
 unfold rStep at e
 simp only at e
 split at e
 ·cases e
 ·split at e
  ·cases e
  ·split at e
   ·cases e
   ·injection e with e; rw [← e]; simp
set_option maxHeartbeats 2000000 in
theorem right_any (n : Int) (A C : Option Addr) (cap ccap : Nat) (es : List (Int × Int)) (rs : List (List Int)) (w : World) (hes : Cells w w.heap.size A (edgeCells es)) (hrs : RowsAt w w.heap.size C rs) (hr1 : rs.length ≤ 1000) (hr2 : ∀ l ∈ rs, l.length ≤ 1000) :
  Calls Tryz.prog 70 #[.agg #[.int .i64 n, .slice A es.length cap], .slice C rs.length ccap] w (fun e w' => e = .returned (.bool (rightB n es rs)) ∧ Below w.heap.size w w') := by
 go_enter Tryz.func70, Tryz.ntmps70
 go_wp2_with fail
 have b0 := World.cell?_alloc_new w #[.int .i64 n, .slice A es.length cap] 24 0
 have b1 := World.cell?_alloc_new w #[.int .i64 n, .slice A es.length cap] 24 1
 simp only [List.getElem?_toArray, List.getElem?_cons_zero, List.getElem?_cons_succ] at b0 b1
 have hbw := (Below.refl w.heap.size w).alloc (Nat.le_refl _) (.cells #[.int .i64 n, .slice A es.length cap] 24)
 have s1 := World.size_alloc w (.cells #[.int .i64 n, .slice A es.length cap] 24)
 generalize w.alloc (.cells #[.int .i64 n, .slice A es.length cap] 24) = w1 at *
 refine (may_any n A cap es w1 ((hes.below hbw).more (by omega))).mono ?_
 rintro e w2 ⟨rfl, hb2⟩
 have c0 := (hb2.cell (p := ⟨w.heap.size, 0, none⟩) (by simp; omega)).trans b0
 have c1 := (hb2.cell (p := ⟨w.heap.size, 1, none⟩) (by simp; omega)).trans b1
 have hb3 := hbw.trans (hb2.mono (by omega))
 have l2 : w.heap.size < w2.heap.size := by have := hb2.size; omega
 clear b0 b1 hb2 hbw s1
 cases hm : mayB n es with
 | false =>
  have HR := Lib.hid (show rightB n es rs = false by unfold rightB; rw [hm]; rfl)
  clear hm
  go_wp2_with fail
  go_ret
  exact ⟨ret_bool HR.out.symm, hb3⟩
 | true =>
  have Hm := Lib.hid hm; clear hm
  obtain ⟨hn0, hn1, hn2⟩ := may_parts Hm.out
  by_cases hn : (rs.length : Int) = n
  ·have hne : ((rs.length : Int) != n) = false := by simp [hn]
   have Hn := Lib.hid hn; clear hn
   have hmk : ∀ W, (Instr.makeSlice 113 (.int .i64 (2 * (es.length : Int))) (.int .i64 (2 * (es.length : Int)))).run Tryz.prog W = .ok (.slice (some ⟨W.heap.size, 0, none⟩) (2 * es.length) (2 * es.length)) (W.alloc (.cells (List.replicate (2 * es.length) (Value.bool false)).toArray 4)) := fun W => by
    have := run_make1 elemBool rfl (2 * es.length) (by omega) (by omega) W
    rw [show ((2 * es.length : Nat) : Int) = 2 * (es.length : Int) by omega] at this
    exact this
   go_wp2_with fail
   have g0 : Blk (w2.alloc (.cells (Array.replicate (2 * es.length) (Value.bool false)) 4)) w2.heap.size 4 (boolCells (List.replicate (2 * es.length) false)).toArray := by
    have := Blk.new w2 4 (Array.replicate (2 * es.length) (Value.bool false))
    rw [← boolCells_replicate]
    simpa using this
   have hb4 := hb3.alloc hb3.size (.cells (Array.replicate (2 * es.length) (Value.bool false)) 4)
   have hk4 : ∀ p : Addr, p.block < w2.heap.size → (w2.alloc (.cells (Array.replicate (2 * es.length) (Value.bool false)) 4)).cell? p = w2.cell? p := fun p hp => World.cell?_alloc_lt _ _ p hp
   have hes2 := hes.below hb3
   have hrs2 := hrs.below hb3
   generalize w2.alloc (.cells (Array.replicate (2 * es.length) (Value.bool false)) 4) = w3 at *
   generalize hg : w2.heap.size = g at *
   have Hg := Lib.hid hg; clear hg
   go_loopg [27] rs.length (fun k s27 wr => ∃ (x : Nat) (seen : List Bool), s27 = .int .i64 x ∧ x ≤ rs.length ∧ k = rs.length - x ∧ rAll es rs x = some seen ∧ seen.length = 2 * es.length ∧ Below w.heap.size w wr ∧ Blk wr g 4 (boolCells seen).toArray ∧ ∀ p : Addr, p.block < g → wr.cell? p = w2.cell? p)
   case atStart => exact ⟨0, _, rfl, Nat.zero_le _, rfl, rfl, by simp, hb4, g0, hk4⟩
   case round =>
    clear hb4 g0 hk4 hmk hb3 hne
    obtain ⟨x, seen, rfl, hx, hk, hall, hsl, hb, hbl, hkp⟩ := hrel
    have Hk := Lib.hid hk; clear hk
    have Hall := Lib.hid hall; clear hall
    have Hkp := Lib.hid hkp; clear hkp
    by_cases hlt : x < rs.length
    ·have hlt' : (x : Int) < rs.length := by omega
     obtain ⟨b, off, rfl, hbb, hrow⟩ := hrs2 (by omega)
     obtain ⟨Ai, ci, hcell, hCi⟩ := hrow x hlt
     have e0 := (Hkp.out ⟨b, off + x, none⟩ (by simp; omega)).trans hcell
     have hll : rs[x].length ≤ 1000 := hr2 _ (List.getElem_mem hlt)
     have HL := Lib.hid (show rs.getD x [] = rs[x] by rw [List.getD_eq_getElem?_getD, List.getElem?_eq_getElem hlt]; rfl)
     have HD := Lib.hid (fun (i : Nat) => right_dead (n := n) (es := es) (i := i) hlt)
     have HC := Lib.hid hCi
     clear hrow hcell hCi
     generalize rs[x] = l at *
     go_wp2_with fail
     go_loopg [34] l.length (fun k s34 wr => ∃ (i : Nat) (seen : List Bool), s34 = .int .i64 i ∧ i ≤ l.length ∧ k = l.length - i ∧ rRow es x (rAll es rs x) (l.take i) = some seen ∧ seen.length = 2 * es.length ∧ Below w.heap.size w wr ∧ Blk wr g 4 (boolCells seen).toArray ∧ ∀ p : Addr, p.block < g → wr.cell? p = w2.cell? p)
     case atStart => exact ⟨0, seen, rfl, Nat.zero_le _, rfl, Hall.out, hsl, hb, hbl, Hkp.out⟩
     case round =>
      clear hb hbl hsl Hkp Hall
      obtain ⟨i, seen, rfl, hi, hk, hrow, hsl, hb, hbl, hkp⟩ := hrel
      have Hk2 := Lib.hid hk; clear hk
      have Hrow := Lib.hid hrow; clear hrow
      have Hkp := Lib.hid hkp; clear hkp
      by_cases hlt2 : i < l.length
      ·have hlt2' : (i : Int) < l.length := by omega
       obtain ⟨bi, offi, rfl, hbi, hci⟩ := HC.out.ints (by omega)
       have f0 := (Hkp.out ⟨bi, offi + i, none⟩ (by simp; omega)).trans (hci i hlt2)
       have HS := Lib.hid (show rRow es x (rAll es rs x) (l.take (i + 1)) = rStep es x (some seen) l[i] by rw [rRow_take hlt2, Hrow.out])
       clear hci
       generalize l[i] = h at *
       have y0 := (Hkp.out ⟨w.heap.size, 0, none⟩ (by simp; omega)).trans c0
       have y1 := (Hkp.out ⟨w.heap.size, 1, none⟩ (by simp; omega)).trans c1
       by_cases h0 : h < 0
       ·have HR := Lib.hid (HD.out (i + 1) (by rw [HS.out]; unfold rStep; simp [h0]))
        go_wp2_with fail
        go_ret
        exact ⟨ret_bool HR.out.symm, hb⟩
       by_cases h1 : (2 * es.length : Int) ≤ h
       ·have HR := Lib.hid (HD.out (i + 1) (by rw [HS.out]; unfold rStep; simp only; rw [if_pos (.inr (by rw [hsl]; omega))]))
        go_wp2_with fail
        go_ret
        exact ⟨ret_bool HR.out.symm, hb⟩
       obtain ⟨h, rfl⟩ := Int.eq_ofNat_of_zero_le (show 0 ≤ h by omega)
       have h2 : h < 2 * es.length := by omega
       have d0 := hbl.bool (k := h) (by omega)
       have hin : ¬ (((h : Nat) : Int) < 0 ∨ (seen.length : Int) ≤ (h : Nat)) := by omega
       cases hsn : seen.getD h false with
       | true =>
        have HR := Lib.hid (HD.out (i + 1) (by rw [HS.out]; unfold rStep; simp only [if_neg hin]; rw [if_pos (by exact hsn)]))
        rw [hsn] at d0
        clear hsn
        go_wp2_with fail
        go_ret
        exact ⟨ret_bool HR.out.symm, hb⟩
       | false =>
        rw [hsn] at d0
        have hesr := hes2.keep (w' := wr) (fun p hp => Hkp.out p (by omega))
        have hgl := hbl.lt
        have Hv := Lib.hid (vertex_any n A cap es h wr (hesr.more (by omega)) h2 (by omega))
        have HS2 := Lib.hid (show rStep es x (some seen) (h : Int) = if atE es h ≠ (x : Int) then none else some (seen.set h true) by
         unfold rStep
         simp only [if_neg hin]
         rw [if_neg (by show ¬ seen.getD h false = true; rw [hsn]; simp)]
         rfl)
        clear hsn hesr hin
        go_wp2_with fail
        refine Hv.out.mono ?_
        rintro e w5 ⟨rfl, hb5⟩
        have hb6 := hb.trans (hb5.mono (by have := hb.size; omega))
        have hbl6 := hbl.below hb5 hgl
        have hkp6 : ∀ p : Addr, p.block < g → w5.cell? p = w2.cell? p := fun p hp => (hb5.cell (Nat.lt_trans hp hgl)).trans (Hkp.out p hp)
        have Hkp6 := Lib.hid hkp6
        have hs5 := hb5.size
        clear hb hbl hb5 hkp6 d0 y0 y1 f0 e0 Hkp
        by_cases hv : atE es h = (x : Int)
        ·have HS3 := Lib.hid (show rStep es x (some seen) (h : Int) = some (seen.set h true) by rw [HS2.out, if_neg (by simp [hv])])
         rw [hv]
         have hxx : ((x : Int) != (x : Int)) = false := by simp
         have d0 := hbl6.bool (k := h) (by omega)
         have f0 := hbl6.frozen h
         have S1 := hbl6.setBool h true
         have hb7 := hb6.setCell (p := ⟨g, h, none⟩) (by simp; omega) (.bool true)
         have hk7 : ∀ p : Addr, p.block < g → (w5.setCell ⟨g, h, none⟩ (.bool true)).cell? p = w2.cell? p := fun p hp => (World.cell?_setCell_other w5 ⟨g, h, none⟩ p _ (fun e => by subst e; simp at hp)).trans (Hkp6.out p hp)
         have Hk7 := Lib.hid hk7
         clear hv hbl6 hk7
         go_wp2_with fail
         go_roundg (l.length - (i + 1))
         case measure => rw [Hk2.out]; omega
         case rel => exact ⟨i + 1, seen.set h true, by go_num, by omega, rfl, by rw [HS.out, HS3.out], by simp [hsl], hb7, S1, Hk7.out⟩
        ·have HR := Lib.hid (HD.out (i + 1) (by rw [HS.out, HS2.out, if_pos hv]))
         have hxx : (atE es h != (x : Int)) = true := by simp [hv]
         clear hv
         go_wp2_with fail
         go_ret
         exact ⟨ret_bool HR.out.symm, hb6⟩
      ·have hie : i = l.length := by omega
       have HA := Lib.hid (show rAll es rs (x + 1) = some seen by rw [rAll_succ, HL.out, ← Hrow.out, hie, List.take_length])
       go_wp2_with fail
       go_roundg (rs.length - (x + 1))
       case measure => rw [Hk.out]; omega
       case rel => exact ⟨x + 1, seen, by go_num, by omega, rfl, HA.out, hsl, hb, hbl, Hkp.out⟩
    ·have hxe : x = rs.length := by omega
     have HR := Lib.hid (show rightB n es rs = !decide (false ∈ seen) by
      unfold rightB
      rw [Hm.out, decide_eq_true Hn.out, ← hxe, Hall.out]; rfl)
     have hgl := hbl.lt
     have ho : Cells wr wr.heap.size (some ⟨g, 0, none⟩) (boolCells seen) := (Cells.of_blk (R := #[]) (by simpa using hbl)).more (by omega)
     have Hc := Lib.hid (containsBool_any _ (2 * es.length) seen false wr ho (by omega))
     rw [hsl] at Hc
     go_wp2_with fail
     refine Hc.out.mono ?_
     rintro e w6 ⟨rfl, m, rfl⟩
     go_wp2_with fail
     go_ret
     exact ⟨ret_bool HR.out.symm, below_drewN hb m⟩
  ·have hne : ((rs.length : Int) != n) = true := by simp [hn]
   have HR := Lib.hid (show rightB n es rs = false by unfold rightB; rw [decide_eq_false hn]; simp)
   clear hn
   go_wp2_with fail
   go_ret
   exact ⟨ret_bool HR.out.symm, hb3⟩
end Go.Proofs.YtneeknlhlkpnpaaGreat
namespace Go.Proofs.YtneeknlhlkpnpaaGreat
open Go.RowKit
set_option maxHeartbeats 1000000 in
set_option maxRecDepth 20000 in
theorem growNil_any (k : Nat) (hk : k ≤ 1000000) (w : World) :
  Calls Tryz.prog 121 #[.slice none 0 0, .int .i64 k] w fun e w' => ∃ A c, e = .returned (.slice A 0 c) ∧ Below w.heap.size w w' ∧ w'.ownsRow w.heap.size 3 1 (.slice A 0 c) 0 [] := by
 rcases Nat.eq_zero_or_pos k with h0 | h0
 ·subst h0
  go_enter Tryz.func121, Tryz.ntmps121
  go_wp2
  go_ret
  exact ⟨none, 0, rfl, Below.refl _ _, World.ownsRow_nil _ _ _ _⟩
 ·obtain ⟨i, ht, hi, hz, hsize, hby, hzs, hsz⟩ := elemInt
  have hrz : ∀ ty, (Builtin.append_ #[25, 3] ty #[.slice none 0 0, .int .i64 (k : Int)]).run Tryz.prog w =
    .ok (.slice (some ⟨w.heap.size, 0, none⟩) k (grownCap w k 0 3)) (w.drew.alloc (.cells (#[] ++ Builtin.zeroCells (Value.int .i64 0).cells k ++ Builtin.zeroCells (Value.int .i64 0).cells (grownCap w k 0 3 - k)) 3)) := fun ty => by
   have h := Lib.run_append_grow_zeros (P := Tryz.prog) w 25 3 ty 3 i (.int .i64 0) .i64 .i64 ht Tryz.underlying3 hi hz none 0 0 [] (run_firstCells_none w.drew i.size 0 0 0) k h0 (by rw [hsize]; exact hsz) (by omega) (by omega) (by rw [hby]; omega)
    (by rw [Nat.zero_add]; exact growslice_fits h0 (by rw [hby]; omega))
   simpa only [Nat.zero_add] using h
  have hGn : k ≤ grownCap w k 0 3 := grownCap_ge w _ _ _
  have hGm := grownCap_le_maxLen w k 0 3 (by unfold maxLen; omega)
  have hsz2 : (#[] ++ Builtin.zeroCells (Value.int .i64 0).cells k ++ Builtin.zeroCells (Value.int .i64 0).cells (grownCap w k 0 3 - k)).size = grownCap w k 0 3 * 1 := by
   simp only [Array.size_append, size_zeroCells]
   simp [Value.cells]
   omega
  generalize grownCap w k 0 3 = G at *
  generalize #[] ++ Builtin.zeroCells (Value.int .i64 0).cells k ++ Builtin.zeroCells (Value.int .i64 0).cells (G - k) = cs at *
  have hG0 : ¬ G = 0 := by omega
  have hk1 : (k : Int) > 0 := by omega
  have hm : maxLen = 9223372036854775807 := rfl
  have hb := ((Below.refl w.heap.size w).drew).alloc (Nat.le_refl _) (.cells cs 3)
  have ho : (w.drew.alloc (.cells cs 3)).ownsRow w.heap.size 3 1 (.slice (some ⟨w.heap.size, 0, none⟩) 0 G) 0 [] :=
   ⟨by simp, .inr ⟨w.heap.size, G, cs, rfl, Nat.le_refl _, heap_alloc_new w.drew _, Nat.zero_le _, hGm, hsz2, by simp⟩⟩
  go_enter Tryz.func121, Tryz.ntmps121
  go_wp2_with (at_builtin; refine Lib.wpList_append_run _ rfl _ _ _ _ rfl _ _ rfl rfl _ _ (hrz _) ?_)
  go_ret
  exact ⟨_, _, rfl, hb, ho⟩
theorem flat_succ {rs : List (List Int)} {i : Nat} (h : i < rs.length) : (rs.take (i + 1)).flatten = (rs.take i).flatten ++ rs[i] := by
 rw [List.take_succ_eq_append_getElem h, List.flatten_append]; simp
theorem flat_le (rs : List (List Int)) (i : Nat) : (rs.take i).flatten.length ≤ rs.flatten.length := by
 conv => rhs; rw [← List.take_append_drop i rs, List.flatten_append, List.length_append]
 omega
set_option maxHeartbeats 1000000 in
theorem concatO_any (C : Option Addr) (cap : Nat) (rs : List (List Int)) (w : World) (hrs : RowsAt w w.heap.size C rs) (h1 : rs.length ≤ 1000) (h2 : rs.flatten.length ≤ 100000) :
  Calls Tryz.prog 74 #[.slice C rs.length cap] w fun e w' => ∃ A c, e = .returned (.slice A rs.flatten.length c) ∧ Below w.heap.size w w' ∧ w'.ownsRow w.heap.size 3 1 (.slice A rs.flatten.length c) rs.flatten.length (intCells rs.flatten) := by
 go_enter Tryz.func74, Tryz.ntmps74
 go_wp2_with fail
 go_loopg [3, 11] rs.length (fun k s3 s11 wr => ∃ i : Nat, s11 = .int .i64 i ∧ i ≤ rs.length ∧ k = rs.length - i ∧ wr = w ∧ s3 = .int .i64 ((rs.take i).flatten.length : Nat))
 case atStart => exact ⟨0, rfl, Nat.zero_le _, rfl, rfl, rfl⟩
 case round =>
  obtain ⟨i, rfl, hi, hk, hwr, rfl⟩ := hrel
  have Hk := Lib.hid hk; clear hk
  have hfl := flat_le rs i
  by_cases hlt : i < rs.length
  ·have hlt' : (i : Int) < rs.length := by omega
   obtain ⟨b, off, rfl, hbb, hc⟩ := hrs (by omega)
   obtain ⟨Ai, ci, e0, _⟩ := hc i hlt
   have e0 : wr.cell? ⟨b, off + i, none⟩ = some (.slice Ai rs[i].length ci) := by rw [hwr]; exact e0
   have HL := Lib.hid (show ((rs.take (i + 1)).flatten.length : Int) = (rs.take i).flatten.length + rs[i].length by rw [flat_succ hlt, List.length_append]; omega)
   have hfl2 := flat_le rs (i + 1)
   rw [flat_succ hlt, List.length_append] at hfl2
   have Hwr := Lib.hid hwr
   clear hc hwr
   generalize (rs.take i).flatten.length = t at *
   generalize rs[i] = l at *
   go_wp2_with fail
   go_roundg (rs.length - (i + 1))
   case measure => rw [Hk.out]; omega
   case rel => exact ⟨i + 1, by go_num, by omega, rfl, Hwr.out, by rw [HL.out]⟩
  ·have hie : i = rs.length := by omega
   subst hie
   subst hwr
   rw [List.take_length]
   obtain ⟨t, ht⟩ : ∃ t, t = rs.flatten.length := ⟨_, rfl⟩
   rw [← ht]
   have ht2 : t ≤ 100000 := by omega
   have Ht := Lib.hid ht
   clear ht hfl h2
   have Hh2 := Lib.hid (show rs.flatten.length ≤ 100000 by rw [← Ht.out]; exact ht2)
   go_wp2_with fail
   refine (growNil_any t (by omega) wr).mono ?_
   rintro e w1 ⟨A1, c1, rfl, hb1, ho1⟩
   have Hrs := Lib.hid hrs
   clear hrs hlt hi
   obtain ⟨w, rfl⟩ : ∃ x, x = wr := ⟨_, rfl⟩
   go_wp2_with fail
   go_loopg [6, 27] rs.length (fun k s6 s27 wr => ∃ (i : Nat) (A : Option Addr) (c : Nat), s27 = .int .i64 i ∧ i ≤ rs.length ∧ k = rs.length - i ∧ s6 = .slice A (rs.take i).flatten.length c ∧ Below w.heap.size w wr ∧ wr.ownsRow w.heap.size 3 1 (.slice A (rs.take i).flatten.length c) (rs.take i).flatten.length (intCells (rs.take i).flatten))
   case atStart => exact ⟨0, A1, c1, rfl, Nat.zero_le _, rfl, rfl, hb1, ho1⟩
   case round =>
    clear hb1 ho1
    obtain ⟨i, A, c, rfl, hi, hk, rfl, hb, hown⟩ := hrel
    have Hk := Lib.hid hk; clear hk
    have hfl := Nat.le_trans (flat_le rs i) Hh2.out
    by_cases hlt : i < rs.length
    ·have hlt' : (i : Int) < rs.length := by omega
     obtain ⟨b, off, rfl, hbb, hc⟩ := Hrs.out (by omega)
     obtain ⟨Ai, ci, e0, hCi⟩ := hc i hlt
     have e0 := (hb.cell (p := ⟨b, off + i, none⟩) hbb).trans e0
     have hCi := hCi.below hb
     have HL := Lib.hid (flat_succ hlt)
     have hfl2 := Nat.le_trans (flat_le rs (i + 1)) Hh2.out
     rw [flat_succ hlt, List.length_append] at hfl2
     have hs := hb.size
     clear hc
     generalize (rs.take i).flatten = t at *
     generalize rs[i] = l at *
     go_wp2_with (at_builtin; refine wp_app_any elemInt rfl _ _ rfl rfl hown rfl hCi (show (intCells l).length = l.length * 1 by simp [intCells]) (intCells_one l) ?h2 ?h3 ?h4 ?_)
     case h2 => omega
     case h3 => omega
     case h4 => omega
     intro v' w' hown' hg' _
     have hb' := below_app hb hown hg' hs (Nat.le_refl _)
     obtain ⟨A', c', rfl⟩ := own_slice hown'
     clear hown hg' hb hCi
     go_wp2_with fail
     go_roundg (rs.length - (i + 1))
     case measure => rw [Hk.out]; omega
     case rel => exact ⟨i + 1, A', c', by go_num, by omega, rfl, by rw [HL.out, List.length_append], hb', by rw [HL.out, List.length_append]; simpa [intCells] using hown'⟩
    ·have hie : i = rs.length := by omega
     subst hie
     rw [List.take_length] at hown ⊢
     have HC := Lib.hid hown
     rw [← Ht.out]
     clear hown hfl
     go_wp2_with fail
     go_ret
     exact ⟨A, c, by rw [← Ht.out]; rfl, hb, HC.out⟩
theorem concat_any (C : Option Addr) (cap : Nat) (rs : List (List Int)) (w : World) (hrs : RowsAt w w.heap.size C rs) (h1 : rs.length ≤ 1000) (h2 : rs.flatten.length ≤ 100000) :
  Calls Tryz.prog 74 #[.slice C rs.length cap] w fun e w' => ∃ A c, e = .returned (.slice A rs.flatten.length c) ∧ Below w.heap.size w w' ∧ Cells w' w'.heap.size A (intCells rs.flatten) :=
 (concatO_any C cap rs w hrs h1 h2).mono fun _ _ ⟨A, c, e, hb, ho⟩ => ⟨A, c, e, hb, Cells.of_own ho⟩
end Go.Proofs.YtneeknlhlkpnpaaGreat
namespace Go.Proofs.YtneeknlhlkpnpaaGreat
open Go.RowKit
def rot (a : List Int) (i : Nat) : List Int := a.drop i ++ a.take i
theorem rot_length (a : List Int) (i : Nat) : (rot a i).length = a.length := by
 unfold rot; simp; omega
def turnedB (a b : List Int) : Bool := (List.range a.length).any (fun i => decide (rot a i = b)) || (decide (a.length = 0) && decide (b.length = 0))
theorem ints_take {w : World} {B : Nat} {A : Option Addr} {l : List Int} (k : Nat) (h : Cells w B A (intCells l)) : Cells w B A (intCells (l.take k)) := by
 intro hp
 have hp' : 0 < (intCells l).length := by simp [intCells] at hp ⊢; omega
 obtain ⟨b, off, he, hb, hc⟩ := h hp'
 refine ⟨b, off, he, hb, fun j u hu => hc j u ?_⟩
 have e : intCells (l.take k) = (intCells l).take k := by simp [intCells]
 rw [e, List.getElem?_take] at hu
 split at hu
 ·exact hu
 ·cases hu
theorem ints_drop {w : World} {B b off : Nat} {l : List Int} (k c : Nat) (hc : l.length ≤ c) (h : Cells w B (some ⟨b, off, none⟩) (intCells l)) :
  Cells w B (if c = k then some (⟨b, off, none⟩ : Addr) else some ⟨b, off + k, none⟩) (intCells (l.drop k)) := by
 intro hp
 have hk : c ≠ k := by
  intro e
  simp [intCells] at hp
  omega
 rw [if_neg hk]
 have e : intCells (l.drop k) = (intCells l).drop k := by simp [intCells]
 rw [e] at hp ⊢
 obtain ⟨b', off', he, hb, hcc⟩ := h (by simp at hp; omega)
 injection he with he
 injection he with h1 h2
 subst h1 h2
 refine ⟨_, _, rfl, hb, fun j u hu => ?_⟩
 rw [List.getElem?_drop] at hu
 have := hcc _ _ hu
 rw [Nat.add_assoc]
 exact this
theorem concat_rot (a : List Int) (k : Nat) (hk : k ≤ a.length) (A1 A2 : Option Addr) (c1 c2 : Nat) (W : World) (h1 : Cells W W.heap.size A1 (intCells (a.drop k))) (h2 : Cells W W.heap.size A2 (intCells (a.take k))) (hl : a.length ≤ 100000) :
  Calls Tryz.prog 74 #[.slice (some ⟨W.heap.size, 0, none⟩) 2 2] (W.alloc (.cells #[.slice A1 (a.length - k) c1, .slice A2 k c2] 25)).drew (fun e w' => ∃ A c, e = .returned (.slice A (rot a k).length c) ∧ Below W.heap.size W w' ∧ Cells w' w'.heap.size A (intCells (rot a k))) := by
 have hb := (Below.refl W.heap.size W).alloc (Nat.le_refl _) (.cells #[.slice A1 (a.length - k) c1, .slice A2 k c2] 25)
 have hs : W.heap.size ≤ (W.alloc (.cells #[.slice A1 (a.length - k) c1, .slice A2 k c2] 25)).heap.size := by simp
 have e1 : (a.drop k).length = a.length - k := by simp
 have e2 : (a.take k).length = k := by simp; omega
 have hR : RowsAt (W.alloc (.cells #[.slice A1 (a.length - k) c1, .slice A2 k c2] 25)) (W.alloc (.cells #[.slice A1 (a.length - k) c1, .slice A2 k c2] 25)).heap.size (some ⟨W.heap.size, 0, none⟩) [a.drop k, a.take k] := fun _ => by
  refine ⟨W.heap.size, 0, rfl, by simp, fun i hi => ?_⟩
  match i with
  | 0 => exact ⟨A1, c1, by rw [Nat.zero_add, World.cell?_alloc_new]; show _ = some (Value.slice A1 (a.drop k).length c1); rw [e1]; rfl, (h1.below hb).more hs⟩
  | 1 => exact ⟨A2, c2, by rw [Nat.zero_add, World.cell?_alloc_new]; show _ = some (Value.slice A2 (a.take k).length c2); rw [e2]; rfl, (h2.below hb).more hs⟩
  | i + 2 => exact absurd hi (by simp)
 have hf : ([a.drop k, a.take k] : List (List Int)).flatten = rot a k := by simp [rot]
 have h := concat_any (some ⟨W.heap.size, 0, none⟩) 2 [a.drop k, a.take k] (W.alloc (.cells #[.slice A1 (a.length - k) c1, .slice A2 k c2] 25)).drew hR (by simp) (by rw [hf, rot_length]; exact hl)
 rw [hf] at h
 refine h.mono ?_
 rintro e w' ⟨A, c, rfl, hb2, hC⟩
 exact ⟨A, c, rfl, hb.trans ((below_undrew hb2).mono hs), hC⟩
theorem turned_yes {a b : List Int} {i : Nat} (hi : i < a.length) (h : rot a i = b) : turnedB a b = true := by
 unfold turnedB
 rw [Bool.or_eq_true]
 exact .inl (List.any_eq_true.2 ⟨i, List.mem_range.2 hi, decide_eq_true h⟩)
theorem turned_no {a b : List Int} (h : ∀ j, j < a.length → rot a j ≠ b) : turnedB a b = (decide (a.length = 0) && decide (b.length = 0)) := by
 unfold turnedB
 have : ((List.range a.length).any fun i => decide (rot a i = b)) = false := by
  rw [List.any_eq_false]
  intro i hi
  simpa using h i (List.mem_range.1 hi)
 rw [this, Bool.false_or]
def RowsC (w : World) (B : Nat) (A : Option Addr) (rs : List (List Int)) : Prop :=
 0 < rs.length → ∃ b off, A = some ⟨b, off, none⟩ ∧ b < B ∧ ∀ i (h : i < rs.length), ∃ Ai ci, w.cell? ⟨b, off + i, none⟩ = some (.slice Ai rs[i].length ci) ∧ Cells w B Ai (intCells rs[i]) ∧ rs[i].length ≤ ci
section
variable {w w' : World} {B B' : Nat} {A : Option Addr} {rs : List (List Int)}
theorem RowsC.keep (h : RowsC w B A rs) (hk : ∀ p : Addr, p.block < B → w'.cell? p = w.cell? p) : RowsC w' B A rs := fun hn => by
 obtain ⟨b, off, e, hb, hc⟩ := h hn
 refine ⟨b, off, e, hb, fun i hi => ?_⟩
 obtain ⟨Ai, ci, h1, h2, h3⟩ := hc i hi
 exact ⟨Ai, ci, (hk _ (by exact hb)).trans h1, h2.keep hk, h3⟩
theorem RowsC.more (h : RowsC w B A rs) (hB : B ≤ B') : RowsC w B' A rs := fun hn => by
 obtain ⟨b, off, e, hb, hc⟩ := h hn
 refine ⟨b, off, e, by omega, fun i hi => ?_⟩
 obtain ⟨Ai, ci, h1, h2, h3⟩ := hc i hi
 exact ⟨Ai, ci, h1, h2.more hB, h3⟩
theorem RowsC.below (h : RowsC w B A rs) (hb : Below B w w') : RowsC w' B A rs := h.keep fun _ hp => hb.cell hp
theorem RowsC.at_ (h : RowsC w B A rs) : RowsAt w B A rs := fun hn => by
 obtain ⟨b, off, e, hb, hc⟩ := h hn
 refine ⟨b, off, e, hb, fun i hi => ?_⟩
 obtain ⟨Ai, ci, h1, h2, _⟩ := hc i hi
 exact ⟨Ai, ci, h1, h2⟩
end
def sameB (xs ys : List (List Int)) : Bool := decide (xs.length = ys.length) && (List.range xs.length).all fun i => turnedB (xs.getD i []) (ys.getD i [])
theorem getD_row {rs : List (List Int)} {i : Nat} (h : i < rs.length) : rs.getD i [] = rs[i] := by rw [List.getD_eq_getElem?_getD, List.getElem?_eq_getElem h]; rfl
theorem same_no {xs ys : List (List Int)} {i : Nat} (hi : i < xs.length) (hj : i < ys.length) (h : turnedB xs[i] ys[i] = false) : sameB xs ys = false := by
 unfold sameB
 have : ((List.range xs.length).all fun i => turnedB (xs.getD i []) (ys.getD i [])) = false := by
  rw [List.all_eq_false]
  exact ⟨i, List.mem_range.2 hi, by rw [getD_row hi, getD_row hj, h]; simp⟩
 rw [this, Bool.and_false]
end Go.Proofs.YtneeknlhlkpnpaaGreat
namespace Go.Proofs.YtneeknlhlkpnpaaGreat
open Go.RowKit
def ot (h : Nat) : Nat := if h % 2 = 0 then h + 1 else h - 1
theorem xor_one (h : Nat) : h ^^^ 1 = ot h := by
 have h1 : (h ^^^ 1) / 2 = h / 2 := by rw [Nat.xor_div_two]; simp
 have h2 : (h ^^^ 1).testBit 0 = (h.testBit 0 ^^ true) := by rw [Nat.testBit_xor]; rfl
 rw [Nat.testBit_zero, Nat.testBit_zero] at h2
 unfold ot
 split
 ·rename_i h3
  have : (h ^^^ 1) % 2 = 1 := by rw [h3] at h2; simpa using h2
  omega
 ·rename_i h3
  have : h % 2 = 1 := by omega
  rw [this] at h2
  have : ¬ (h ^^^ 1) % 2 = 1 := by simpa using h2
  omega
theorem ot_lt {h m : Nat} (hh : h < 2 * m) : ot h < 2 * m := by unfold ot; split <;> omega
theorem ot_ot (h : Nat) : ot (ot h) = h := by unfold ot; split <;> split <;> omega
theorem bits_xor1 {h : Nat} (hh : h < 4611686018427387904) : bits .xor .i64 (h : Int) 1 = ((ot h : Nat) : Int) := by
 have h1 : (BitVec.ofInt 64 (h : Int)).toNat = h := by
  rw [BitVec.ofInt_natCast, BitVec.toNat_ofNat]; exact Nat.mod_eq_of_lt (by omega)
 have h2 : (BitVec.ofInt 64 (1 : Int)).toNat = 1 := by decide
 show IntKind.i64.wrap ((BitVec.ofInt 64 (h : Int) ^^^ BitVec.ofInt 64 (1 : Int)).toNat : Int) = _
 rw [BitVec.toNat_xor, h1, h2, xor_one, IntKind.wrap_i64]
 have : ot h ≤ h + 1 := by unfold ot; split <;> omega
 omega
def nStep (l : List Int) (o : List Int) (i : Nat) : List Int := o.set (ot (l.getD i 0).toNat) (l.getD ((i + 1) % l.length) 0)
def nRow (l : List Int) (o : List Int) (k : Nat) : List Int := (List.range k).foldl (nStep l) o
def nAll (m : Nat) (rs : List (List Int)) (k : Nat) : List Int := (List.range k).foldl (fun o x => nRow (rs.getD x []) o (rs.getD x []).length) (List.replicate (2 * m) 0)
def nextsL (m : Nat) (rs : List (List Int)) : List Int := nAll m rs rs.length
theorem nRow_succ (l o : List Int) (k : Nat) : nRow l o (k + 1) = nStep l (nRow l o k) k := by
 unfold nRow; rw [List.range_succ, List.foldl_append]; rfl
theorem nAll_succ (m : Nat) (rs : List (List Int)) (k : Nat) : nAll m rs (k + 1) = nRow (rs.getD k []) (nAll m rs k) (rs.getD k []).length := by
 unfold nAll; rw [List.range_succ, List.foldl_append]; rfl
theorem nRow_length (l o : List Int) (k : Nat) : (nRow l o k).length = o.length := by
 induction k with
 | zero => rfl
 | succ k ih => rw [nRow_succ]; unfold nStep; rw [List.length_set, ih]
theorem nAll_length (m : Nat) (rs : List (List Int)) (k : Nat) : (nAll m rs k).length = 2 * m := by
 induction k with
 | zero => simp [nAll]
 | succ k ih => rw [nAll_succ, nRow_length, ih]
theorem Blk.setInt {w : World} {g : Nat} {t : TypeId} {l : List Int} (h : Blk w g t (intCells l).toArray) (k : Nat) (b : Int) : Blk (w.setCell ⟨g, k, none⟩ (.int .i64 b)) g t (intCells (l.set k b)).toArray := by
 have := h.set_ k (.int .i64 b)
 simpa [intCells, List.map_set] using this
theorem Blk.int_ {w : World} {g : Nat} {t : TypeId} {l : List Int} (h : Blk w g t (intCells l).toArray) {k : Nat} (hk : k < l.length) : w.cell? ⟨g, k, none⟩ = some (.int .i64 (l.getD k 0)) := by
 rw [h.cell k]; simp [intCells, hk]
theorem intCells_replicate (n : Nat) : List.replicate n (Value.int .i64 0) = intCells (List.replicate n 0) := by simp [intCells]
set_option maxHeartbeats 2000000 in
theorem nexts_any (n : Int) (A C : Option Addr) (cap ccap : Nat) (es : List (Int × Int)) (rs : List (List Int)) (w : World) (hrs : RowsAt w w.heap.size C rs) (he : es.length ≤ 1000) (hr1 : rs.length ≤ 1000) (hr2 : ∀ l ∈ rs, l.length ≤ 1000)
  (hin : ∀ l ∈ rs, ∀ h ∈ l, 0 ≤ h ∧ h < 2 * es.length) :
  Calls Tryz.prog 107 #[.agg #[.int .i64 n, .slice A es.length cap], .slice C rs.length ccap] w
   (fun e w' => ∃ g, e = .returned (.slice (some ⟨g, 0, none⟩) (2 * es.length) (2 * es.length)) ∧ Below w.heap.size w w' ∧ w.heap.size ≤ g ∧ Blk w' g 3 (intCells (nextsL es.length rs)).toArray) := by
 have hmk : ∀ W, (Instr.makeSlice 25 (.int .i64 (2 * (es.length : Int))) (.int .i64 (2 * (es.length : Int)))).run Tryz.prog W = .ok (.slice (some ⟨W.heap.size, 0, none⟩) (2 * es.length) (2 * es.length)) (W.alloc (.cells (List.replicate (2 * es.length) (Value.int .i64 0)).toArray 3)) := fun W => by
  have := run_make1 elemInt rfl (2 * es.length) (by omega) (by omega) W
  rw [show ((2 * es.length : Nat) : Int) = 2 * (es.length : Int) by omega] at this
  exact this
 have Hin := Lib.hid hin; clear hin
 go_enter Tryz.func107, Tryz.ntmps107
 go_wp2_with fail
 have hb1 := (Below.refl w.heap.size w).alloc (Nat.le_refl _) (.cells #[.int .i64 n, .slice A es.length cap] 24)
 have s1 := World.size_alloc w (.cells #[.int .i64 n, .slice A es.length cap] 24)
 generalize w.alloc (.cells #[.int .i64 n, .slice A es.length cap] 24) = w1 at *
 have g0 : Blk (w1.alloc (.cells (Array.replicate (2 * es.length) (Value.int .i64 0)) 3)) w1.heap.size 3 (intCells (List.replicate (2 * es.length) 0)).toArray := by
  have := Blk.new w1 3 (Array.replicate (2 * es.length) (Value.int .i64 0))
  rw [← intCells_replicate]
  simpa using this
 have hb2 := hb1.alloc (by omega) (.cells (Array.replicate (2 * es.length) (Value.int .i64 0)) 3)
 generalize w1.alloc (.cells (Array.replicate (2 * es.length) (Value.int .i64 0)) 3) = w2 at *
 rw [s1] at g0
 clear hb1 s1
 go_loopg [17] rs.length (fun k s17 wr => ∃ x : Nat, s17 = .int .i64 x ∧ x ≤ rs.length ∧ k = rs.length - x ∧ Below w.heap.size w wr ∧ Blk wr (w.heap.size + 1) 3 (intCells (nAll es.length rs x)).toArray)
 case atStart => exact ⟨0, rfl, Nat.zero_le _, rfl, hb2, g0⟩
 case round =>
  clear hb2 g0 hmk
  obtain ⟨x, rfl, hx, hk, hb, hbl⟩ := hrel
  have Hk := Lib.hid hk; clear hk
  by_cases hlt : x < rs.length
  ·have hlt' : (x : Int) < rs.length := by omega
   obtain ⟨b, off, rfl, hbb, hrow⟩ := hrs (by omega)
   obtain ⟨Ai, ci, hcell, hCi⟩ := hrow x hlt
   have e0 := (hb.cell (p := ⟨b, off + x, none⟩) hbb).trans hcell
   have hll : rs[x].length ≤ 1000 := hr2 _ (List.getElem_mem hlt)
   have HL := Lib.hid (show rs.getD x [] = rs[x] by rw [List.getD_eq_getElem?_getD, List.getElem?_eq_getElem hlt]; rfl)
   have HI := Lib.hid (Hin.out _ (List.getElem_mem hlt))
   have HA := Lib.hid (nAll_succ es.length rs x)
   rw [HL.out] at HA
   clear hrow hcell HL
   have hol := nAll_length es.length rs x
   generalize nAll es.length rs x = o at *
   generalize rs[x] = l at *
   go_wp2_with fail
   go_loopg [23] l.length (fun k s23 wr => ∃ i : Nat, s23 = .int .i64 i ∧ i ≤ l.length ∧ k = l.length - i ∧ Below w.heap.size w wr ∧ Blk wr (w.heap.size + 1) 3 (intCells (nRow l o i)).toArray)
   case atStart => exact ⟨0, rfl, Nat.zero_le _, rfl, hb, hbl⟩
   case round =>
    clear hb hbl e0
    obtain ⟨i, rfl, hi, hk, hb, hbl⟩ := hrel
    have Hk2 := Lib.hid hk; clear hk
    have Hol := Lib.hid ((nRow_length l o i).trans hol)
    by_cases hlt2 : i < l.length
    ·have hlt2' : (i : Int) < l.length := by omega
     obtain ⟨bi, offi, rfl, hbi, hci⟩ := hCi.ints (by omega)
     have f0 := (hb.cell (p := ⟨bi, offi + i, none⟩) hbi).trans (hci i hlt2)
     have hj : (i + 1) % l.length < l.length := Nat.mod_lt _ (by omega)
     have f1 := (hb.cell (p := ⟨bi, offi + (i + 1) % l.length, none⟩) hbi).trans (hci ((i + 1) % l.length) hj)
     have hm : Int.tmod ((i : Int) + 1) l.length = (((i + 1) % l.length : Nat) : Int) := by rw [Int.tmod_eq_emod_of_nonneg (by omega)]; simp
     have hl0 : ¬ ((l.length : Int) = 0) := by omega
     obtain ⟨q0, q1⟩ := HI.out _ (List.getElem_mem hlt2)
     have HS := Lib.hid (show nRow l o (i + 1) = (nRow l o i).set (ot l[i].toNat) l[(i + 1) % l.length] by
      rw [nRow_succ]; unfold nStep
      rw [List.getD_eq_getElem?_getD, List.getElem?_eq_getElem hlt2, List.getD_eq_getElem?_getD, List.getElem?_eq_getElem hj]; rfl)
     clear hci
     generalize l[(i + 1) % l.length] = v at *
     generalize l[i] = h at *
     obtain ⟨h, rfl⟩ := Int.eq_ofNat_of_zero_le q0
     rw [show ((h : Nat) : Int).toNat = h from rfl] at HS
     have hxx := bits_xor1 (h := h) (by omega)
     have hot : ot h < 2 * es.length := ot_lt (by omega)
     have hot' : ((ot h : Nat) : Int) < 2 * (es.length : Int) := by omega
     have hj' : (((i + 1) % l.length : Nat) : Int) < l.length := by omega
     generalize (i + 1) % l.length = jj at *
     generalize ot h = oh at *
     have d0 := hbl.int_ (k := oh) (by rw [Hol.out]; exact hot)
     have fz := hbl.frozen oh
     have S1 := hbl.setInt oh v
     have hb7 := hb.setCell (p := ⟨w.heap.size + 1, oh, none⟩) (by simp) (.int .i64 v)
     clear hbl
     go_wp2_with fail
     go_roundg (l.length - (i + 1))
     case measure => rw [Hk2.out]; omega
     case rel => exact ⟨i + 1, by go_num, by omega, rfl, hb7, by rw [HS.out]; exact S1⟩
    ·have hie : i = l.length := by omega
     subst hie
     go_wp2_with fail
     go_roundg (rs.length - (x + 1))
     case measure => rw [Hk.out]; omega
     case rel => exact ⟨x + 1, by go_num, by omega, rfl, hb, by rw [HA.out]; exact hbl⟩
  ·have hxe : x = rs.length := by omega
   subst hxe
   go_wp2_with fail
   go_ret
   exact ⟨w.heap.size + 1, rfl, hb, by omega, hbl⟩
end Go.Proofs.YtneeknlhlkpnpaaGreat
namespace Go.Proofs.YtneeknlhlkpnpaaGreat
open Go.RowKit
def fWalk (nx : List Int) : Nat → List Bool → Nat → List Int → List Bool × List Int
 | 0, seen, _, face => (seen, face)
 | f + 1, seen, h, face => if seen.getD h false = true then (seen, face) else fWalk nx f (seen.set h true) (nx.getD h 0).toNat (face ++ [(h : Int)])
def fStep (nx : List Int) (st : List Bool × List (List Int)) (first : Nat) : List Bool × List (List Int) :=
 let r := fWalk nx (nx.length + 1) st.1 first []
 (r.1, if 0 < r.2.length then st.2 ++ [r.2] else st.2)
def fAll (nx : List Int) (k : Nat) : List Bool × List (List Int) := (List.range k).foldl (fStep nx) (List.replicate nx.length false, [])
def facesL (nx : List Int) : List (List Int) := (fAll nx nx.length).2
def facesOf (n : Int) (es : List (Int × Int)) (rs : List (List Int)) : List (List Int) := if rightB n es rs = true then facesL (nextsL es.length rs) else []
theorem fAll_succ (nx : List Int) (k : Nat) : fAll nx (k + 1) = fStep nx (fAll nx k) k := by
 unfold fAll; rw [List.range_succ, List.foldl_append]; rfl
theorem fWalk_seen {nx : List Int} : ∀ (f : Nat) (seen : List Bool) (h : Nat) (face : List Int), (fWalk nx f seen h face).1.length = seen.length
 | 0, _, _, _ => rfl
 | f + 1, seen, h, face => by
  unfold fWalk
  split
  ·rfl
  ·rw [fWalk_seen f]; simp
theorem fAll_seen (nx : List Int) (k : Nat) : (fAll nx k).1.length = nx.length := by
 induction k with
 | zero => simp [fAll]
 | succ k ih => rw [fAll_succ]; unfold fStep; simp only [fWalk_seen, ih]
theorem rRow_len {es : List (Int × Int)} {x : Nat} : ∀ (l : List Int) (s s' : List Bool), rRow es x (some s) l = some s' → s'.length = s.length
 | [], s, s', h => by injection h with h; rw [h]
 | a :: r, s, s', h => by
  have h' : rRow es x (rStep es x (some s) a) r = some s' := h
  cases hq : rStep es x (some s) a with
  | none => rw [hq, rRow_none] at h'; cases h'
  | some t => rw [hq] at h'; rw [rRow_len r t s' h', rStep_len hq]
theorem rAll_len {es : List (Int × Int)} {rs : List (List Int)} {k : Nat} {s : List Bool} (h : rAll es rs k = some s) : s.length = 2 * es.length := by
 induction k generalizing s with
 | zero => injection h with h; rw [← h]; simp
 | succ k ih =>
  rw [rAll_succ] at h
  cases hq : rAll es rs k with
  | none => rw [hq, rRow_none] at h; cases h
  | some t => rw [hq] at h; rw [rRow_len _ _ _ h, ih hq]
theorem right_in {n : Int} {es : List (Int × Int)} {rs : List (List Int)} (h : rightB n es rs = true) : ∀ l ∈ rs, ∀ a ∈ l, 0 ≤ a ∧ a < 2 * es.length := by
 intro l hl a ha
 obtain ⟨x, hx, rfl⟩ := List.mem_iff_getElem.1 hl
 obtain ⟨i, hi, rfl⟩ := List.mem_iff_getElem.1 ha
 have h1 : rRow es x (rAll es rs x) (rs[x].take (i + 1)) ≠ none := fun e => by rw [right_dead hx e] at h; cases h
 rw [rRow_take hi] at h1
 cases hq : rRow es x (rAll es rs x) (rs[x].take i) with
 | none => rw [hq] at h1; exact absurd rfl h1
 | some s =>
  have hs : s.length = 2 * es.length := by
   cases hq2 : rAll es rs x with
   | none => rw [hq2, rRow_none] at hq; cases hq
   | some t => rw [hq2] at hq; rw [rRow_len _ _ _ hq, rAll_len hq2]
  rw [hq] at h1
  unfold rStep at h1
  simp only at h1
  split at h1
  ·exact absurd rfl h1
  ·rename_i h2
   rw [hs] at h2
   omega
theorem right_may {n : Int} {es : List (Int × Int)} {rs : List (List Int)} (h : rightB n es rs = true) : mayB n es = true := by
 unfold rightB at h
 simp only [Bool.and_eq_true] at h
 exact h.1.1
theorem set_in {P : Int → Prop} {o : List Int} {k : Nat} {v : Int} (h : ∀ a ∈ o, P a) (hv : P v) : ∀ a ∈ o.set k v, P a := fun a ha => by
 rcases List.mem_or_eq_of_mem_set ha with h1 | h1
 ·exact h a h1
 ·rw [h1]; exact hv
theorem nextsL_in {m : Nat} {rs : List (List Int)} (hm : 0 < m) (hin : ∀ l ∈ rs, ∀ a ∈ l, 0 ≤ a ∧ a < 2 * (m : Int)) : ∀ a ∈ nextsL m rs, 0 ≤ a ∧ a < 2 * (m : Int) := by
 unfold nextsL
 suffices ∀ k, k ≤ rs.length → ∀ a ∈ nAll m rs k, 0 ≤ a ∧ a < 2 * (m : Int) from this _ (Nat.le_refl _)
 intro k
 induction k with
 | zero =>
  intro _ a ha
  have := List.eq_of_mem_replicate (show a ∈ List.replicate (2 * m) 0 from ha)
  omega
 | succ k ih =>
  intro hk
  have ih := ih (by omega)
  rw [nAll_succ, List.getD_eq_getElem?_getD, List.getElem?_eq_getElem (show k < rs.length by omega)]
  show ∀ a ∈ nRow rs[k] (nAll m rs k) rs[k].length, _
  have hl := hin _ (List.getElem_mem (show k < rs.length by omega))
  generalize rs[k] = l at *
  suffices ∀ i, i ≤ l.length → ∀ a ∈ nRow l (nAll m rs k) i, 0 ≤ a ∧ a < 2 * (m : Int) from this _ (Nat.le_refl _)
  intro i
  induction i with
  | zero => exact fun _ => ih
  | succ i ih2 =>
   intro hi
   rw [nRow_succ]
   refine set_in (ih2 (by omega)) ?_
   have hj : (i + 1) % l.length < l.length := Nat.mod_lt _ (by omega)
   rw [List.getD_eq_getElem?_getD, List.getElem?_eq_getElem hj]
   exact hl _ (List.getElem_mem hj)
theorem nextsL_at {m k : Nat} {rs : List (List Int)} (hk : k < 2 * m) (hin : ∀ l ∈ rs, ∀ a ∈ l, 0 ≤ a ∧ a < 2 * (m : Int)) : ∃ v : Nat, (nextsL m rs).getD k 0 = (v : Int) ∧ v < 2 * m := by
 have hl : k < (nextsL m rs).length := by unfold nextsL; rw [nAll_length]; exact hk
 rw [List.getD_eq_getElem?_getD, List.getElem?_eq_getElem hl]
 obtain ⟨h1, h2⟩ := nextsL_in (by omega) hin _ (List.getElem_mem hl)
 exact ⟨((nextsL m rs)[k]).toNat, by show (nextsL m rs)[k] = _; omega, by omega⟩
def FacesOwn (w : World) (b0 : Nat) (v : Value) (F : List (List Int)) : Prop :=
 ∃ sl : List Value, w.ownsRow b0 25 1 v F.length sl ∧ ∀ i (h : i < F.length), ∃ Ai ci, sl[i]? = some (.slice Ai F[i].length ci) ∧ w.ownsRow b0 3 1 (.slice Ai F[i].length ci) F[i].length (intCells F[i])
theorem own_other {w : World} {base size n gs : Nat} {e t : TypeId} {v : Value} {xs : List Value} {cs : Array Value} (h : w.ownsRow base e size v n xs) (hb : Blk w gs t cs) (ht : e ≠ t) : v.ownBlock = none ∨ v.ownBlock ≠ some gs := by
 rcases h.2 with ⟨rfl, _⟩ | ⟨k, cap, cur, rfl, _, hh, _⟩
 ·exact .inl rfl
 ·refine .inr fun e1 => ?_
  simp [Value.ownBlock] at e1
  subst e1
  unfold Blk at hb
  rw [hh] at hb
  injection hb with hb
  injection hb with _ hb
  exact ht hb
theorem own_grown {w w' : World} {base size n gs : Nat} {e t : TypeId} {v : Value} {xs : List Value} {cs : Array Value} (h : w.ownsRow base e size v n xs) (hb : Blk w gs t cs) (ht : e ≠ t) (hg : w.grownBy w' (some gs)) : w'.ownsRow base e size v n xs :=
 h.kept hg (own_other h hb ht)
theorem only_app {a w w' : World} {gs : Nat} {row : Option Nat} (h : a.grownBy w (some gs)) (hg : w.grownBy w' row) (hr : ∀ k, row = some k → a.heap.size ≤ k) : a.grownBy w' (some gs) :=
 ⟨hg.os.trans h.os, hg.tape.trans h.tape, hg.output.trans h.output, Nat.le_trans h.size hg.size, fun i hi hne => (hg.block i (Nat.lt_of_lt_of_le hi h.size) (fun e => by have := hr i e.symm; omega)).trans (h.block i hi hne)⟩
theorem FacesOwn.grown {w w' : World} {b0 gs : Nat} {v : Value} {F : List (List Int)} {cs : Array Value} (h : FacesOwn w b0 v F) (hb : Blk w gs 4 cs) (hg : w.grownBy w' (some gs)) : FacesOwn w' b0 v F := by
 obtain ⟨sl, h1, h2⟩ := h
 refine ⟨sl, own_grown h1 hb (by decide) hg, fun i hi => ?_⟩
 obtain ⟨Ai, ci, h3, h4⟩ := h2 i hi
 exact ⟨Ai, ci, h3, own_grown h4 hb (by decide) hg⟩
theorem FacesOwn.push {w w' : World} {b0 : Nat} {v v' : Value} {F : List (List Int)} {sl : List Value} {f : List Int} {A : Option Addr} {c : Nat} (ho : w.ownsRow b0 25 1 v F.length sl)
  (h2 : ∀ i (h : i < F.length), ∃ Ai ci, sl[i]? = some (.slice Ai F[i].length ci) ∧ w.ownsRow b0 3 1 (.slice Ai F[i].length ci) F[i].length (intCells F[i])) (hf : w.ownsRow b0 3 1 (.slice A f.length c) f.length (intCells f))
  (hg : w.grownBy w' v.ownBlock) (h' : w'.ownsRow b0 25 1 v' (F.length + 1) (sl ++ [.slice A f.length c])) : FacesOwn w' b0 v' (F ++ [f]) := by
 have hev : Evo b0 [25] w w' := Evo.of_grown ho hg (by simp) (Nat.le_refl _)
 have hsl : sl.length = F.length := by have := ho.1; omega
 refine ⟨_, by simpa using h', fun i hi => ?_⟩
 by_cases hlt : i < F.length
 ·obtain ⟨Ai, ci, h3, h4⟩ := h2 i hlt
  rw [List.getElem_append_left hlt]
  exact ⟨Ai, ci, by rw [List.getElem?_append_left (by omega)]; exact h3, own_evo h4 hev (by decide)⟩
 ·have hie : i = F.length := by simp at hi; omega
  subst hie
  simp only [List.getElem_concat_length]
  exact ⟨A, c, by rw [List.getElem?_append_right (by omega), hsl]; simp, own_evo hf hev (by decide)⟩
end Go.Proofs.YtneeknlhlkpnpaaGreat
namespace Go.Proofs.YtneeknlhlkpnpaaGreat
open Go.RowKit
theorem fWalk_stop {nx : List Int} {f : Nat} {seen : List Bool} {h : Nat} {face : List Int} (hs : seen.getD h false = true) : fWalk nx f seen h face = (seen, face) := by
 cases f with
 | zero => rfl
 | succ f => unfold fWalk; rw [if_pos hs]
theorem fWalk_go {nx : List Int} {f : Nat} {seen : List Bool} {h : Nat} {face : List Int} (hs : seen.getD h false = false) : fWalk nx (f + 1) seen h face = fWalk nx f (seen.set h true) (nx.getD h 0).toNat (face ++ [(h : Int)]) := by
 conv => lhs; unfold fWalk
 rw [if_neg (by rw [hs]; simp)]
theorem count_set {seen : List Bool} {h : Nat} (hh : h < seen.length) (hs : seen.getD h false = false) : (seen.set h true).count false + 1 = seen.count false := by
 rw [List.count_set hh]
 have e1 : seen[h] = false := by rw [List.getD_eq_getElem?_getD, List.getElem?_eq_getElem hh] at hs; exact hs
 have : 0 < seen.count false := List.count_pos_iff.2 (by rw [← e1]; exact List.getElem_mem hh)
 simp [e1]
 omega
def RowsHi (w : World) (base : Nat) (A : Option Addr) (rs : List (List Int)) : Prop :=
 0 < rs.length → ∃ b off, A = some ⟨b, off, none⟩ ∧ base ≤ b ∧ b < w.heap.size ∧ ∀ i (h : i < rs.length), ∃ Ai ci, w.cell? ⟨b, off + i, none⟩ = some (.slice Ai rs[i].length ci) ∧
  (0 < rs[i].length → ∃ bi oi, Ai = some ⟨bi, oi, none⟩ ∧ base ≤ bi ∧ bi < w.heap.size ∧ ∀ j (hj : j < rs[i].length), w.cell? ⟨bi, oi + j, none⟩ = some (.int .i64 rs[i][j]))
theorem RowsHi.at_ {w : World} {base : Nat} {A : Option Addr} {rs : List (List Int)} (h : RowsHi w base A rs) : RowsAt w w.heap.size A rs := fun hn => by
 obtain ⟨b, off, e, h1, h2, hc⟩ := h hn
 refine ⟨b, off, e, h2, fun i hi => ?_⟩
 obtain ⟨Ai, ci, h3, h4⟩ := hc i hi
 refine ⟨Ai, ci, h3, fun hp => ?_⟩
 obtain ⟨bi, oi, e2, h5, h6, h7⟩ := h4 (by simpa [intCells] using hp)
 refine ⟨bi, oi, e2, h6, fun j u hu => ?_⟩
 simp only [intCells, List.getElem?_map, Option.map_eq_some_iff] at hu
 obtain ⟨z, hz, rfl⟩ := hu
 obtain ⟨hj, rfl⟩ := List.getElem?_eq_some_iff.1 hz
 exact h7 j hj
theorem FacesOwn.hi {w : World} {b0 : Nat} {v : Value} {F : List (List Int)} (h : FacesOwn w b0 v F) : ∃ A c, v = .slice A F.length c ∧ RowsHi w b0 A F := by
 obtain ⟨sl, h1, h2⟩ := h
 obtain ⟨A, c, rfl⟩ := own_slice h1
 refine ⟨A, c, rfl, fun hn => ?_⟩
 have hsl : sl.length = F.length := by have := h1.1; omega
 obtain ⟨g, cap, R, he, hg, hk, _⟩ := own_blk h1 hn
 injection he with he
 subst he
 refine ⟨g, 0, rfl, hg, hk.lt, fun i hi => ?_⟩
 obtain ⟨Ai, ci, h3, h4⟩ := h2 i hi
 refine ⟨Ai, ci, ?_, fun hp => ?_⟩
 ·rw [Nat.zero_add, hk.cell i, Array.getElem?_append_left (by simp; omega)]
  simpa using h3
 ·obtain ⟨gi, capi, Ri, hei, hgi, hki, _⟩ := own_blk h4 hp
  injection hei with hei
  subst hei
  refine ⟨gi, 0, rfl, hgi, hki.lt, fun j hj => ?_⟩
  rw [Nat.zero_add, hki.cell j, Array.getElem?_append_left (by simpa [intCells] using hj)]
  simp [intCells, hj]
def FacesPost2 (F : List (List Int)) (w : World) (e : Ending) (w' : World) : Prop := ∃ A c, e = .returned (.slice A F.length c) ∧ Below w.heap.size w w' ∧ RowsHi w' w.heap.size A F
def FacesPost (F : List (List Int)) (w : World) (e : Ending) (w' : World) : Prop := ∃ A c, e = .returned (.slice A F.length c) ∧ Below w.heap.size w w' ∧ RowsAt w' w'.heap.size A F
set_option maxHeartbeats 4000000 in
theorem faces2_any (n : Int) (A C : Option Addr) (cap ccap : Nat) (es : List (Int × Int)) (rs : List (List Int)) (w : World) (hes : Cells w w.heap.size A (edgeCells es)) (hrs : RowsAt w w.heap.size C rs) (hr1 : rs.length ≤ 1000) (hr2 : ∀ l ∈ rs, l.length ≤ 1000) :
  Calls Tryz.prog 50 #[.agg #[.int .i64 n, .slice A es.length cap], .slice C rs.length ccap] w (FacesPost2 (facesOf n es rs) w) := by
 go_enter Tryz.func50, Tryz.ntmps50
 go_wp2_with fail
 have b0 := World.cell?_alloc_new w #[.int .i64 n, .slice A es.length cap] 24 0
 have b1 := World.cell?_alloc_new w #[.int .i64 n, .slice A es.length cap] 24 1
 simp only [List.getElem?_toArray, List.getElem?_cons_zero, List.getElem?_cons_succ] at b0 b1
 have hbw := (Below.refl w.heap.size w).alloc (Nat.le_refl _) (.cells #[.int .i64 n, .slice A es.length cap] 24)
 have s1 := World.size_alloc w (.cells #[.int .i64 n, .slice A es.length cap] 24)
 generalize w.alloc (.cells #[.int .i64 n, .slice A es.length cap] 24) = w1 at *
 refine (right_any n A C cap ccap es rs w1 ((hes.below hbw).more (by omega)) ((hrs.below hbw).more (by omega)) hr1 hr2).mono ?_
 rintro e w2 ⟨rfl, hb2⟩
 have c0 := (hb2.cell (p := ⟨w.heap.size, 0, none⟩) (by simp; omega)).trans b0
 have c1 := (hb2.cell (p := ⟨w.heap.size, 1, none⟩) (by simp; omega)).trans b1
 have hb3 := hbw.trans (hb2.mono (by omega))
 have l2 : w.heap.size < w2.heap.size := by have := hb2.size; omega
 clear b0 b1 hb2 hbw s1
 cases hm : rightB n es rs with
 | false =>
  have HF := Lib.hid (show facesOf n es rs = [] by unfold facesOf; rw [hm]; rfl)
  clear hm
  go_wp2_with fail
  go_ret
  exact ⟨none, 0, by rw [HF.out]; rfl, hb3, by rw [HF.out]; exact fun h => absurd h (by simp)⟩
 | true =>
  have HF := Lib.hid (show facesOf n es rs = facesL (nextsL es.length rs) by unfold facesOf; rw [hm]; rfl)
  have Hin := Lib.hid (right_in hm)
  obtain ⟨hn0, hn1, hn2⟩ := may_parts (right_may hm)
  clear hm
  have hnl : (nextsL es.length rs).length = 2 * es.length := nAll_length _ _ _
  have Hat := Lib.hid (fun (k : Nat) (hk : k < 2 * es.length) => nextsL_at (rs := rs) hk Hin.out)
  go_wp2_with fail
  refine (nexts_any n A C cap ccap es rs w2 ((hrs.below hb3).more (by omega)) (by omega) hr1 hr2 Hin.out).mono ?_
  rintro e w3 ⟨gn, rfl, hb4, hgn, hbn⟩
  have hb5 := hb3.trans (hb4.mono (by omega))
  have hgn3 := hbn.lt
  clear c0 c1 hb3 hb4 hes hrs
  generalize nextsL es.length rs = nx at *
  generalize hN : es.length = m at *
  have hmk : ∀ W, (Instr.makeSlice 113 (.int .i64 ((2 * m : Nat) : Int)) (.int .i64 ((2 * m : Nat) : Int))).run Tryz.prog W = .ok (.slice (some ⟨W.heap.size, 0, none⟩) (2 * m : Nat) (2 * m : Nat)) (W.alloc (.cells (List.replicate (2 * m) (Value.bool false)).toArray 4)) := fun W =>
   run_make1 elemBool rfl (2 * m) (by omega) (by omega) W
  have hNb : 2 * m ≤ 256 := by omega
  generalize 2 * m = N at *
  go_wp2_with fail
  have g0 : Blk (w3.alloc (.cells (Array.replicate N (Value.bool false)) 4)) w3.heap.size 4 (boolCells (fAll nx 0).1).toArray := by
   have := Blk.new w3 4 (Array.replicate N (Value.bool false))
   show Blk _ _ _ (boolCells (List.replicate nx.length false)).toArray
   rw [hnl, ← boolCells_replicate]
   simpa using this
  have hb6 := hb5.alloc hb5.size (.cells (Array.replicate N (Value.bool false)) 4)
  have hbn6 := hbn.alloc (.cells (Array.replicate N (Value.bool false)) 4)
  have lw3 : w.heap.size < w3.heap.size := by omega
  generalize w3.alloc (.cells (Array.replicate N (Value.bool false)) 4) = w4 at *
  generalize w3.heap.size = gs at *
  clear hb5 hbn hmk hN hn0 hn1 hn2
  go_loopg [4, 22] N (fun k s4 s22 wr => ∃ i : Nat, s22 = .int .i64 i ∧ i ≤ N ∧ k = N - i ∧ Below w.heap.size w wr ∧ Blk wr gn 3 (intCells nx).toArray ∧ Blk wr gs 4 (boolCells (fAll nx i).1).toArray ∧ FacesOwn wr w.heap.size s4 (fAll nx i).2 ∧ (fAll nx i).2.length ≤ i)
  case atStart => exact ⟨0, rfl, Nat.zero_le _, rfl, hb6, hbn6, g0, ⟨[], World.ownsRow_nil _ _ _ _, fun i hi => absurd hi (by simp [fAll])⟩, by simp [fAll]⟩
  case round =>
   clear hb6 hbn6 g0
   obtain ⟨i, rfl, hi, hk, hb, hbn, hbs, hF, hFl⟩ := hrel
   have Hk := Lib.hid hk; clear hk
   by_cases hlt : i < N
   ·have hlt' : (i : Int) < N := by omega
    have hsl : (fAll nx i).1.length = N := (fAll_seen nx i).trans hnl
    have HS := Lib.hid (show fAll nx (i + 1) = fStep nx ((fAll nx i).1, (fAll nx i).2) i from fAll_succ nx i)
    have HF0 := Lib.hid hF
    obtain ⟨w0, rfl⟩ : ∃ x, x = wr := ⟨_, rfl⟩
    clear hF
    generalize (fAll nx i).1 = seen0 at *
    generalize (fAll nx i).2 = F at *
    have HH := Lib.hid (And.intro hb (And.intro hbn hbs))
    have hgsl := hbs.lt
    have hs0 := hb.size
    clear hb hbn hbs
    go_wp2_with fail
    go_loopg [8, 9] (seen0.count false) (fun k s8 s9 wr => ∃ (seen : List Bool) (h fuel : Nat) (face : List Int) (Af : Option Addr) (cf : Nat), s9 = .int .i64 h ∧ h < N ∧ s8 = .slice Af face.length cf ∧ k = seen.count false ∧ seen.length = N ∧ seen.count false < fuel ∧ fWalk nx fuel seen h face = fWalk nx (nx.length + 1) seen0 i [] ∧
     w0.grownBy wr (some gs) ∧ Blk wr gs 4 (boolCells seen).toArray ∧ wr.ownsRow w0.heap.size 3 1 (.slice Af face.length cf) face.length (intCells face) ∧ face.length + seen.count false ≤ N)
    case atStart =>
     have hcl : seen0.count false ≤ seen0.length := List.count_le_length
     exact ⟨seen0, i, nx.length + 1, [], none, 0, rfl, hlt, rfl, rfl, hsl, by omega, rfl, World.grownBy.refl _ _, HH.out.2.2, World.ownsRow_nil _ _ _ _, by simp; omega⟩
    case round =>
     obtain ⟨seen, h, fuel, face, Af, cf, rfl, hh, rfl, hk, hsn, hfu, hw, hgr, hbs, hown, hfl⟩ := hrel
     have Hk2 := Lib.hid hk; clear hk
     have Hw := Lib.hid hw; clear hw
     have Hgr := Lib.hid hgr; clear hgr
     have hh' : (h : Int) < N := by omega
     have d0 := hbs.bool (k := h) (by omega)
     cases hsh : seen.getD h false with
     | true =>
      have HR := Lib.hid (show fStep nx (seen0, F) i = (seen, if 0 < face.length then F ++ [face] else F) by
       unfold fStep
       simp only [← Hw.out, fWalk_stop hsh])
      rw [hsh] at d0
      clear hsh
      have hF2 := HF0.out.grown HH.out.2.2 Hgr.out
      have hbn2 := HH.out.2.1.grown Hgr.out (fun e => by injection e with e; omega)
      have hb2 := HH.out.1.grown Hgr.out hs0 (fun k e => by injection e with e; omega)
      have hsr := Hgr.out.size
      by_cases hpos : 0 < face.length
      ·rw [if_pos hpos] at HR
       have hpos' : ((face.length : Int)) > 0 := by omega
       obtain ⟨sl, ho, h2⟩ := hF2
       have Ho := Lib.hid h2; clear h2
       go_wp2_with (at_builtin; refine wp_app elemRows rfl _ _ rfl w.heap.size u4 _ _ rfl wr.heap.size [.slice Af face.length cf] rfl rfl ho rfl rfl ?h2 ?h3 ?h4 ?_)
       case h2 => omega
       case h3 => omega
       case h4 => omega
       intro v' w' hown' hg' _
       have hb' := below_app hb2 ho hg' (by omega) (Nat.le_refl _)
       have hbn' := hbn2.grown hg' (fun e => by
        rcases own_other ho hbn2 (by decide) with h | h
        ·rw [h] at e; cases e
        ·exact h e.symm)
       have hbs' := hbs.grown hg' (fun e => by
        rcases own_other ho hbs (by decide) with h | h
        ·rw [h] at e; cases e
        ·exact h e.symm)
       have hF' := FacesOwn.push ho Ho.out (own_mono hown hs0) hg' hown'
       have HX := Lib.hid (And.intro hb' (And.intro hbn' (And.intro hbs' hF')))
       clear hb' hbn' hbs' hF' ho hown' hg' hown hb2 hbn2 hbs Ho
       go_wp2_with fail
       go_roundg (N - (i + 1))
       case measure => rw [Hk.out]; omega
       case rel => exact ⟨i + 1, by go_num, by omega, rfl, HX.out.1, HX.out.2.1, by rw [HS.out, HR.out]; exact HX.out.2.2.1, by rw [HS.out, HR.out]; exact HX.out.2.2.2, by rw [HS.out, HR.out]; simp; omega⟩
      ·rw [if_neg hpos] at HR
       have hz : face.length = 0 := by omega
       have HX := Lib.hid (And.intro hb2 (And.intro hbn2 (And.intro hbs hF2)))
       clear hb2 hbn2 hbs hF2 hown
       go_wp2_with fail
       go_roundg (N - (i + 1))
       case measure => rw [Hk.out]; omega
       case rel => exact ⟨i + 1, by go_num, by omega, rfl, HX.out.1, HX.out.2.1, by rw [HS.out, HR.out]; exact HX.out.2.2.1, by rw [HS.out, HR.out]; exact HX.out.2.2.2, by rw [HS.out, HR.out]; simp; omega⟩
     | false =>
      obtain ⟨f, rfl⟩ : ∃ f, fuel = f + 1 := ⟨fuel - 1, by omega⟩
      have hcs := count_set (seen := seen) (h := h) (by omega) hsh
      obtain ⟨v, hv, hvN⟩ := Hat.out h hh
      have HW2 := Lib.hid (show fWalk nx f (seen.set h true) v (face ++ [(h : Int)]) = fWalk nx (nx.length + 1) seen0 i [] by
       rw [← Hw.out, fWalk_go hsh, hv]; rfl)
      rw [hsh] at d0
      clear hsh
      have f0 := hbs.frozen h
      have S1 := hbs.setBool h true
      have hsr := Hgr.out.size
      have hgr2 := only_setCell Hgr.out (p := ⟨gs, h, none⟩) (.inl rfl) (.bool true)
      have hown2 : (wr.setCell ⟨gs, h, none⟩ (.bool true)).ownsRow w0.heap.size 3 1 (.slice Af face.length cf) face.length (intCells face) := own_set hown hbs (by decide) h _
      have hs2 : (wr.setCell ⟨gs, h, none⟩ (.bool true)).heap.size = wr.heap.size := by simp [World.setCell]
      have HG2 := Lib.hid hgr2
      clear hgr2
      go_upto_region 13 with fail
      have HS1 := Lib.hid S1
      clear S1 hbs hown d0 f0
      generalize wr.setCell ⟨gs, h, none⟩ (.bool true) = wS at *
      have hsS := HG2.out.size
      go_wp2_with (at_builtin; refine wp_app elemInt rfl _ _ rfl w0.heap.size (.slice Af face.length cf) _ _ rfl wr.heap.size [.int .i64 (h : Int)] rfl hs2.symm hown2 rfl rfl ?h2 ?h3 ?h4 ?_)
      case h2 => omega
      case h3 => omega
      case h4 => omega
      intro v' w' hown' hg' _
      have hgr3 := only_app HG2.out hg' (fun k e => (hown2.lt k e).1)
      have hbs3 := HS1.out.grown hg' (fun e => by have := (hown2.lt gs e.symm).1; omega)
      have hbn3 := (HH.out.2.1.grown hgr3 (fun e => by injection e with e; omega)).int_ (k := h) (by omega)
      rw [hv] at hbn3
      obtain ⟨A5, c5, rfl⟩ := own_slice hown'
      have HY := Lib.hid (And.intro hgr3 hbs3)
      clear hgr3 hbs3 hg' hown2 HG2 HS1
      go_wp2_with fail
      go_roundg ((seen.set h true).count false)
      case measure => rw [Hk2.out]; omega
      case rel => exact ⟨seen.set h true, v, f, face ++ [(h : Int)], A5, c5, rfl, hvN, by simp, rfl, by simp [hsn], by omega, HW2.out, HY.out.1, HY.out.2, by simpa [intCells] using hown', by simp; omega⟩
   ·have hie : i = N := by omega
    subst hie
    obtain ⟨A4, c4, rfl, hR⟩ := hF.hi
    have HX := Lib.hid (show facesOf n es rs = (fAll nx i).2 by rw [HF.out]; unfold facesL; rw [hnl])
    go_wp2_with fail
    go_ret
    exact ⟨A4, c4, by rw [HX.out]; rfl, hb, by rw [HX.out]; exact hR⟩
theorem faces_any (n : Int) (A C : Option Addr) (cap ccap : Nat) (es : List (Int × Int)) (rs : List (List Int)) (w : World) (hes : Cells w w.heap.size A (edgeCells es)) (hrs : RowsAt w w.heap.size C rs) (hr1 : rs.length ≤ 1000) (hr2 : ∀ l ∈ rs, l.length ≤ 1000) :
  Calls Tryz.prog 50 #[.agg #[.int .i64 n, .slice A es.length cap], .slice C rs.length ccap] w (FacesPost (facesOf n es rs) w) :=
 (faces2_any n A C cap ccap es rs w hes hrs hr1 hr2).mono fun _ _ ⟨A', c', h1, h2, h3⟩ => ⟨A', c', h1, h2, h3.at_⟩
end Go.Proofs.YtneeknlhlkpnpaaGreat
namespace Go.Proofs.YtneeknlhlkpnpaaGreat
open Go.RowKit
structure RightP (n : Int) (es : List (Int × Int)) (rs : List (List Int)) : Prop where
 may : mayB n es = true
 len : (rs.length : Int) = n
 at_ : ∀ x (hx : x < rs.length), ∀ a ∈ rs[x], 0 ≤ a ∧ a < 2 * (es.length : Int) ∧ atE es a.toNat = (x : Int)
 nd : ∀ x (hx : x < rs.length), rs[x].Nodup
 cov : ∀ h, h < 2 * es.length → ∃ x, ∃ hx : x < rs.length, (h : Int) ∈ rs[x]
theorem getD_setT (s : List Bool) (i j : Nat) (hi : i < s.length) : (s.set i true).getD j false = (decide (j = i) || s.getD j false) := by
 rw [List.getD_eq_getElem?_getD, List.getElem?_set, List.getD_eq_getElem?_getD]
 by_cases h : i = j
 ·subst h; simp [hi]
 ·simp [h, Ne.symm h]
theorem rRow_ok {es : List (Int × Int)} {x : Nat} : ∀ (l : List Int) (s s' : List Bool), rRow es x (some s) l = some s' → s.length = 2 * es.length →
  l.Nodup ∧ (∀ a ∈ l, 0 ≤ a ∧ a < 2 * (es.length : Int) ∧ atE es a.toNat = (x : Int) ∧ s.getD a.toNat false = false) ∧ ∀ h : Nat, (s'.getD h false = true ↔ s.getD h false = true ∨ (h : Int) ∈ l)
 | [], s, s', h, _ => by
  injection h with h
  subst h
  exact ⟨List.nodup_nil, fun a ha => absurd ha (by simp), fun h => by simp⟩
 | a :: r, s, s', h, hs => by
  have h' : rRow es x (rStep es x (some s) a) r = some s' := h
  cases hq : rStep es x (some s) a with
  | none => rw [hq, rRow_none] at h'; cases h'
  | some t =>
   rw [hq] at h'
   unfold rStep at hq
   simp only at hq
   split at hq
   ·cases hq
   ·rename_i h1
    split at hq
    ·cases hq
    ·rename_i h2
     split at hq
     ·cases hq
     ·rename_i h3
      injection hq with hq
      subst hq
      have h1 : 0 ≤ a ∧ a < 2 * (es.length : Int) := by rw [hs] at h1; omega
      have h2 : s.getD a.toNat false = false := by simpa using h2
      have h3 : atE es a.toNat = (x : Int) := by simpa using h3
      have hlt : a.toNat < s.length := by omega
      obtain ⟨i1, i2, i3⟩ := rRow_ok r (s.set a.toNat true) s' h' (by simp [hs])
      have hne : ∀ b ∈ r, b ≠ a := fun b hb e => by
       have := (i2 b hb).2.2.2
       rw [e, getD_setT _ _ _ hlt] at this
       simp at this
      refine ⟨List.nodup_cons.2 ⟨fun hm => hne a hm rfl, i1⟩, fun b hb => ?_, fun k => ?_⟩
      ·rcases List.mem_cons.1 hb with rfl | hb
       ·exact ⟨h1.1, h1.2, h3, h2⟩
       ·obtain ⟨j1, j2, j3, j4⟩ := i2 b hb
        rw [getD_setT _ _ _ hlt, Bool.or_eq_false_iff] at j4
        exact ⟨j1, j2, j3, j4.2⟩
      ·rw [i3 k, getD_setT _ _ _ hlt, Bool.or_eq_true, decide_eq_true_eq, List.mem_cons]
       constructor
       ·rintro ((h | h) | h)
        ·exact .inr (.inl (by omega))
        ·exact .inl h
        ·exact .inr (.inr h)
       ·rintro (h | h | h)
        ·exact .inl (.inr h)
        ·exact .inl (.inl (by omega))
        ·exact .inr h
theorem rRow_total {es : List (Int × Int)} {x : Nat} : ∀ (l : List Int) (s : List Bool), s.length = 2 * es.length → l.Nodup → (∀ a ∈ l, 0 ≤ a ∧ a < 2 * (es.length : Int) ∧ atE es a.toNat = (x : Int) ∧ s.getD a.toNat false = false) → ∃ s', rRow es x (some s) l = some s'
 | [], s, _, _, _ => ⟨s, rfl⟩
 | a :: r, s, hs, hnd, h => by
  obtain ⟨h1, h2, h3, h4⟩ := h a (List.mem_cons_self ..)
  have e : rStep es x (some s) a = some (s.set a.toNat true) := by
   unfold rStep
   simp only
   rw [if_neg (by rw [hs]; omega), if_neg (by rw [h4]; simp), if_neg (by simp [h3])]
  obtain ⟨s', hs'⟩ := rRow_total (es := es) (x := x) r (s.set a.toNat true) (by simp [hs]) (List.nodup_cons.1 hnd).2 (fun b hb => by
   obtain ⟨j1, j2, j3, j4⟩ := h b (List.mem_cons_of_mem _ hb)
   refine ⟨j1, j2, j3, ?_⟩
   rw [getD_setT _ _ _ (by omega), j4, Bool.or_false, decide_eq_false_iff_not]
   intro e2
   have : b = a := by omega
   exact (List.nodup_cons.1 hnd).1 (this ▸ hb))
  exact ⟨s', by show rRow es x (rStep es x (some s) a) r = _; rw [e]; exact hs'⟩
theorem rAll_ok {es : List (Int × Int)} {rs : List (List Int)} : ∀ (k : Nat) (s : List Bool), k ≤ rs.length → rAll es rs k = some s →
  (∀ x (hx : x < rs.length), x < k → rs[x].Nodup ∧ ∀ a ∈ rs[x], 0 ≤ a ∧ a < 2 * (es.length : Int) ∧ atE es a.toNat = (x : Int)) ∧ ∀ h : Nat, (s.getD h false = true ↔ ∃ x, ∃ hx : x < rs.length, x < k ∧ (h : Int) ∈ rs[x])
 | 0, s, _, h => by
  injection h with h
  subst h
  refine ⟨fun x _ hx => absurd hx (by omega), fun h => ?_⟩
  rw [List.getD_eq_getElem?_getD, List.getElem?_replicate]
  constructor
  ·intro h2
   split at h2 <;> cases h2
  ·rintro ⟨x, _, hx, _⟩; omega
 | k + 1, s, hk, h => by
  rw [rAll_succ] at h
  cases hq : rAll es rs k with
  | none => rw [hq, rRow_none] at h; cases h
  | some t =>
   rw [hq] at h
   have hkl : k < rs.length := by omega
   have e : rs.getD k [] = rs[k] := by rw [List.getD_eq_getElem?_getD, List.getElem?_eq_getElem hkl]; rfl
   rw [e] at h
   obtain ⟨i1, i2⟩ := rAll_ok k t (by omega) hq
   obtain ⟨j1, j2, j3⟩ := rRow_ok _ _ _ h (rAll_len hq)
   refine ⟨fun x hx hxk => ?_, fun a => ?_⟩
   ·by_cases hxe : x = k
    ·subst hxe; exact ⟨j1, fun a ha => ⟨(j2 a ha).1, (j2 a ha).2.1, (j2 a ha).2.2.1⟩⟩
    ·exact i1 x hx (by omega)
   ·rw [j3 a, i2 a]
    constructor
    ·rintro (⟨x, hx, hxk, hm⟩ | hm)
     ·exact ⟨x, hx, by omega, hm⟩
     ·exact ⟨k, hkl, by omega, hm⟩
    ·rintro ⟨x, hx, hxk, hm⟩
     by_cases hxe : x = k
     ·subst hxe; exact .inr hm
     ·exact .inl ⟨x, hx, by omega, hm⟩
theorem right_iff {n : Int} {es : List (Int × Int)} {rs : List (List Int)} : rightB n es rs = true ↔ RightP n es rs := by
 constructor
 ·intro h
  have hm := right_may h
  unfold rightB at h
  rw [hm, Bool.true_and, Bool.and_eq_true, decide_eq_true_eq] at h
  obtain ⟨hl, h⟩ := h
  cases hq : rAll es rs rs.length with
  | none => rw [hq] at h; cases h
  | some s =>
   rw [hq] at h
   have hs := rAll_len hq
   obtain ⟨h1, h2⟩ := rAll_ok _ _ (Nat.le_refl _) hq
   refine ⟨hm, hl, fun x hx => (h1 x hx hx).2, fun x hx => (h1 x hx hx).1, fun k hk => ?_⟩
   have : s.getD k false = true := by
    cases hb : s.getD k false with
    | true => rfl
    | false =>
     have : false ∈ s := by
      rw [List.getD_eq_getElem?_getD, List.getElem?_eq_getElem (show k < s.length by omega)] at hb
      rw [← show s[k] = false from hb]
      exact List.getElem_mem _
     simp [this] at h
   obtain ⟨x, hx, _, hm⟩ := (h2 k).1 this
   exact ⟨x, hx, hm⟩
 ·intro h
  have tot : ∀ k, k ≤ rs.length → ∃ s, rAll es rs k = some s := by
   intro k
   induction k with
   | zero => exact fun _ => ⟨_, rfl⟩
   | succ k ih =>
    intro hk
    obtain ⟨s, hs⟩ := ih (by omega)
    have hkl : k < rs.length := by omega
    obtain ⟨_, h2⟩ := rAll_ok k s (by omega) hs
    obtain ⟨s', hs'⟩ := rRow_total (es := es) (x := k) rs[k] s (rAll_len hs) (h.nd k hkl) (fun a ha => by
     obtain ⟨a1, a2, a3⟩ := h.at_ k hkl a ha
     refine ⟨a1, a2, a3, ?_⟩
     rw [← Bool.not_eq_true, h2]
     rintro ⟨x, hx, hxk, hm⟩
     have := (h.at_ x hx _ hm).2.2
     rw [show ((a.toNat : Nat) : Int).toNat = a.toNat from rfl, a3] at this
     omega)
    refine ⟨s', ?_⟩
    rw [rAll_succ, hs, List.getD_eq_getElem?_getD, List.getElem?_eq_getElem hkl]
    exact hs'
  obtain ⟨s, hs⟩ := tot _ (Nat.le_refl _)
  obtain ⟨_, h2⟩ := rAll_ok _ s (Nat.le_refl _) hs
  unfold rightB
  rw [h.may, decide_eq_true h.len, hs]
  have : false ∉ s := fun hm => by
   obtain ⟨k, hk, he⟩ := List.mem_iff_getElem.1 hm
   obtain ⟨x, hx, hmx⟩ := h.cov k (by rw [rAll_len hs] at hk; exact hk)
   have := (h2 k).2 ⟨x, hx, hx, hmx⟩
   rw [List.getD_eq_getElem?_getD, List.getElem?_eq_getElem hk, he] at this
   cases this
  simp [this]
theorem getD_setI (s : List Int) (i j : Nat) (v : Int) (hi : i < s.length) : (s.set i v).getD j 0 = if j = i then v else s.getD j 0 := by
 rw [List.getD_eq_getElem?_getD, List.getElem?_set, List.getD_eq_getElem?_getD]
 by_cases h : i = j
 ·subst h; simp [hi]
 ·simp [h, Ne.symm h]
theorem nodup_inj {l : List Int} (h : l.Nodup) {i j : Nat} (hi : i < l.length) (hj : j < l.length) (e : l[i] = l[j]) : i = j := by
 have h := List.pairwise_iff_getElem.1 (List.nodup_iff_pairwise_ne.1 h)
 rcases Nat.lt_trichotomy i j with h1 | h1 | h1
 ·exact absurd e (h i j hi hj h1)
 ·exact h1
 ·exact absurd e.symm (h j i hj hi h1)
theorem ot_inj {a b : Nat} (h : ot a = ot b) : a = b := by rw [← ot_ot a, h, ot_ot]
theorem nRow_at {l o : List Int} {m : Nat} (hm : o.length = 2 * m) (hnd : l.Nodup) (hin : ∀ a ∈ l, 0 ≤ a ∧ a < 2 * (m : Int)) : ∀ k, k ≤ l.length →
  (∀ i (hi : i < l.length), i < k → (nRow l o k).getD (ot l[i].toNat) 0 = l.getD ((i + 1) % l.length) 0) ∧ ∀ p, (∀ a ∈ l, p ≠ ot a.toNat) → (nRow l o k).getD p 0 = o.getD p 0
 | 0, _ => ⟨fun i _ hi => absurd hi (by omega), fun p _ => rfl⟩
 | k + 1, hk => by
  obtain ⟨h1, h2⟩ := nRow_at hm hnd hin k (by omega)
  have hkl : k < l.length := by omega
  have e : l.getD k 0 = l[k] := by rw [List.getD_eq_getElem?_getD, List.getElem?_eq_getElem hkl]; rfl
  obtain ⟨b1, b2⟩ := hin _ (List.getElem_mem hkl)
  have hlt : ot l[k].toNat < (nRow l o k).length := by rw [nRow_length, hm]; exact ot_lt (by omega)
  rw [nRow_succ]
  unfold nStep
  rw [e]
  refine ⟨fun i hi hik => ?_, fun p hp => ?_⟩
  ·rw [getD_setI _ _ _ _ hlt]
   by_cases hie : i = k
   ·subst hie; rw [if_pos rfl]
   ·rw [if_neg]
    ·exact h1 i hi (by omega)
    ·intro he
     have he := ot_inj he
     obtain ⟨c1, c2⟩ := hin _ (List.getElem_mem hi)
     have : l[i] = l[k] := by omega
     exact hie (nodup_inj hnd hi hkl this)
  ·rw [getD_setI _ _ _ _ hlt, if_neg (hp _ (List.getElem_mem hkl))]
   exact h2 p hp
theorem nexts_at {n : Int} {es : List (Int × Int)} {rs : List (List Int)} (h : RightP n es rs) {x i : Nat} (hx : x < rs.length) (hi : i < rs[x].length) :
  (nextsL es.length rs).getD (ot rs[x][i].toNat) 0 = rs[x][(i + 1) % rs[x].length]'(Nat.mod_lt _ (by omega)) := by
 have key : ∀ k, k ≤ rs.length → ∀ x (hx : x < rs.length), x < k → ∀ i (hi : i < rs[x].length), (nAll es.length rs k).getD (ot rs[x][i].toNat) 0 = rs[x].getD ((i + 1) % rs[x].length) 0 := by
  intro k
  induction k with
  | zero => exact fun _ x _ hx => absurd hx (by omega)
  | succ k ih =>
   intro hk x hx hxk i hi
   have hkl : k < rs.length := by omega
   obtain ⟨h1, h2⟩ := nRow_at (o := nAll es.length rs k) (nAll_length _ _ _) (h.nd k hkl) (fun a ha => ⟨(h.at_ k hkl a ha).1, (h.at_ k hkl a ha).2.1⟩) rs[k].length (Nat.le_refl _)
   rw [nAll_succ, List.getD_eq_getElem?_getD (l := rs), List.getElem?_eq_getElem hkl]
   show (nRow rs[k] (nAll es.length rs k) rs[k].length).getD _ 0 = _
   by_cases hxe : x = k
   ·subst hxe; exact h1 i hi hi
   ·rw [h2 _ (fun a ha he => ?_)]
    ·exact ih (by omega) x hx (by omega) i hi
    ·have he := ot_inj he
     have a1 := (h.at_ k hkl a ha).2.2
     have a2 := (h.at_ x hx _ (List.getElem_mem hi)).2.2
     rw [← he, a2] at a1
     omega
 have := key rs.length (Nat.le_refl _) x hx hx i hi
 unfold nextsL
 rw [this, List.getD_eq_getElem?_getD, List.getElem?_eq_getElem (Nat.mod_lt _ (by omega))]
 rfl
end Go.Proofs.YtneeknlhlkpnpaaGreat
namespace Go.Proofs.YtneeknlhlkpnpaaGreat
def iter (f : Nat → Nat) : Nat → Nat → Nat
 | 0, x => x
 | i + 1, x => iter f i (f x)
theorem iter_add (f : Nat → Nat) (i j x : Nat) : iter f (i + j) x = iter f j (iter f i x) := by
 induction i generalizing x with
 | zero => rw [Nat.zero_add]; rfl
 | succ i ih => rw [Nat.add_right_comm]; exact ih (f x)
theorem iter_succ (f : Nat → Nat) (i x : Nat) : iter f (i + 1) x = f (iter f i x) := by rw [iter_add f i 1 x]; rfl
structure Perm (N : Nat) (f : Nat → Nat) : Prop where
 lt : ∀ x, x < N → f x < N
 inj : ∀ x y, x < N → y < N → f x = f y → x = y
section
variable {N : Nat} {f : Nat → Nat}
theorem Perm.iter_lt (h : Perm N f) (i : Nat) {x : Nat} (hx : x < N) : iter f i x < N := by
 induction i generalizing x with
 | zero => exact hx
 | succ i ih => exact ih (h.lt x hx)
theorem Perm.iter_inj (h : Perm N f) (i : Nat) {x y : Nat} (hx : x < N) (hy : y < N) (e : iter f i x = iter f i y) : x = y := by
 induction i generalizing x y with
 | zero => exact e
 | succ i ih => exact h.inj x y hx hy (ih (h.lt x hx) (h.lt y hy) e)
theorem Perm.period (h : Perm N f) {x : Nat} (hx : x < N) : ∃ p, 0 < p ∧ p ≤ N ∧ iter f p x = x := by
 apply Classical.byContradiction
 intro hno
 have hne : ∀ p, 0 < p → p ≤ N → iter f p x ≠ x := fun p h1 h2 h3 => hno ⟨p, h1, h2, h3⟩
 have hnd : ((List.range (N + 1)).map fun i => iter f i x).Nodup := by
  rw [List.nodup_iff_pairwise_ne, List.pairwise_map]
  refine List.Pairwise.imp_of_mem ?_ (List.pairwise_lt_range (n := N + 1))
  intro i j hi hj hij e
  have hj := List.mem_range.1 hj
  have e2 : iter f i x = iter f i (iter f (j - i) x) := by
   rw [← iter_add f (j - i) i x, show j - i + i = j by omega]; exact e
  exact hne (j - i) (by omega) (by omega) (h.iter_inj i hx (h.iter_lt _ hx) e2).symm
 have hsub : ((List.range (N + 1)).map fun i => iter f i x) ⊆ List.range N := by
  intro y hy
  obtain ⟨i, _, rfl⟩ := List.mem_map.1 hy
  exact List.mem_range.2 (h.iter_lt i hx)
 have := List.Nodup.length_le_of_subset hnd hsub
 simp at this
 omega
def Orb (f : Nat → Nat) (x y : Nat) : Prop := ∃ i, iter f i x = y
theorem Orb.refl (f : Nat → Nat) (x : Nat) : Orb f x x := ⟨0, rfl⟩
theorem Orb.trans {x y z : Nat} (h : Orb f x y) (k : Orb f y z) : Orb f x z := by
 obtain ⟨i, rfl⟩ := h
 obtain ⟨j, rfl⟩ := k
 exact ⟨i + j, iter_add f i j x⟩
theorem Orb.step (f : Nat → Nat) (x : Nat) : Orb f x (f x) := ⟨1, rfl⟩
theorem Orb.lt (h : Perm N f) {x y : Nat} (hx : x < N) (o : Orb f x y) : y < N := by
 obtain ⟨i, rfl⟩ := o; exact h.iter_lt i hx
theorem iter_mul {p x : Nat} (hp : iter f p x = x) (k : Nat) : iter f (p * k) x = x := by
 induction k with
 | zero => rfl
 | succ k ih => rw [Nat.mul_succ, iter_add, ih, hp]
theorem Orb.symm (h : Perm N f) {x y : Nat} (hx : x < N) (o : Orb f x y) : Orb f y x := by
 obtain ⟨i, rfl⟩ := o
 obtain ⟨p, hp, _, hpx⟩ := h.period hx
 refine ⟨p * i - i, ?_⟩
 have : i ≤ p * i := Nat.le_mul_of_pos_left i hp
 rw [← iter_add, show i + (p * i - i) = p * i by omega, iter_mul hpx]
theorem Orb.induct {R : Nat → Nat → Prop} (h0 : ∀ x, R x x) (ht : ∀ x y z, R x y → R y z → R x z) (hs : ∀ x, R x (f x)) {x y : Nat} (o : Orb f x y) : R x y := by
 obtain ⟨i, rfl⟩ := o
 induction i generalizing x with
 | zero => exact h0 x
 | succ i ih => exact ht _ _ _ (hs x) ih
end
noncomputable def tst (p : Prop) : Bool := @decide p (Classical.propDecidable p)
theorem tst_iff {p : Prop} : tst p = true ↔ p := by unfold tst; exact @decide_eq_true_iff p (Classical.propDecidable p)
theorem tst_not {p : Prop} : tst p = false ↔ ¬ p := by rw [← Bool.not_eq_true, tst_iff]
noncomputable def cls (R : Nat → Nat → Prop) (N : Nat) : Nat := (List.range N).countP fun h => tst (∀ k, k < h → ¬ R k h)
theorem countP_less {p q : Nat → Bool} {m : Nat} (hm : p m = true) (hq : ∀ h, q h = (p h && !decide (h = m))) : ∀ N, (List.range N).countP p = (List.range N).countP q + if m < N then 1 else 0
 | 0 => by simp
 | N + 1 => by
  rw [List.range_succ, List.countP_append, List.countP_append, countP_less hm hq N]
  simp only [List.countP_cons, List.countP_nil, hq N]
  by_cases hN : N = m
  ·subst hN
   simp [hm]
  ·rcases Nat.lt_or_gt_of_ne hN with h | h
   ·simp [hN, show ¬ m < N by omega, show ¬ m < N + 1 by omega]
   ·simp [hN, h, show m < N + 1 by omega]; omega
theorem cls_congr {R S : Nat → Nat → Prop} {N : Nat} (h : ∀ x y, x < N → y < N → (R x y ↔ S x y)) : cls R N = cls S N := by
 unfold cls
 apply List.countP_congr
 intro x hx
 have hx := List.mem_range.1 hx
 simp only [tst_iff]
 exact ⟨fun g k hk hS => g k hk ((h k x (by omega) hx).2 hS), fun g k hk hR => g k hk ((h k x (by omega) hx).1 hR)⟩
structure Equ (N : Nat) (R : Nat → Nat → Prop) : Prop where
 refl : ∀ x, x < N → R x x
 symm : ∀ x y, x < N → y < N → R x y → R y x
 trans : ∀ x y z, x < N → y < N → z < N → R x y → R y z → R x z
theorem least_of {P : Nat → Prop} {a : Nat} (h : P a) : ∃ m, m ≤ a ∧ P m ∧ ∀ k, k < m → ¬ P k := by
 induction a using Nat.strongRecOn with
 | _ a ih =>
  by_cases hk : ∃ k, k < a ∧ P k
  ·obtain ⟨k, hka, hk⟩ := hk
   obtain ⟨m, h1, h2, h3⟩ := ih k hka hk
   exact ⟨m, by omega, h2, h3⟩
  ·exact ⟨a, Nat.le_refl _, h, fun k hka hP => hk ⟨k, hka, hP⟩⟩
def Merge (R : Nat → Nat → Prop) (a b x y : Nat) : Prop := R x y ∨ (R x a ∧ R b y) ∨ (R x b ∧ R a y)
theorem cls_merge1 {N : Nat} {R : Nat → Nat → Prop} (hR : Equ N R) {a b ma mb : Nat} (ha : a < N) (hb : b < N) (hma : ma ≤ a) (hmb : mb ≤ b) (ra : R ma a) (rb : R mb b) (la : ∀ k, k < ma → ¬ R k a) (lb : ∀ k, k < mb → ¬ R k b) (hlt : ma < mb) :
  cls R N = cls (Merge R a b) N + 1 := by
 have hmbN : mb < N := by omega
 have hmaN : ma < N := by omega
 have key : ∀ h, h < N → ((∀ k, k < h → ¬ Merge R a b k h) ↔ (∀ k, k < h → ¬ R k h) ∧ h ≠ mb) := by
  intro h hh
  constructor
  ·intro g
   refine ⟨fun k hk hr => g k hk (.inl hr), fun e => ?_⟩
   subst e
   exact g ma hlt (.inr (.inl ⟨ra, hR.symm _ _ hmbN hb rb⟩))
  ·rintro ⟨g, hne⟩ k hk hM
   have hkN : k < N := by omega
   rcases hM with h1 | ⟨h1, h2⟩ | ⟨h1, h2⟩
   ·exact g k hk h1
   · -- h in b's class, least of it: it is mb
    have hhb : R h b := hR.symm _ _ hb hh h2
    rcases Nat.lt_trichotomy h mb with h3 | h3 | h3
    ·exact lb h h3 hhb
    ·exact hne h3
    ·exact g mb h3 (hR.trans _ _ _ hmbN hb hh rb h2)
   · -- h in a's class: it is ma; k in b's class and less
    have hha : R h a := hR.symm _ _ ha hh h2
    rcases Nat.lt_trichotomy h ma with h3 | h3 | h3
    ·exact la h h3 hha
    ·subst h3
     exact lb k (by omega) h1
    ·exact g ma h3 (hR.trans _ _ _ hmaN ha hh ra h2)
 have e : cls (Merge R a b) N = (List.range N).countP fun h => tst (∀ k, k < h → ¬ R k h) && !decide (h = mb) := by
  unfold cls
  apply List.countP_congr
  intro x hx
  rw [tst_iff, key x (List.mem_range.1 hx), Bool.and_eq_true, tst_iff]
  simp
 rw [e]
 unfold cls
 have h := countP_less (p := fun h => tst (∀ k, k < h → ¬ R k h)) (q := fun h => tst (∀ k, k < h → ¬ R k h) && !decide (h = mb)) (m := mb) (by
  rw [tst_iff]
  intro k hk hr
  exact lb k hk (hR.trans _ _ _ (by omega) hmbN hb hr rb)) (fun h => rfl) N
 rw [h, if_pos hmbN]
theorem Merge.comm {R : Nat → Nat → Prop} {a b x y : Nat} : Merge R a b x y ↔ Merge R b a x y := by
 unfold Merge
 constructor
 ·rintro (h | h | h)
  ·exact .inl h
  ·exact .inr (.inr h)
  ·exact .inr (.inl h)
 ·rintro (h | h | h)
  ·exact .inl h
  ·exact .inr (.inr h)
  ·exact .inr (.inl h)
theorem cls_merge {N : Nat} {R : Nat → Nat → Prop} (hR : Equ N R) {a b : Nat} (ha : a < N) (hb : b < N) (hab : ¬ R a b) : cls R N = cls (Merge R a b) N + 1 := by
 obtain ⟨ma, h1, ra, la⟩ := least_of (P := fun k => R k a) (hR.refl a ha)
 obtain ⟨mb, h2, rb, lb⟩ := least_of (P := fun k => R k b) (hR.refl b hb)
 rcases Nat.lt_trichotomy ma mb with h | h | h
 ·exact cls_merge1 hR ha hb h1 h2 ra rb la lb h
 ·subst h
  exact absurd (hR.trans _ _ _ ha (by omega) hb (hR.symm _ _ (by omega) ha ra) rb) hab
 ·rw [cls_congr (S := Merge R b a) (fun x y _ _ => Merge.comm)]
  exact cls_merge1 hR hb ha h2 h1 rb ra lb la h
theorem cls_same {N : Nat} {R : Nat → Nat → Prop} (hR : Equ N R) {a b : Nat} (ha : a < N) (hb : b < N) (hab : R a b) : cls (Merge R a b) N = cls R N := by
 apply cls_congr
 intro x y hx hy
 constructor
 ·rintro (h | ⟨h1, h2⟩ | ⟨h1, h2⟩)
  ·exact h
  ·exact hR.trans _ _ _ hx ha hy h1 (hR.trans _ _ _ ha hb hy hab h2)
  ·exact hR.trans _ _ _ hx hb hy h1 (hR.trans _ _ _ hb ha hy (hR.symm _ _ ha hb hab) h2)
 ·exact .inl
theorem swp_lt {N a b x : Nat} (ha : a < N) (hb : b < N) (hx : x < N) : swp a b x < N := by
 unfold swp
 split
 ·exact hb
 ·split
  ·exact ha
  ·exact hx
theorem swp_swp (a b x : Nat) : swp a b (swp a b x) = x := by
 unfold swp
 by_cases h1 : x = a
 ·subst h1; by_cases h2 : b = x <;> simp [h2]
 ·by_cases h2 : x = b
  ·subst h2; simp [h1]
  ·simp [h1, h2]
theorem Perm.swp {N : Nat} {f : Nat → Nat} (h : Perm N f) {a b : Nat} (ha : a < N) (hb : b < N) : Perm N (fun x => f (swp a b x)) :=
 ⟨fun x hx => h.lt _ (swp_lt ha hb hx), fun x y hx hy e => by
  have := h.inj _ _ (swp_lt ha hb hx) (swp_lt ha hb hy) e
  have := congrArg (Go.Proofs.YtneeknlhlkpnpaaGreat.swp a b) this
  rwa [swp_swp, swp_swp] at this⟩
theorem Perm.equ {N : Nat} {f : Nat → Nat} (h : Perm N f) : Equ N (Orb f) :=
 ⟨fun x _ => Orb.refl f x, fun _ _ hx _ o => Orb.symm h hx o, fun _ _ _ _ _ _ o p => o.trans p⟩
section
variable {N : Nat} {f : Nat → Nat} {a b : Nat}
theorem orb_merge (h : Perm N f) (ha : a < N) (hb : b < N) (hab : ¬ Orb f a b) {x y : Nat} (hx : x < N) (hy : y < N) : Orb (fun z => f (swp a b z)) x y ↔ Merge (Orb f) a b x y := by
 have hne : a ≠ b := fun e => hab (e ▸ Orb.refl f a)
 have hba : ¬ Orb f b a := fun o => hab (o.symm h hb)
 have ga : (fun z => f (swp a b z)) a = f b := by simp [swp]
 have gb : (fun z => f (swp a b z)) b = f a := by simp [swp, Ne.symm hne]
 have gx : ∀ z, z ≠ a → z ≠ b → (fun z => f (swp a b z)) z = f z := fun z h1 h2 => by simp [swp, h1, h2]
 generalize (fun z => f (swp a b z)) = g at *
 constructor
 ·rintro ⟨i, rfl⟩
  clear hy
  induction i generalizing x with
  | zero => exact .inl (Orb.refl f x)
  | succ i ih =>
   have hgx : g x < N := by
    by_cases h1 : x = a
    ·rw [h1, ga]; exact h.lt b hb
    ·by_cases h2 : x = b
     ·rw [h2, gb]; exact h.lt a ha
     ·rw [gx x h1 h2]; exact h.lt x hx
   have hM := ih hgx
   show Merge (Orb f) a b x (iter g i (g x))
   by_cases h1 : x = a
   ·subst h1
    rw [ga] at hM ⊢
    rcases hM with o | ⟨o1, o2⟩ | ⟨o1, o2⟩
    ·exact .inr (.inl ⟨Orb.refl f x, (Orb.step f b).trans o⟩)
    ·exact absurd ((Orb.step f b).trans o1) hba
    ·exact .inl o2
   ·by_cases h2 : x = b
    ·subst h2
     rw [gb] at hM ⊢
     rcases hM with o | ⟨o1, o2⟩ | ⟨o1, o2⟩
     ·exact .inr (.inr ⟨Orb.refl f x, (Orb.step f a).trans o⟩)
     ·exact .inl o2
     ·exact absurd ((Orb.step f a).trans o1) hab
    ·rw [gx x h1 h2] at hM ⊢
     rcases hM with o | ⟨o1, o2⟩ | ⟨o1, o2⟩
     ·exact .inl ((Orb.step f x).trans o)
     ·exact .inr (.inl ⟨(Orb.step f x).trans o1, o2⟩)
     ·exact .inr (.inr ⟨(Orb.step f x).trans o1, o2⟩)
 · -- along f towards c where the other one isn't met
  have toB : ∀ i z, iter f i z = b → Orb g z b := by
   intro i
   induction i with
   | zero => rintro z rfl; exact Orb.refl g _
   | succ i ih =>
    intro z hz
    by_cases h2 : z = b
    ·subst h2; exact Orb.refl g _
    ·have h1 : z ≠ a := fun e => hab (e ▸ ⟨i + 1, hz⟩)
     have := ih (f z) hz
     rw [← gx z h1 h2] at this
     exact (Orb.step g z).trans this
  have toA : ∀ i z, iter f i z = a → Orb g z a := by
   intro i
   induction i with
   | zero => rintro z rfl; exact Orb.refl g _
   | succ i ih =>
    intro z hz
    by_cases h1 : z = a
    ·subst h1; exact Orb.refl g _
    ·have h2 : z ≠ b := fun e => hba (e ▸ ⟨i + 1, hz⟩)
     have := ih (f z) hz
     rw [← gx z h1 h2] at this
     exact (Orb.step g z).trans this
  have oab : Orb g a b := by
   obtain ⟨i, hi⟩ := (Orb.step f b).symm h hb
   have := toB i (f b) hi
   rw [← ga] at this
   exact (Orb.step g a).trans this
  have oba : Orb g b a := by
   obtain ⟨i, hi⟩ := (Orb.step f a).symm h ha
   have := toA i (f a) hi
   rw [← gb] at this
   exact (Orb.step g b).trans this
  have all : ∀ z, Orb g z (f z) := fun z => by
   by_cases h1 : z = a
   ·subst h1
    have := Orb.step g b
    rw [gb] at this
    exact oab.trans this
   ·by_cases h2 : z = b
    ·subst h2
     have := Orb.step g a
     rw [ga] at this
     exact oba.trans this
    ·have := Orb.step g z
     rw [gx z h1 h2] at this
     exact this
  have up : ∀ {z v}, Orb f z v → Orb g z v := fun o => Orb.induct (R := Orb g) (fun x => Orb.refl g x) (fun _ _ _ p q => p.trans q) all o
  rintro (o | ⟨o1, o2⟩ | ⟨o1, o2⟩)
  ·exact up o
  ·exact (up o1).trans (oab.trans (up o2))
  ·exact (up o1).trans (oba.trans (up o2))
theorem orb_split (h : Perm N f) (ha : a < N) (hb : b < N) (hne : a ≠ b) (hab : Orb f a b) : ¬ Orb (fun z => f (swp a b z)) a b := by
 have ga : (fun z => f (swp a b z)) a = f b := by simp [swp]
 have gx : ∀ z, z ≠ a → z ≠ b → (fun z => f (swp a b z)) z = f z := fun z h1 h2 => by simp [swp, h1, h2]
 generalize (fun z => f (swp a b z)) = g at *
 have hS : ∀ i z, (∃ k, iter f k z = a ∧ ∀ j, j ≤ k → iter f j z ≠ b) → ∃ k, iter f k (iter g i z) = a ∧ ∀ j, j ≤ k → iter f j (iter g i z) ≠ b := by
  intro i
  induction i with
  | zero => exact fun z h => h
  | succ i ih =>
   rintro z ⟨k, hk, hj⟩
   refine ih (g z) ?_
   have h2 : z ≠ b := hj 0 (Nat.zero_le _)
   by_cases h1 : z = a
   ·subst h1
    rw [ga]
    obtain ⟨k0, hk0⟩ : Orb f (f b) z := ((Orb.step f b).symm h hb).trans (hab.symm h ha)
    obtain ⟨m, _, hm, hl⟩ := least_of (P := fun k => iter f k (f b) = z) hk0
    refine ⟨m, hm, fun j hjm e => ?_⟩
    have hjlt : j < m := by
     rcases Nat.lt_or_ge j m with h3 | h3
     ·exact h3
     ·have : j = m := by omega
      subst this
      rw [hm] at e
      exact absurd e hne
    have e2 : iter f (j + 1) (f b) = f b := by rw [iter_succ, e]
    have : iter f (m - (j + 1)) (f b) = z := by
     rw [← hm]
     conv => rhs; rw [show m = (j + 1) + (m - (j + 1)) by omega, iter_add, e2]
    exact hl _ (by omega) this
   ·rw [gx z h1 h2]
    obtain ⟨k, rfl⟩ : ∃ k', k = k' + 1 := by
     cases k with
     | zero => exact absurd hk h1
     | succ k => exact ⟨k, rfl⟩
    exact ⟨k, hk, fun j hjk => hj (j + 1) (by omega)⟩
 rintro ⟨i, hi⟩
 obtain ⟨k, _, hj⟩ := hS i a ⟨0, rfl, fun j hj => by
  have : j = 0 := by omega
  subst this; exact hne⟩
 exact hj 0 (Nat.zero_le _) hi
theorem swp_self (f : Nat → Nat) (a b : Nat) : (fun z => (fun z => f (swp a b z)) (swp a b z)) = f := by
 funext z; simp only [swp_swp]
theorem cls_apart (h : Perm N f) (ha : a < N) (hb : b < N) (hab : ¬ Orb f a b) : cls (Orb f) N = cls (Orb (fun z => f (swp a b z))) N + 1 := by
 rw [cls_merge h.equ ha hb hab, cls_congr (fun x y hx hy => (orb_merge h ha hb hab hx hy).symm)]
theorem cls_joined (h : Perm N f) (ha : a < N) (hb : b < N) (hne : a ≠ b) (hab : Orb f a b) : cls (Orb (fun z => f (swp a b z))) N = cls (Orb f) N + 1 := by
 have := cls_apart (h.swp ha hb) ha hb (orb_split h ha hb hne hab)
 rw [swp_self] at this
 exact this
end
end Go.Proofs.YtneeknlhlkpnpaaGreat
namespace Go.Proofs.YtneeknlhlkpnpaaGreat
open Go.RowKit
def nxf (es : List (Int × Int)) (rs : List (List Int)) (h : Nat) : Nat := ((nextsL es.length rs).getD h 0).toNat
def sig (es : List (Int × Int)) (rs : List (List Int)) (h : Nat) : Nat := nxf es rs (ot h)
def vtx (es : List (Int × Int)) (h : Nat) : Nat := (atE es h).toNat
def phik (es : List (Int × Int)) (rs : List (List Int)) (k h : Nat) : Nat := sig es rs (if h < 2 * k then ot h else h)
def Q (es : List (Int × Int)) (k : Nat) : Nat → Nat → Prop := Star (Edge1 true (fun i => decide (i < k)) es)
def iso (rs : List (List Int)) : Nat := (List.range rs.length).countP fun x => decide ((rs.getD x []).length = 0)
section
variable {n : Int} {es : List (Int × Int)} {rs : List (List Int)}
theorem RightP.pos (h : RightP n es rs) {d : Nat} (hd : d < 2 * es.length) : ∃ x i, ∃ hx : x < rs.length, ∃ hi : i < rs[x].length, rs[x][i] = (d : Int) ∧ vtx es d = x := by
 obtain ⟨x, hx, hm⟩ := h.cov d hd
 obtain ⟨i, hi, he⟩ := List.mem_iff_getElem.1 hm
 refine ⟨x, i, hx, hi, he, ?_⟩
 have := (h.at_ x hx _ hm).2.2
 unfold vtx
 rw [show ((d : Nat) : Int).toNat = d from rfl] at this
 rw [this]; rfl
theorem RightP.nat (h : RightP n es rs) {x i : Nat} (hx : x < rs.length) (hi : i < rs[x].length) : ∃ d : Nat, rs[x][i] = (d : Int) ∧ d < 2 * es.length ∧ vtx es d = x := by
 obtain ⟨a1, a2, a3⟩ := h.at_ x hx _ (List.getElem_mem hi)
 refine ⟨rs[x][i].toNat, by omega, by omega, ?_⟩
 unfold vtx
 rw [a3]; rfl
theorem sig_at (h : RightP n es rs) {x i : Nat} (hx : x < rs.length) (hi : i < rs[x].length) {d : Nat} (hd : rs[x][i] = (d : Int)) : sig es rs d = (rs[x][(i + 1) % rs[x].length]'(Nat.mod_lt _ (by omega))).toNat := by
 have := nexts_at h hx hi
 rw [hd] at this
 unfold sig nxf
 rw [show ((d : Nat) : Int).toNat = d from rfl] at this
 rw [this]
theorem sig_pos (h : RightP n es rs) {x i : Nat} (hx : x < rs.length) (hi : i < rs[x].length) {d : Nat} (hd : rs[x][i] = (d : Int)) : rs[x][(i + 1) % rs[x].length]'(Nat.mod_lt _ (by omega)) = (sig es rs d : Nat) := by
 obtain ⟨e, he, _, _⟩ := h.nat hx (i := (i + 1) % rs[x].length) (Nat.mod_lt _ (by omega))
 rw [sig_at h hx hi hd, he]; rfl
theorem vtx_sig (h : RightP n es rs) {d : Nat} (hd : d < 2 * es.length) : sig es rs d < 2 * es.length ∧ vtx es (sig es rs d) = vtx es d := by
 obtain ⟨x, i, hx, hi, he, hv⟩ := h.pos hd
 obtain ⟨e, h1, h2, h3⟩ := h.nat hx (i := (i + 1) % rs[x].length) (Nat.mod_lt _ (by omega))
 have := sig_pos h hx hi he
 rw [h1] at this
 have : e = sig es rs d := by omega
 rw [← this]
 exact ⟨h2, h3.trans hv.symm⟩
theorem mod_succ_inj {a b n : Nat} (ha : a < n) (hb : b < n) (h : (a + 1) % n = (b + 1) % n) : a = b := by
 by_cases h1 : a + 1 = n
 ·by_cases h2 : b + 1 = n
  ·omega
  ·rw [h1, Nat.mod_self, Nat.mod_eq_of_lt (by omega)] at h; omega
 ·by_cases h2 : b + 1 = n
  ·rw [h2, Nat.mod_self, Nat.mod_eq_of_lt (by omega)] at h; omega
  ·rw [Nat.mod_eq_of_lt (by omega), Nat.mod_eq_of_lt (by omega)] at h; omega
theorem sig_perm (h : RightP n es rs) : Perm (2 * es.length) (sig es rs) := by
 refine ⟨fun d hd => (vtx_sig h hd).1, fun d e hd he hde => ?_⟩
 obtain ⟨x, i, hx, hi, h1, hv⟩ := h.pos hd
 obtain ⟨y, j, hy, hj, h2, hw⟩ := h.pos he
 have hxy : x = y := by
  rw [← hv, ← hw, ← (vtx_sig h hd).2, ← (vtx_sig h he).2, hde]
 subst hxy
 have e1 := sig_pos h hx hi h1
 have e2 := sig_pos h hx hj h2
 rw [hde, ← e2] at e1
 have := mod_succ_inj hi hj (nodup_inj (h.nd x hx) _ _ e1)
 subst this
 rw [h1] at h2
 omega
theorem phik_zero : phik es rs 0 = sig es rs := by funext d; simp [phik]
theorem ot_even (k : Nat) : ot (2 * k) = 2 * k + 1 := by unfold ot; rw [if_pos (by omega)]
theorem ot_odd (k : Nat) : ot (2 * k + 1) = 2 * k := by unfold ot; rw [if_neg (by omega)]; omega
theorem phik_succ (k : Nat) : phik es rs (k + 1) = fun z => phik es rs k (swp (2 * k) (2 * k + 1) z) := by
 funext z
 unfold phik swp
 by_cases h1 : z = 2 * k
 ·subst h1
  rw [if_pos (by omega), if_pos rfl, if_neg (by omega), ot_even]
 ·by_cases h2 : z = 2 * k + 1
  ·subst h2
   rw [if_pos (by omega), if_neg h1, if_pos rfl, if_neg (by omega), ot_odd]
  ·rw [if_neg h1, if_neg h2]
   by_cases h3 : z < 2 * k
   ·rw [if_pos h3, if_pos (by omega)]
   ·rw [if_neg h3, if_neg (by omega)]
theorem phik_perm (h : RightP n es rs) : ∀ k, k ≤ es.length → Perm (2 * es.length) (phik es rs k)
 | 0, _ => by rw [phik_zero]; exact sig_perm h
 | k + 1, hk => by rw [phik_succ]; exact (phik_perm h k (by omega)).swp (by omega) (by omega)
theorem phik_all {d : Nat} (hd : d < 2 * es.length) : phik es rs es.length d = nxf es rs d := by
 unfold phik sig
 rw [if_pos hd, ot_ot]
theorem at_even {k : Nat} (hk : k < es.length) : atE es (2 * k) = es[k].1 := by
 unfold atE
 rw [if_pos (by omega), show 2 * k / 2 = k by omega, List.getD_eq_getElem?_getD, List.getElem?_eq_getElem hk]; rfl
theorem at_odd {k : Nat} (hk : k < es.length) : atE es (2 * k + 1) = es[k].2 := by
 unfold atE
 rw [if_neg (by omega), show (2 * k + 1) / 2 = k by omega, List.getD_eq_getElem?_getD, List.getElem?_eq_getElem hk]; rfl
theorem vtx_edge {N : Nat} (hin : InN N es) {k : Nat} (hk : k < es.length) : es[k] = ((vtx es (2 * k) : Int), (vtx es (2 * k + 1) : Int)) ∧ vtx es (2 * k) < N ∧ vtx es (2 * k + 1) < N := by
 obtain ⟨t, u, e, ht, hu⟩ := hin.at_ hk
 unfold vtx
 rw [at_even hk, at_odd hk, e]
 exact ⟨rfl, ht, hu⟩
theorem vtx_lt {N : Nat} (hin : InN N es) {d : Nat} (hd : d < 2 * es.length) : vtx es d < N := by
 obtain ⟨_, h1, h2⟩ := vtx_edge hin (k := d / 2) (by omega)
 rcases Nat.mod_two_eq_zero_or_one d with h | h
 ·rw [show d = 2 * (d / 2) by omega]; exact h1
 ·rw [show d = 2 * (d / 2) + 1 by omega]; exact h2
theorem Q.symm {k x y : Nat} (h : Q es k x y) : Q es k y x := Star.sym (fun _ _ e => e.symm) h
theorem Q.mono {k x y : Nat} (h : Q es k x y) : Q es (k + 1) x y := Star.mono (fun _ _ ⟨i, hi, hc, r⟩ => ⟨i, hi, by simp at hc ⊢; omega, r⟩) h
theorem Q_equ (N k : Nat) : Equ N (Q es k) := ⟨fun x _ => .refl x, fun _ _ _ _ h => h.symm, fun _ _ _ _ _ _ h g => h.trans g⟩
theorem Q_zero {x y : Nat} : Q es 0 x y ↔ x = y := by
 constructor
 ·intro h
  cases h with
  | refl => rfl
  | head e _ => obtain ⟨i, _, hc, _⟩ := e; simp at hc
 ·rintro rfl; exact .refl _
theorem Q_edge {N : Nat} (hin : InN N es) {k j : Nat} (hj : j < es.length) (hjk : j < k) : Q es k (vtx es (2 * j)) (vtx es (2 * j + 1)) :=
 .one ⟨j, hj, by simpa using hjk, .inl (vtx_edge hin hj).1⟩
theorem Q_succ {N : Nat} (hin : InN N es) {k : Nat} (hk : k < es.length) {x y : Nat} : Q es (k + 1) x y ↔ Merge (Q es k) (vtx es (2 * k)) (vtx es (2 * k + 1)) x y := by
 obtain ⟨he, _, _⟩ := vtx_edge hin hk
 generalize ht : vtx es (2 * k) = t at *
 generalize hu : vtx es (2 * k + 1) = u at *
 constructor
 ·intro h
  induction h with
  | refl x => exact .inl (.refl x)
  | @head x y z e _ ih =>
   obtain ⟨i, hi, hc, r⟩ := e
   have hc : i < k + 1 := by simpa using hc
   by_cases hik : i = k
   ·subst hik
    have hxy : (x = t ∧ y = u) ∨ (x = u ∧ y = t) := by
     rw [he] at r
     rcases r with r | ⟨_, r⟩ <;> simp only [Prod.mk.injEq] at r
     ·exact .inl ⟨by omega, by omega⟩
     ·exact .inr ⟨by omega, by omega⟩
    rcases hxy with ⟨rfl, rfl⟩ | ⟨rfl, rfl⟩
    ·rcases ih with h1 | ⟨h1, h2⟩ | ⟨h1, h2⟩
     ·exact .inr (.inl ⟨.refl _, h1⟩)
     ·exact .inr (.inl ⟨.refl _, h2⟩)
     ·exact .inl h2
    ·rcases ih with h1 | ⟨h1, h2⟩ | ⟨h1, h2⟩
     ·exact .inr (.inr ⟨.refl _, h1⟩)
     ·exact .inl h2
     ·exact .inr (.inr ⟨.refl _, h2⟩)
   ·have hq : Q es k x y := .one ⟨i, hi, by simp; omega, r⟩
    rcases ih with h1 | ⟨h1, h2⟩ | ⟨h1, h2⟩
    ·exact .inl (hq.trans h1)
    ·exact .inr (.inl ⟨hq.trans h1, h2⟩)
    ·exact .inr (.inr ⟨hq.trans h1, h2⟩)
 ·have htu : Q es (k + 1) t u := by rw [← ht, ← hu]; exact Q_edge hin hk (by omega)
  rintro (h | ⟨h1, h2⟩ | ⟨h1, h2⟩)
  ·exact h.mono
  ·exact (h1.mono.trans htu).trans h2.mono
  ·exact (h1.mono.trans htu.symm).trans h2.mono
theorem orb_Q (h : RightP n es rs) {N : Nat} (hin : InN N es) {k : Nat} (hk : k ≤ es.length) {x y : Nat} (hx : x < 2 * es.length) (o : Orb (phik es rs k) x y) : Q es k (vtx es x) (vtx es y) := by
 obtain ⟨i, rfl⟩ := o
 induction i generalizing x with
 | zero => exact .refl _
 | succ i ih =>
  have hlt := (phik_perm h k hk).lt x hx
  refine Star.trans ?_ (ih hlt)
  unfold phik
  split
  ·rename_i h1
   rw [(vtx_sig h (ot_lt hx)).2]
   have hj : x / 2 < es.length := by omega
   have hq := Q_edge (k := k) hin hj (by omega)
   rcases Nat.mod_two_eq_zero_or_one x with h2 | h2
   ·have e1 : x = 2 * (x / 2) := by omega
    rw [show ot x = 2 * (x / 2) + 1 by unfold ot; rw [if_pos h2]; omega]
    have e2 : vtx es x = vtx es (2 * (x / 2)) := congrArg _ e1
    rw [e2]
    exact hq
   ·have e1 : x = 2 * (x / 2) + 1 := by omega
    rw [show ot x = 2 * (x / 2) by unfold ot; rw [if_neg (by omega)]; omega]
    have e2 : vtx es x = vtx es (2 * (x / 2) + 1) := congrArg _ e1
    rw [e2]
    exact hq.symm
  ·rw [(vtx_sig h hx).2]
   exact .refl _
theorem cls_map {v : Nat → Nat} {M : Nat} : ∀ N, (∀ h, h < N → v h < M) → cls (fun x y => v x = v y) N = (List.range M).countP (fun x => tst (∃ h, h < N ∧ v h = x))
 | 0, _ => by
  unfold cls
  rw [List.range_zero, List.countP_nil, eq_comm, List.countP_eq_zero]
  intro x _ h
  obtain ⟨h, hh, _⟩ := tst_iff.1 h
  omega
 | N + 1, hv => by
  have ih := cls_map N (fun h hh => hv h (by omega))
  unfold cls at ih ⊢
  rw [List.range_succ, List.countP_append, ih]
  simp only [List.countP_cons, List.countP_nil, Nat.zero_add]
  by_cases hN : ∃ k, k < N ∧ v k = v N
  ·rw [if_neg (by
    rw [tst_iff]
    intro g
    obtain ⟨k, hk, e⟩ := hN
    exact g k hk e), Nat.add_zero]
   apply List.countP_congr
   intro x _
   rw [tst_iff, tst_iff]
   constructor
   ·rintro ⟨h, hh, e⟩; exact ⟨h, by omega, e⟩
   ·rintro ⟨h, hh, e⟩
    by_cases hhN : h = N
    ·obtain ⟨k, hk, e2⟩ := hN
     exact ⟨k, hk, by rw [e2, ← hhN, e]⟩
    ·exact ⟨h, by omega, e⟩
  ·rw [if_pos (by
    rw [tst_iff]
    intro k hk e
    exact hN ⟨k, hk, e⟩)]
   have := countP_less (p := fun x => tst (∃ h, h < N + 1 ∧ v h = x)) (q := fun x => tst (∃ h, h < N + 1 ∧ v h = x) && !decide (x = v N)) (m := v N) (by rw [tst_iff]; exact ⟨N, by omega, rfl⟩) (fun _ => rfl) M
   rw [this, if_pos (hv N (by omega))]
   congr 1
   apply List.countP_congr
   intro x _
   rw [Bool.and_eq_true, tst_iff, tst_iff, Bool.not_eq_true', decide_eq_false_iff_not]
   constructor
   ·rintro ⟨h, hh, e⟩
    exact ⟨⟨h, by omega, e⟩, fun e2 => hN ⟨h, hh, by rw [e, e2]⟩⟩
   ·rintro ⟨⟨h, hh, e⟩, hne⟩
    refine ⟨h, ?_, e⟩
    have : h ≠ N := fun e2 => hne (by rw [← e, e2])
    omega
theorem iter_sig (h : RightP n es rs) {x i : Nat} (hx : x < rs.length) (hi : i < rs[x].length) {d : Nat} (hd : rs[x][i] = (d : Int)) : ∀ t, rs[x][(i + t) % rs[x].length]'(Nat.mod_lt _ (by omega)) = (iter (sig es rs) t d : Nat)
 | 0 => by
  have : (i + 0) % rs[x].length = i := Nat.mod_eq_of_lt hi
  simp only [this]
  exact hd
 | t + 1 => by
  have := sig_pos h hx (Nat.mod_lt (i + t) (by omega)) (iter_sig h hx hi hd t)
  rw [iter_succ, ← this]
  congr 1
  rw [← Nat.add_assoc, Nat.mod_add_mod]
theorem orb_sig (h : RightP n es rs) {a b : Nat} (ha : a < 2 * es.length) (hb : b < 2 * es.length) : Orb (sig es rs) a b ↔ vtx es a = vtx es b := by
 constructor
 ·rintro ⟨i, rfl⟩
  clear hb
  induction i generalizing a with
  | zero => rfl
  | succ i ih =>
   obtain ⟨h1, h2⟩ := vtx_sig h ha
   exact h2.symm.trans (ih h1)
 ·intro e
  obtain ⟨x, i, hx, hi, h1, hv⟩ := h.pos ha
  obtain ⟨y, j, hy, hj, h2, hw⟩ := h.pos hb
  have hxy : x = y := by rw [← hv, ← hw, e]
  subst hxy
  refine ⟨j + rs[x].length - i, ?_⟩
  have := iter_sig h hx hi h1 (j + rs[x].length - i)
  have e1 : (i + (j + rs[x].length - i)) % rs[x].length = j := by
   rw [show i + (j + rs[x].length - i) = j + rs[x].length by omega, Nat.add_mod_right, Nat.mod_eq_of_lt hj]
  simp only [e1] at this
  rw [h2] at this
  omega
theorem cls_sig (h : RightP n es rs) (hin : InN rs.length es) : cls (Orb (sig es rs)) (2 * es.length) + iso rs = rs.length := by
 rw [cls_congr (S := fun x y => vtx es x = vtx es y) (fun x y hx hy => orb_sig h hx hy), cls_map (M := rs.length) _ (fun d hd => vtx_lt hin hd)]
 have e : (List.range rs.length).countP (fun x => tst (∃ h, h < 2 * es.length ∧ vtx es h = x)) = (List.range rs.length).countP (fun a => decide ¬(decide ((rs.getD a []).length = 0)) = true) := by
  apply List.countP_congr
  intro x hx
  have hx := List.mem_range.1 hx
  have e1 : rs.getD x [] = rs[x] := by rw [List.getD_eq_getElem?_getD, List.getElem?_eq_getElem hx]; rfl
  rw [e1, tst_iff, decide_eq_true_eq, decide_eq_true_eq]
  constructor
  ·rintro ⟨d, hd, e2⟩
   obtain ⟨y, i, hy, hi, _, hv⟩ := h.pos hd
   have : y = x := by rw [← hv, e2]
   subst this
   omega
  ·intro hne
   obtain ⟨d, _, hd, hv⟩ := h.nat hx (i := 0) (by omega)
   exact ⟨d, hd, hv⟩
 have e2 := List.length_eq_countP_add_countP (fun x => decide ((rs.getD x []).length = 0)) (l := List.range rs.length)
 rw [List.length_range] at e2
 unfold iso
 rw [e]
 omega
theorem euler (h : RightP n es rs) (hin : InN rs.length es) : ∀ k, k ≤ es.length → ∃ g : Nat, 2 * cls (Q es k) rs.length + k = rs.length + iso rs + cls (Orb (phik es rs k)) (2 * es.length) + 2 * g
 | 0, _ => by
  refine ⟨0, ?_⟩
  have h1 : cls (Q es 0) rs.length = rs.length := by
   unfold cls
   have : (List.range rs.length).countP (fun h => tst (∀ k, k < h → ¬ Q es 0 k h)) = (List.range rs.length).length := by
    rw [List.countP_eq_length]
    intro x _
    rw [tst_iff]
    intro k hk hq
    rw [Q_zero] at hq
    omega
   rw [this, List.length_range]
  have h2 := cls_sig h hin
  rw [phik_zero]
  omega
 | k + 1, hk => by
  obtain ⟨g, hg⟩ := euler h hin k (by omega)
  have hP := phik_perm h k (by omega)
  have hkl : k < es.length := by omega
  obtain ⟨_, ht, hu⟩ := vtx_edge hin hkl
  have hQ : cls (Q es (k + 1)) rs.length = cls (Merge (Q es k) (vtx es (2 * k)) (vtx es (2 * k + 1))) rs.length := cls_congr fun x y _ _ => Q_succ hin hkl
  have h2a : 2 * k < 2 * es.length := by omega
  have h2b : 2 * k + 1 < 2 * es.length := by omega
  by_cases ho : Orb (phik es rs k) (2 * k) (2 * k + 1)
  ·have e1 := cls_joined hP h2a h2b (by omega) ho
   rw [← phik_succ] at e1
   have hq := orb_Q h hin (by omega) h2a ho
   rw [cls_same (Q_equ _ k) ht hu hq] at hQ
   exact ⟨g, by omega⟩
  ·have e1 := cls_apart hP h2a h2b ho
   rw [← phik_succ] at e1
   by_cases hq : Q es k (vtx es (2 * k)) (vtx es (2 * k + 1))
   ·rw [cls_same (Q_equ _ k) ht hu hq] at hQ
    exact ⟨g + 1, by omega⟩
   ·have := cls_merge (Q_equ rs.length k) ht hu hq
    exact ⟨g, by omega⟩
end
end Go.Proofs.YtneeknlhlkpnpaaGreat
namespace Go.Proofs.YtneeknlhlkpnpaaGreat
open Go.RowKit
open Classical in
noncomputable def per (f : Nat → Nat) (h : Nat) : Nat := if H : ∃ p, (0 < p ∧ iter f p h = h) ∧ ∀ q, q < p → ¬ (0 < q ∧ iter f q h = h) then Classical.choose H else 0
theorem per_spec {N : Nat} {f : Nat → Nat} (hf : Perm N f) {h : Nat} (hh : h < N) : 0 < per f h ∧ per f h ≤ N ∧ iter f (per f h) h = h ∧ ∀ q, 0 < q → q < per f h → iter f q h ≠ h := by
 obtain ⟨p, hp, hpN, hpe⟩ := hf.period hh
 obtain ⟨m, hmp, hm, hl⟩ := least_of (P := fun p => 0 < p ∧ iter f p h = h) ⟨hp, hpe⟩
 have H : ∃ p, (0 < p ∧ iter f p h = h) ∧ ∀ q, q < p → ¬ (0 < q ∧ iter f q h = h) := ⟨m, hm, hl⟩
 have e : per f h = Classical.choose H := by unfold per; rw [dif_pos H]
 obtain ⟨⟨c1, c2⟩, c3⟩ := Classical.choose_spec H
 rw [e]
 refine ⟨c1, ?_, c2, fun q h1 h2 h3 => c3 q h2 ⟨h1, h3⟩⟩
 rcases Nat.lt_or_ge N (Classical.choose H) with h4 | h4
 ·exact absurd hm (c3 m (by omega))
 ·exact h4
theorem per_inj {N : Nat} {f : Nat → Nat} (hf : Perm N f) {h : Nat} (hh : h < N) {i j : Nat} (hij : i < j) (hj : j < per f h) : iter f i h ≠ iter f j h := by
 intro e
 have e2 : iter f i h = iter f i (iter f (j - i) h) := by
  rw [← iter_add f (j - i) i h, show j - i + i = j by omega]; exact e
 exact (per_spec hf hh).2.2.2 (j - i) (by omega) (by omega) (hf.iter_inj i hh (hf.iter_lt _ hh) e2).symm
theorem orb_per {N : Nat} {f : Nat → Nat} (hf : Perm N f) {h : Nat} (hh : h < N) (x : Nat) : Orb f h x ↔ ∃ i, i < per f h ∧ iter f i h = x := by
 obtain ⟨h1, _, h3, _⟩ := per_spec hf hh
 constructor
 ·rintro ⟨i, rfl⟩
  refine ⟨i % per f h, Nat.mod_lt _ h1, ?_⟩
  conv => rhs; rw [← Nat.div_add_mod i (per f h), iter_add, iter_mul h3]
 ·rintro ⟨i, _, e⟩; exact ⟨i, e⟩
noncomputable def rowOf (f : Nat → Nat) (h : Nat) : List Int := (List.range (per f h)).map fun i => ((iter f i h : Nat) : Int)
noncomputable def leastB (f : Nat → Nat) (h : Nat) : Bool := tst (∀ j, j < h → ¬ Orb f j h)
noncomputable def rowsUpto (f : Nat → Nat) (k : Nat) : List (List Int) := ((List.range k).filter (leastB f)).map (rowOf f)
theorem rowsUpto_succ (f : Nat → Nat) (k : Nat) : rowsUpto f (k + 1) = rowsUpto f k ++ if leastB f k = true then [rowOf f k] else [] := by
 unfold rowsUpto
 rw [List.range_succ, List.filter_append, List.map_append]
 by_cases h : leastB f k = true <;> simp [h]
theorem rowsUpto_length (f : Nat → Nat) (N : Nat) : (rowsUpto f N).length = cls (Orb f) N := by
 unfold rowsUpto cls
 rw [List.length_map, List.countP_eq_length_filter]
 rfl
section
variable {N : Nat} {f : Nat → Nat} {nx : List Int}
theorem fWalk_orb (hf : Perm N f) (hl : nx.length = N) (hnx : ∀ h, h < N → nx.getD h 0 = (f h : Nat)) {k : Nat} (hk : k < N) {seen0 : List Bool} (h0 : ∀ i, seen0.getD (iter f i k) false = false) : ∀ (d i fuel : Nat) (seen : List Bool) (face : List Int), i + d = per f k → d < fuel → seen.length = N →
  (∀ h, seen.getD h false = true ↔ seen0.getD h false = true ∨ ∃ j, j < i ∧ iter f j k = h) →
  ∃ seen' : List Bool, fWalk nx fuel seen (iter f i k) face = (seen', face ++ (List.range' i d).map fun j => ((iter f j k : Nat) : Int)) ∧ seen'.length = N ∧ ∀ h, seen'.getD h false = true ↔ seen0.getD h false = true ∨ ∃ j, j < per f k ∧ iter f j k = h
 | 0, i, fuel, seen, face, hi, hfu, hsl, hs => by
  have hi : i = per f k := by omega
  obtain ⟨h1, _, h3, _⟩ := per_spec hf hk
  have : seen.getD (iter f i k) false = true := (hs _).2 (.inr ⟨0, by omega, by rw [hi, h3]; rfl⟩)
  refine ⟨seen, by rw [fWalk_stop this]; simp, hsl, fun h => by rw [hs h, hi]⟩
 | d + 1, i, fuel, seen, face, hi, hfu, hsl, hs => by
  obtain ⟨fu, rfl⟩ : ∃ fu, fuel = fu + 1 := ⟨fuel - 1, by omega⟩
  have hlt := hf.iter_lt i hk
  have hno : seen.getD (iter f i k) false = false := by
   rw [← Bool.not_eq_true, hs]
   rintro (h | ⟨j, hj, e⟩)
   ·rw [h0] at h; cases h
   ·exact per_inj hf hk hj (by omega) e
  rw [fWalk_go hno, hnx _ hlt, show ((f (iter f i k) : Nat) : Int).toNat = iter f (i + 1) k by rw [iter_succ]; rfl]
  obtain ⟨seen', e1, e2, e3⟩ := fWalk_orb hf hl hnx hk h0 d (i + 1) fu (seen.set (iter f i k) true) (face ++ [((iter f i k : Nat) : Int)]) (by omega) (by omega) (by simp [hsl]) (fun h => by
   rw [getD_setT _ _ _ (by omega), Bool.or_eq_true, decide_eq_true_eq, hs h]
   constructor
   ·rintro (h1 | h1 | ⟨j, hj, e⟩)
    ·exact .inr ⟨i, by omega, h1.symm⟩
    ·exact .inl h1
    ·exact .inr ⟨j, by omega, e⟩
   ·rintro (h1 | ⟨j, hj, e⟩)
    ·exact .inr (.inl h1)
    ·by_cases hji : j = i
     ·subst hji; exact .inl e.symm
     ·exact .inr (.inr ⟨j, by omega, e⟩))
  refine ⟨seen', ?_, e2, e3⟩
  rw [e1, List.range'_succ, List.map_cons, List.append_assoc]
  rfl
theorem fAll_orb (hf : Perm N f) (hl : nx.length = N) (hnx : ∀ h, h < N → nx.getD h 0 = (f h : Nat)) : ∀ k, k ≤ N → (∀ h, (fAll nx k).1.getD h false = true ↔ h < N ∧ ∃ j, j < k ∧ Orb f j h) ∧ (fAll nx k).2 = rowsUpto f k
 | 0, _ => by
  refine ⟨fun h => ?_, rfl⟩
  have : (fAll nx 0).1.getD h false = false := by
   show (List.replicate nx.length false).getD h false = false
   rw [List.getD_eq_getElem?_getD, List.getElem?_replicate]
   split <;> rfl
  rw [this]
  exact ⟨fun h => (by cases h), fun ⟨_, j, hj, _⟩ => (by omega)⟩
 | k + 1, hk => by
  obtain ⟨h1, h2⟩ := fAll_orb hf hl hnx k (by omega)
  have hkN : k < N := by omega
  have hsl : (fAll nx k).1.length = N := (fAll_seen nx k).trans hl
  rw [fAll_succ, rowsUpto_succ]
  unfold fStep
  have hlk : leastB f k = true ↔ ¬ ∃ j, j < k ∧ Orb f j k := by
   unfold leastB
   rw [tst_iff]
   exact ⟨fun g ⟨j, hj, o⟩ => g j hj o, fun g j hj o => g ⟨j, hj, o⟩⟩
  by_cases hs : (fAll nx k).1.getD k false = true
  ·have hex : ∃ j, j < k ∧ Orb f j k := ((h1 k).1 hs).2
   rw [fWalk_stop hs, if_neg (fun h => hlk.1 h hex)]
   simp only [List.length_nil, Nat.lt_irrefl, if_false, List.append_nil]
   refine ⟨fun h => ?_, h2⟩
   rw [h1 h]
   constructor
   ·rintro ⟨hh, j, hj, o⟩; exact ⟨hh, j, by omega, o⟩
   ·rintro ⟨hh, j, hj, o⟩
    refine ⟨hh, ?_⟩
    by_cases hjk : j = k
    ·subst hjk
     obtain ⟨j', hj', o'⟩ := hex
     exact ⟨j', hj', o'.trans o⟩
    ·exact ⟨j, by omega, o⟩
  ·have hno : ¬ ∃ j, j < k ∧ Orb f j k := fun h => hs ((h1 k).2 ⟨hkN, h⟩)
   have h0 : ∀ i, (fAll nx k).1.getD (iter f i k) false = false := fun i => by
    rw [← Bool.not_eq_true, h1]
    rintro ⟨_, j, hj, o⟩
    exact hno ⟨j, hj, o.trans (Orb.symm hf hkN ⟨i, rfl⟩)⟩
   obtain ⟨p1, p2, _, _⟩ := per_spec hf hkN
   obtain ⟨seen', e1, _, e3⟩ := fWalk_orb hf hl hnx hkN h0 (per f k) 0 (nx.length + 1) (fAll nx k).1 [] (by omega) (by omega) hsl (fun h => ⟨.inl, fun g => g.resolve_right fun ⟨j, hj, _⟩ => by omega⟩)
   rw [show iter f 0 k = k from rfl] at e1
   rw [e1, if_pos (hlk.2 hno)]
   simp only [List.nil_append]
   have er : (List.range' 0 (per f k)).map (fun j => ((iter f j k : Nat) : Int)) = rowOf f k := by
    unfold rowOf; rw [List.range_eq_range']
   rw [er]
   have hlen : 0 < (rowOf f k).length := by unfold rowOf; simpa using p1
   rw [if_pos hlen]
   refine ⟨fun h => ?_, by rw [h2]⟩
   rw [e3 h, h1 h, ← orb_per hf hkN]
   constructor
   ·rintro (⟨hh, j, hj, o⟩ | o)
    ·exact ⟨hh, j, by omega, o⟩
    ·exact ⟨o.lt hf hkN, k, by omega, o⟩
   ·rintro ⟨hh, j, hj, o⟩
    by_cases hjk : j = k
    ·subst hjk; exact .inr o
    ·exact .inl ⟨hh, j, by omega, o⟩
end
theorem nxf_perm {n : Int} {es : List (Int × Int)} {rs : List (List Int)} (h : RightP n es rs) : Perm (2 * es.length) (nxf es rs) :=
 ⟨fun x hx => by rw [← phik_all hx]; exact (phik_perm h _ (Nat.le_refl _)).lt x hx, fun x y hx hy e => (phik_perm h _ (Nat.le_refl _)).inj x y hx hy (by rw [phik_all hx, phik_all hy, e])⟩
theorem nxf_at {n : Int} {es : List (Int × Int)} {rs : List (List Int)} (h : RightP n es rs) {d : Nat} (hd : d < 2 * es.length) : (nextsL es.length rs).getD d 0 = (nxf es rs d : Nat) := by
 obtain ⟨v, hv, _⟩ := nextsL_at (m := es.length) (k := d) hd (fun l hl a ha => by
  obtain ⟨x, hx, rfl⟩ := List.mem_iff_getElem.1 hl
  exact ⟨(h.at_ x hx a ha).1, (h.at_ x hx a ha).2.1⟩)
 unfold nxf
 rw [hv]; rfl
theorem faces_rows {n : Int} {es : List (Int × Int)} {rs : List (List Int)} (h : RightP n es rs) : facesOf n es rs = rowsUpto (nxf es rs) (2 * es.length) := by
 unfold facesOf facesL
 rw [if_pos (right_iff.2 h)]
 have hl : (nextsL es.length rs).length = 2 * es.length := nAll_length _ _ _
 rw [hl]
 exact (fAll_orb (nxf_perm h) hl (fun d hd => nxf_at h hd) _ (Nat.le_refl _)).2
theorem orb_congr {N : Nat} {f g : Nat → Nat} (hf : Perm N f) (e : ∀ x, x < N → f x = g x) {x y : Nat} (hx : x < N) : Orb f x y ↔ Orb g x y := by
 have key : ∀ i x, x < N → iter f i x = iter g i x := by
  intro i
  induction i with
  | zero => exact fun _ _ => rfl
  | succ i ih => intro x hx; show iter f i (f x) = iter g i (g x); rw [ih _ (hf.lt x hx), e x hx]
 exact ⟨fun ⟨i, h⟩ => ⟨i, by rw [← key i x hx]; exact h⟩, fun ⟨i, h⟩ => ⟨i, by rw [key i x hx]; exact h⟩⟩
theorem euler_all {n : Int} {es : List (Int × Int)} {rs : List (List Int)} (h : RightP n es rs) (hin : InN rs.length es) :
  ∃ g : Nat, 2 * cls (Q es es.length) rs.length + es.length = rs.length + iso rs + (facesOf n es rs).length + 2 * g := by
 obtain ⟨g, hg⟩ := euler h hin es.length (Nat.le_refl _)
 refine ⟨g, ?_⟩
 rw [faces_rows h, rowsUpto_length, cls_congr (fun x y hx _ => orb_congr (nxf_perm h) (fun d hd => (phik_all hd).symm) hx)]
 exact hg
end Go.Proofs.YtneeknlhlkpnpaaGreat
namespace Go.Proofs.YtneeknlhlkpnpaaGreat
open Go.RowKit
noncomputable def gen (n : Int) (es : List (Int × Int)) (rs : List (List Int)) : Nat := (2 * cls (Q es es.length) rs.length + es.length - (rs.length + iso rs + (facesOf n es rs).length)) / 2
theorem gen_spec {n : Int} {es : List (Int × Int)} {rs : List (List Int)} (h : RightP n es rs) (hin : InN rs.length es) : 2 * cls (Q es es.length) rs.length + es.length = rs.length + iso rs + (facesOf n es rs).length + 2 * gen n es rs := by
 obtain ⟨g, hg⟩ := euler_all h hin
 unfold gen
 omega
theorem right_inN {n : Int} {es : List (Int × Int)} {rs : List (List Int)} (h : RightP n es rs) : InN rs.length es := by
 have := badE_in h.may
 rw [← h.len] at this
 exact this
theorem faces_le {n : Int} {es : List (Int × Int)} {rs : List (List Int)} (h : RightP n es rs) : (facesOf n es rs).length ≤ 2 * es.length := by
 rw [faces_rows h, rowsUpto_length]
 unfold cls
 exact Nat.le_trans List.countP_le_length (by simp)
theorem parts_cls {n : Nat} {es : List (Int × Int)} {T : List Nat} (hin : InN n es) (hn : n ≤ 64) (hT : Grown1 true (withoutB 0 es) n es T) : (partsUpto T 0 n).1.length = cls (Q es es.length) n := by
 have hK : ∀ x y, Kin 0 es x y ↔ Q es es.length x y := fun x y => by
  unfold Kin Q
  refine Star.congr fun i hi => ?_
  unfold withoutB
  have h0 : ∀ a, setHas 0 a = false := fun a => by simp [setHas]
  rw [h0, h0, decide_eq_true hi]
  rfl
 suffices ∀ k, k ≤ n → (partsUpto T 0 k).1.length = (List.range k).countP fun x => tst (∀ z, z < x → ¬ Q es es.length z x) from this n (Nat.le_refl _)
 intro k
 induction k with
 | zero => intro _; rfl
 | succ k ih =>
  intro hk
  rw [partsUpto_succ', List.range_succ, List.countP_append, ← ih (by omega)]
  have hd := done_iff hin hn hT k (by omega) k (by omega)
  simp only [List.countP_cons, List.countP_nil, Nat.zero_add]
  by_cases h : setHas (partsUpto T 0 k).2 k = true
  ·rw [if_pos h, if_neg]
   ·rfl
   ·rw [tst_iff]
    intro g
    rcases hd.1 h with h1 | ⟨z, hz, _, hk2⟩
    ·simp at h1
    ·exact g z hz ((hK _ _).1 hk2)
  ·rw [if_neg h, if_pos]
   ·simp
   ·rw [tst_iff]
    intro z hz hq
    exact h (hd.2 (.inr ⟨z, hz, by simp, (hK _ _).2 hq⟩))
theorem parts0_is (N : Nat) (A : Option Addr) (cap : Nat) (es : List (Int × Int)) (w : World) (hes : Cells w w.heap.size A (edgeCells es)) (hm : mayB N es = true) :
  Calls Tryz.prog 106 #[.agg #[.int .i64 N, .slice A es.length cap], .int .u64 0] w (fun e w' => ∃ A c, e = .returned (.slice A (cls (Q es es.length) N) c) ∧ Below w.heap.size w w') := by
 refine (parts_any N A cap es 0 (by omega) w hes).mono ?_
 rintro e w5 ⟨v5, rfl, hb6, hv5, _⟩
 obtain ⟨T, hT, ho⟩ := hv5 hm
 have hin : InN N es := badE_in hm
 have hn := (may_parts hm).2.1
 have hpc := parts_cls hin (by omega) hT
 have ho : w5.ownsRow w.heap.size 157 1 v5 (partsUpto T 0 N).1.length (setCells (partsUpto T 0 N).1) := ho
 have hpc : (partsUpto T 0 N).1.length = cls (Q es es.length) N := hpc
 rw [hpc] at ho
 obtain ⟨A5, c5, rfl⟩ := own_slice ho
 exact ⟨A5, c5, rfl, hb6⟩
def isoU (rs : List (List Int)) (k : Nat) : Nat := (List.range k).countP fun x => decide ((rs.getD x []).length = 0)
theorem isoU_succ (rs : List (List Int)) (k : Nat) : isoU rs (k + 1) = isoU rs k + if (rs.getD k []).length = 0 then 1 else 0 := by
 unfold isoU
 rw [List.range_succ, List.countP_append]
 simp
theorem isoU_le (rs : List (List Int)) (k : Nat) : isoU rs k ≤ k := Nat.le_trans List.countP_le_length (by simp)
theorem gen_val {P N m F u g : Nat} (h : 2 * P + m = N + u + F + 2 * g) (hP : P ≤ 1000) (hN : N ≤ 1000) (hm : m ≤ 1000) (hF : F ≤ 1000) (hu : u ≤ 1000) :
  IntKind.i64.wrap ((IntKind.i64.wrap (IntKind.i64.wrap (IntKind.i64.wrap (IntKind.i64.wrap (2 * (P : Int)) - (N : Int)) + (m : Int)) - ((F : Int) + (u : Int)))).tdiv 2) = (g : Int) := by
 have e1 : IntKind.i64.wrap (2 * (P : Int)) = 2 * (P : Int) := by rw [IntKind.wrap_i64]; omega
 have e2 : IntKind.i64.wrap (2 * (P : Int) - (N : Int)) = 2 * (P : Int) - (N : Int) := by rw [IntKind.wrap_i64]; omega
 have e3 : IntKind.i64.wrap (2 * (P : Int) - (N : Int) + (m : Int)) = 2 * (P : Int) - (N : Int) + (m : Int) := by rw [IntKind.wrap_i64]; omega
 have e4 : IntKind.i64.wrap (2 * (P : Int) - (N : Int) + (m : Int) - ((F : Int) + (u : Int))) = 2 * (g : Int) := by rw [IntKind.wrap_i64]; omega
 have e5 : Int.tdiv (2 * (g : Int)) 2 = (g : Int) := by rw [Int.tdiv_eq_ediv_of_nonneg (by omega)]; omega
 rw [e1, e2, e3, e4, e5, IntKind.wrap_i64]
 omega
def GenusPost (n : Int) (es : List (Int × Int)) (rs : List (List Int)) (w : World) (e : Ending) (w' : World) : Prop :=
 Below w.heap.size w w' ∧ (rightB n es rs = true → e = .returned (.tuple #[.int .i64 (gen n es rs : Nat), .int .i64 0])) ∧ (rightB n es rs = false → e = .returned (.tuple #[.int .i64 0, .int .i64 1]))
set_option maxRecDepth 20000 in
set_option maxHeartbeats 2000000 in
theorem genus_any (n : Int) (A C : Option Addr) (cap ccap : Nat) (es : List (Int × Int)) (rs : List (List Int)) (w : World) (hes : Cells w w.heap.size A (edgeCells es)) (hrs : RowsAt w w.heap.size C rs) (hr1 : rs.length ≤ 1000) (hr2 : ∀ l ∈ rs, l.length ≤ 1000) :
  Calls Tryz.prog 104 #[.agg #[.int .i64 n, .slice A es.length cap], .slice C rs.length ccap] w (GenusPost n es rs w) := by
 go_enter Tryz.func104, Tryz.ntmps104
 go_wp2_with fail
 have b0 := World.cell?_alloc_new w #[.int .i64 n, .slice A es.length cap] 24 0
 have b1 := World.cell?_alloc_new w #[.int .i64 n, .slice A es.length cap] 24 1
 simp only [List.getElem?_toArray, List.getElem?_cons_zero, List.getElem?_cons_succ] at b0 b1
 have hbw := (Below.refl w.heap.size w).alloc (Nat.le_refl _) (.cells #[.int .i64 n, .slice A es.length cap] 24)
 have s1 := World.size_alloc w (.cells #[.int .i64 n, .slice A es.length cap] 24)
 generalize w.alloc (.cells #[.int .i64 n, .slice A es.length cap] 24) = w1 at *
 refine (right_any n A C cap ccap es rs w1 ((hes.below hbw).more (by omega)) ((hrs.below hbw).more (by omega)) hr1 hr2).mono ?_
 rintro e w2 ⟨rfl, hb2⟩
 have c0 := (hb2.cell (p := ⟨w.heap.size, 0, none⟩) (by simp; omega)).trans b0
 have c1 := (hb2.cell (p := ⟨w.heap.size, 1, none⟩) (by simp; omega)).trans b1
 have hb3 := hbw.trans (hb2.mono (by omega))
 have l2 : w.heap.size < w2.heap.size := by have := hb2.size; omega
 clear b0 b1 hb2 hbw s1
 cases hm : rightB n es rs with
 | false =>
  have Hm := Lib.hid hm
  clear hm
  go_wp2_with fail
  go_ret2
  exact ⟨hb3, fun h => (by rw [Hm.out] at h; cases h), fun _ => rfl⟩
 | true =>
  have HP := Lib.hid (right_iff.1 hm)
  have Hm := Lib.hid hm
  obtain ⟨hn0, hn1, hn2⟩ := may_parts (right_may hm)
  clear hm
  have hF := faces_le HP.out
  go_wp2_with fail
  refine (faces_any n A C cap ccap es rs w2 ((hes.below hb3).more (by omega)) ((hrs.below hb3).more (by omega)) hr1 hr2).mono ?_
  rintro e w3 ⟨Af, cf, rfl, hb4, _⟩
  have c0 := (hb4.cell (p := ⟨w.heap.size, 0, none⟩) l2).trans c0
  have c1 := (hb4.cell (p := ⟨w.heap.size, 1, none⟩) l2).trans c1
  have hb5 := hb3.trans (hb4.mono (Nat.le_of_lt l2))
  have l3 : w.heap.size < w3.heap.size := by have := hb4.size; omega
  clear hb3 hb4 l2
  have hG := gen_spec HP.out (right_inN HP.out)
  have HG := Lib.hid hG
  clear hG
  generalize hFl : (facesOf n es rs).length = F at *
  clear hFl
  have hrs3 := hrs.below hb5
  go_wp2_with fail
  go_loopg [6, 19] rs.length (fun k s6 s19 wr => ∃ i : Nat, s19 = .int .i64 i ∧ i ≤ rs.length ∧ k = rs.length - i ∧ wr = w3 ∧ s6 = .int .i64 ((F : Int) + (isoU rs i : Nat)))
  case atStart => exact ⟨0, rfl, Nat.zero_le _, rfl, rfl, by simp [isoU]⟩
  case round =>
   obtain ⟨i, rfl, hi, hk, hwr, rfl⟩ := hrel
   have Hk := Lib.hid hk; clear hk
   have hiU := isoU_le rs i
   by_cases hlt : i < rs.length
   ·have hlt' : (i : Int) < rs.length := by omega
    obtain ⟨b, off, rfl, hbb, hc⟩ := hrs3 (by omega)
    obtain ⟨Ai, ci, e0, _⟩ := hc i hlt
    have e0 : wr.cell? ⟨b, off + i, none⟩ = some (.slice Ai rs[i].length ci) := by rw [hwr]; exact e0
    have HS := Lib.hid (show isoU rs (i + 1) = isoU rs i + if rs[i].length = 0 then 1 else 0 by rw [isoU_succ, List.getD_eq_getElem?_getD, List.getElem?_eq_getElem hlt]; rfl)
    have Hwr := Lib.hid hwr
    clear hc hwr
    generalize rs[i] = l at *
    generalize isoU rs i = u at *
    by_cases hl0 : l.length = 0
    ·have hl0' : ((l.length : Int) == 0) = true := by simp [hl0]
     rw [if_pos hl0] at HS
     clear hl0
     go_wp2_with fail
     go_roundg (rs.length - (i + 1))
     case measure => rw [Hk.out]; omega
     case rel => exact ⟨i + 1, by go_num, by omega, rfl, Hwr.out, by rw [HS.out]; go_num⟩
    ·have hl0' : ((l.length : Int) == 0) = false := by simp; intro hh; apply hl0; rw [hh]; rfl
     rw [if_neg hl0] at HS
     clear hl0
     go_wp2_with fail
     go_roundg (rs.length - (i + 1))
     case measure => rw [Hk.out]; omega
     case rel => exact ⟨i + 1, by go_num, by omega, rfl, Hwr.out, by rw [HS.out]; go_num⟩
   ·have hie : i = rs.length := by omega
    subst hie
    subst hwr
    have HG2 := HG.out
    have hln := HP.out.len
    change 2 * cls (Q es es.length) rs.length + es.length = rs.length + isoU rs rs.length + F + 2 * gen n es rs at HG2
    obtain ⟨N, rfl⟩ := Int.eq_ofNat_of_zero_le (Int.le_of_lt hn0)
    have hNr : rs.length = N := by omega
    have hes3 := hes.below hb5
    have ks : ∀ w', Below wr.heap.size wr w' → w'.cell? ⟨w.heap.size, 0, none⟩ = some (.int .i64 N) ∧ w'.cell? ⟨w.heap.size, 1, none⟩ = some (.slice A es.length cap) :=
     fun w' h => ⟨(h.cell (p := ⟨w.heap.size, 0, none⟩) l3).trans c0, (h.cell (p := ⟨w.heap.size, 1, none⟩) l3).trans c1⟩
    have Ks := Lib.hid ks
    have Hes := Lib.hid hes3
    clear ks hes3
    generalize isoU rs rs.length = u at *
    go_wp2_with fail
    go_region_held3 (fun w' => w'.cell? ⟨w.heap.size, 0, none⟩ = some (.int .i64 N) ∧ w'.cell? ⟨w.heap.size, 1, none⟩ = some (.slice A es.length cap))
     (first | exact ⟨c0, c1⟩ | exact Ks.out _ hb7)
     (first
      | (go_at_call 106; refine (parts0_is N A cap es _ (by exact Hes.out.more (Nat.le_of_lt l3)) HP.out.may).mono ?_; rintro e w5 ⟨A5, c5, rfl, hb6⟩; have hb7 := below_undrew hb6))
    have hcl : cls (Q es es.length) N ≤ N := Nat.le_trans List.countP_le_length (by simp)
    rw [hNr] at HG2
    have hv := gen_val HG2 (by omega) (by omega) (by omega) (by omega) (by omega)
    rw [hv]
    have HB := Lib.hid (hb5.trans (hb7.mono (Nat.le_of_lt l3)))
    generalize cls (Q es es.length) N = P at *
    clear hv hb7 hb6
    go_wp2_with fail
    go_ret2
    exact ⟨HB.out, fun _ => rfl, fun h => (by rw [Hm.out] at h; cases h)⟩
end Go.Proofs.YtneeknlhlkpnpaaGreat
