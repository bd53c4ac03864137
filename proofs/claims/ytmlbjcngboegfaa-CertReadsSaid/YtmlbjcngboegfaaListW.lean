/-
  list, numbers, points: what they write. Printed by wip/C/gen.py. Written by an AI agent.
-/
import Derived.Test.YtmlbjcngboegfaaNum
namespace Go.Proofs.Ytmlbjcngboegfaa
open Go.RowKit

/-- a slice of slices, below block B -/
def TblAt {β : Type} (cl : List β → List Value) (w : World) (B : Nat) (A : Option Addr) (rs : List (List β)) : Prop :=
  0 < rs.length → ∃ b off, A = some ⟨b, off, none⟩ ∧ b < B ∧ ∀ i (h : i < rs.length), ∃ Ai ci, w.cell? ⟨b, off + i, none⟩ = some (.slice Ai rs[i].length ci) ∧ Cells w B Ai (cl rs[i])
section
variable {β : Type} {cl : List β → List Value} {w w' : World} {B B' : Nat} {A : Option Addr} {rs : List (List β)}
theorem TblAt.keep (h : TblAt cl w B A rs) (hk : ∀ p : Addr, p.block < B → w'.cell? p = w.cell? p) : TblAt cl w' B A rs := fun hn => by
  obtain ⟨b, off, e, hb, hc⟩ := h hn
  refine ⟨b, off, e, hb, fun i hi => ?_⟩
  obtain ⟨Ai, ci, h1, h2⟩ := hc i hi
  exact ⟨Ai, ci, (hk _ (by exact hb)).trans h1, h2.keep hk⟩
theorem TblAt.more (h : TblAt cl w B A rs) (hB : B ≤ B') : TblAt cl w B' A rs := fun hn => by
  obtain ⟨b, off, e, hb, hc⟩ := h hn
  refine ⟨b, off, e, by omega, fun i hi => ?_⟩
  obtain ⟨Ai, ci, h1, h2⟩ := hc i hi
  exact ⟨Ai, ci, h1, h2.more hB⟩
theorem TblAt.below (h : TblAt cl w B A rs) (hb : Below B w w') : TblAt cl w' B A rs := h.keep fun _ hp => hb.cell hp
end

set_option maxRecDepth 20000 in
set_option maxHeartbeats 2000000 in
theorem intsWL (B gc : Nat) (A C : Option Addr) (c cc : Nat) (ov : Value) (s : CS) (b o : Nat) (l : List (Int)) (w : World) (h : Coder w B gc false A c ov s) (hl : s.out.length ≤ 900000000) (hb : b < B) (hp : w.cell? ⟨b, o, none⟩ = some (.slice C l.length cc)) (hC : Cells w B C (intCells l)) :
    Calls Try.prog 40 #[.pointer (some ⟨gc, 0, none⟩), .pointer (some ⟨b, o, none⟩), .func (.func 36) #[] #[]] w (fun e w' => e = .returned (.tuple #[]) ∧ Ran B gc false ov (fun _ => False) w w' (wList wPut l s)) := by
  have H := Lib.hid h
  clear h
  go_enter Try.func40, Try.ntmps40
  go_wp2_with fail
  refine (countW_any B gc A c ov s l.length w H.out (by omega)).mono ?_
  rintro e w1 ⟨rfl, A1, c1, ov1, hc1, ho1, hf1⟩
  have hb1 := cell_kept H.out ho1 (fun _ h => h.elim)
  by_cases hlen : 128 < l.length
  · rw [if_pos hlen] at hc1
    rw [if_pos hlen]
    have HR := Lib.hid (show Ran B gc false ov (fun _ => False) w w1 (wList wPut l s) by unfold wList; rw [if_pos hlen]; exact ⟨A1, c1, ov1, hc1, ho1, hf1⟩)
    clear hc1 ho1 hf1 hb1 hp hC hlen
    go_wp2_with fail
    go_loopg [7] 0 (fun k s7 wr => s7 = .int .i64 0 ∧ wr = w1)
    case atStart => exact ⟨rfl, rfl⟩
    case round =>
      obtain ⟨rfl, hwr⟩ := hrel
      have Hwr := Lib.hid hwr
      clear hwr
      go_wp2_with fail
      refine bodyPost_end (results_none rfl _ _ _) rfl ?_
      exact ⟨rfl, by rw [Hwr.out]; exact HR.out⟩
  · rw [if_neg hlen] at hc1
    rw [if_neg hlen]
    have HW := Lib.hid (show wList wPut l s = wLoop wPut l ⟨s.inn, s.out ++ [(l.length : Int)], s.bad⟩ by unfold wList; rw [if_neg hlen])
    have hlen2 : l.length ≤ 128 := by omega
    have Hp := Lib.hid hp
    have HC := Lib.hid hC
    have hs0 : (s.out ++ [(l.length : Int)]).length ≤ s.out.length + 1 := by simp
    clear hlen hp hC
    go_wp2_with fail
    go_loopg [7] l.length (fun k s7 wr => ∃ (i : Nat) (s1 : CS) (A1 : Option Addr) (c1 : Nat) (ov1 : Value), s7 = .int .i64 i ∧ i ≤ l.length ∧ k = l.length - i ∧ s1.out.length ≤ s.out.length + 1 + 4 * i ∧ wList wPut l s = wLoop wPut (l.drop i) s1 ∧ Coder wr B gc false A1 c1 ov1 s1 ∧ Only (coderK gc ov (fun _ => False)) w wr ∧ ∀ i, i < w.heap.size → ov1.ownBlock = some i → ov.ownBlock = some i)
    case atStart => exact ⟨0, _, A1, c1, ov1, rfl, Nat.zero_le _, rfl, by simp, HW.out, hc1, ho1, hf1⟩
    case round =>
      clear hc1 ho1 hf1 hb1 HW hs0
      obtain ⟨i, s1, A2, c2, ov2, rfl, hi, hk, hlo, hw, hc, ho, hf⟩ := hrel
      have hbk := cell_kept H.out ho (fun _ h => h.elim)
      have z0 := hc.c0
      have z3 := hc.c3
      have zp := (hbk.cell (p := ⟨b, o, none⟩) hb).trans Hp.out
      have Hk := Lib.hid hk
      have Hw := Lib.hid hw
      have Hc := Lib.hid hc
      have Ho := Lib.hid ho
      have Hf := Lib.hid hf
      clear hk hw hc ho hf
      have hlW := H.out.lt
      have hgW := H.out.ge
      by_cases hlt : i < l.length
      · have hlt' : (i : Int) < l.length := by omega
        cases hbad : s1.bad with
        | true =>
          rw [hbad] at z3
          have HR := Lib.hid (show Ran B gc false ov (fun _ => False) w wr (wList wPut l s) by rw [Hw.out, wLoop_stop _ hbad]; exact ⟨A2, c2, ov2, Hc.out, Ho.out, Hf.out⟩)
          clear hbad
          go_wp2_with fail
          refine bodyPost_end (results_none rfl _ _ _) rfl ?_
          exact ⟨rfl, HR.out⟩
        | false =>
          rw [hbad] at z3
          have Hgo := Lib.hid (wLoop_go (each := wPut) hlt hbad)
          clear hbad
          obtain ⟨bi, oi, rfl, hbi, hci⟩ := HC.out.ints (by omega)
          have zi := (hbk.cell (p := ⟨bi, oi + i, none⟩) hbi).trans (hci i hlt)
          clear hci
          go_wp2_with fail
          refine (numberW_any B gc A2 c2 ov2 s1 bi (oi + i) (l[i]) wr Hc.out (by omega) zi).mono ?_
          rintro e w3 ⟨rfl, A3, c3, ov3, hc3, ho3, hf3⟩
          have hlen3 := wPut_len (l[i]) s1
          have Hc3 := Lib.hid hc3
          have Ho3 := Lib.hid (Ho.out.trans ho3 fun i hi hk => by
            rcases hk with hk | hk | hk
            · exact .inl hk
            · exact .inr (.inl (Hf.out i hi hk))
            · exact hk.elim)
          have Hf3 := Lib.hid (fun i (hi : i < w.heap.size) he => Hf.out i hi (hf3 i (Nat.lt_of_lt_of_le hi Ho.out.size) he))
          have HM := Lib.hid (show l.length - (i + 1) < l.length - i by omega)
          clear hc3 ho3 hf3
          generalize wPut (l[i]) s1 = s3 at *
          go_wp2_with fail
          go_roundg (l.length - (i + 1))
          case measure => rw [Hk.out]; exact HM.out
          case rel => exact ⟨i + 1, s3, A3, c3, ov3, by go_num, by omega, rfl, by omega, Hw.out.trans Hgo.out, Hc3.out, Ho3.out, Hf3.out⟩
      · have hie : i = l.length := by omega
        have HR := Lib.hid (show Ran B gc false ov (fun _ => False) w wr (wList wPut l s) by rw [Hw.out, hie, List.drop_length]; exact ⟨A2, c2, ov2, Hc.out, Ho.out, Hf.out⟩)
        have hlt' : ¬ (i : Int) < l.length := by omega
        clear hie
        go_wp2_with fail
        refine bodyPost_end (results_none rfl _ _ _) rfl ?_
        exact ⟨rfl, HR.out⟩

theorem intsW_any (B gc : Nat) (A C : Option Addr) (c cc : Nat) (ov : Value) (s : CS) (b o : Nat) (l : List (Int)) (w : World) (h : Coder w B gc false A c ov s) (hl : s.out.length ≤ 900000000) (hb : b < B) (hp : w.cell? ⟨b, o, none⟩ = some (.slice C l.length cc)) (hC : Cells w B C (intCells l)) :
    Calls Try.prog 34 #[.pointer (some ⟨gc, 0, none⟩), .pointer (some ⟨b, o, none⟩)] w (fun e w' => e = .returned (.tuple #[]) ∧ Ran B gc false ov (fun _ => False) w w' (wInts l s)) := by
  have HL := Lib.hid (intsWL B gc A C c cc ov s b o l w h hl hb hp hC)
  clear h hp hC
  go_enter Try.func34, Try.ntmps34
  go_wp2_with fail
  refine HL.out.mono ?_
  rintro e w1 ⟨rfl, hr⟩
  have Hr := Lib.hid hr
  clear hr
  go_wp2_with fail
  refine bodyPost_end (results_none rfl _ _ _) rfl ?_
  exact ⟨rfl, Hr.out⟩
set_option maxRecDepth 20000 in
set_option maxHeartbeats 2000000 in
theorem rowsWL (B gc : Nat) (A C : Option Addr) (c cc : Nat) (ov : Value) (s : CS) (b o : Nat) (l : List (List Int)) (w : World) (h : Coder w B gc false A c ov s) (hl : s.out.length ≤ 800000000) (hb : b < B) (hp : w.cell? ⟨b, o, none⟩ = some (.slice C l.length cc)) (hC : TblAt intCells w B C l) :
    Calls Try.prog 35 #[.pointer (some ⟨gc, 0, none⟩), .pointer (some ⟨b, o, none⟩), .func (.func 34) #[] #[]] w (fun e w' => e = .returned (.tuple #[]) ∧ Ran B gc false ov (fun _ => False) w w' (wList wInts l s)) := by
  have H := Lib.hid h
  clear h
  go_enter Try.func35, Try.ntmps35
  go_wp2_with fail
  refine (countW_any B gc A c ov s l.length w H.out (by omega)).mono ?_
  rintro e w1 ⟨rfl, A1, c1, ov1, hc1, ho1, hf1⟩
  have hb1 := cell_kept H.out ho1 (fun _ h => h.elim)
  by_cases hlen : 128 < l.length
  · rw [if_pos hlen] at hc1
    rw [if_pos hlen]
    have HR := Lib.hid (show Ran B gc false ov (fun _ => False) w w1 (wList wInts l s) by unfold wList; rw [if_pos hlen]; exact ⟨A1, c1, ov1, hc1, ho1, hf1⟩)
    clear hc1 ho1 hf1 hb1 hp hC hlen
    go_wp2_with fail
    go_loopg [7] 0 (fun k s7 wr => s7 = .int .i64 0 ∧ wr = w1)
    case atStart => exact ⟨rfl, rfl⟩
    case round =>
      obtain ⟨rfl, hwr⟩ := hrel
      have Hwr := Lib.hid hwr
      clear hwr
      go_wp2_with fail
      refine bodyPost_end (results_none rfl _ _ _) rfl ?_
      exact ⟨rfl, by rw [Hwr.out]; exact HR.out⟩
  · rw [if_neg hlen] at hc1
    rw [if_neg hlen]
    have HW := Lib.hid (show wList wInts l s = wLoop wInts l ⟨s.inn, s.out ++ [(l.length : Int)], s.bad⟩ by unfold wList; rw [if_neg hlen])
    have hlen2 : l.length ≤ 128 := by omega
    have Hp := Lib.hid hp
    have HC := Lib.hid hC
    have hs0 : (s.out ++ [(l.length : Int)]).length ≤ s.out.length + 1 := by simp
    clear hlen hp hC
    go_wp2_with fail
    go_loopg [7] l.length (fun k s7 wr => ∃ (i : Nat) (s1 : CS) (A1 : Option Addr) (c1 : Nat) (ov1 : Value), s7 = .int .i64 i ∧ i ≤ l.length ∧ k = l.length - i ∧ s1.out.length ≤ s.out.length + 1 + 513 * i ∧ wList wInts l s = wLoop wInts (l.drop i) s1 ∧ Coder wr B gc false A1 c1 ov1 s1 ∧ Only (coderK gc ov (fun _ => False)) w wr ∧ ∀ i, i < w.heap.size → ov1.ownBlock = some i → ov.ownBlock = some i)
    case atStart => exact ⟨0, _, A1, c1, ov1, rfl, Nat.zero_le _, rfl, by simp, HW.out, hc1, ho1, hf1⟩
    case round =>
      clear hc1 ho1 hf1 hb1 HW hs0
      obtain ⟨i, s1, A2, c2, ov2, rfl, hi, hk, hlo, hw, hc, ho, hf⟩ := hrel
      have hbk := cell_kept H.out ho (fun _ h => h.elim)
      have z0 := hc.c0
      have z3 := hc.c3
      have zp := (hbk.cell (p := ⟨b, o, none⟩) hb).trans Hp.out
      have Hk := Lib.hid hk
      have Hw := Lib.hid hw
      have Hc := Lib.hid hc
      have Ho := Lib.hid ho
      have Hf := Lib.hid hf
      clear hk hw hc ho hf
      have hlW := H.out.lt
      have hgW := H.out.ge
      by_cases hlt : i < l.length
      · have hlt' : (i : Int) < l.length := by omega
        cases hbad : s1.bad with
        | true =>
          rw [hbad] at z3
          have HR := Lib.hid (show Ran B gc false ov (fun _ => False) w wr (wList wInts l s) by rw [Hw.out, wLoop_stop _ hbad]; exact ⟨A2, c2, ov2, Hc.out, Ho.out, Hf.out⟩)
          clear hbad
          go_wp2_with fail
          refine bodyPost_end (results_none rfl _ _ _) rfl ?_
          exact ⟨rfl, HR.out⟩
        | false =>
          rw [hbad] at z3
          have Hgo := Lib.hid (wLoop_go (each := wInts) hlt hbad)
          clear hbad
          obtain ⟨bi, oi, rfl, hbi, hci⟩ := HC.out (by omega)
          obtain ⟨Ai, ai, zi, hCi⟩ := hci i hlt
          have zi := (hbk.cell (p := ⟨bi, oi + i, none⟩) hbi).trans zi
          have hCi := hCi.below hbk
          clear hci
          go_wp2_with fail
          refine (intsW_any B gc A2 Ai c2 ai ov2 s1 bi (oi + i) (l[i]) wr Hc.out (by omega) hbi zi hCi).mono ?_
          rintro e w3 ⟨rfl, A3, c3, ov3, hc3, ho3, hf3⟩
          have hlen3 := wInts_len (l[i]) s1
          have Hc3 := Lib.hid hc3
          have Ho3 := Lib.hid (Ho.out.trans ho3 fun i hi hk => by
            rcases hk with hk | hk | hk
            · exact .inl hk
            · exact .inr (.inl (Hf.out i hi hk))
            · exact hk.elim)
          have Hf3 := Lib.hid (fun i (hi : i < w.heap.size) he => Hf.out i hi (hf3 i (Nat.lt_of_lt_of_le hi Ho.out.size) he))
          have HM := Lib.hid (show l.length - (i + 1) < l.length - i by omega)
          clear hc3 ho3 hf3
          generalize wInts (l[i]) s1 = s3 at *
          go_wp2_with fail
          go_roundg (l.length - (i + 1))
          case measure => rw [Hk.out]; exact HM.out
          case rel => exact ⟨i + 1, s3, A3, c3, ov3, by go_num, by omega, rfl, by omega, Hw.out.trans Hgo.out, Hc3.out, Ho3.out, Hf3.out⟩
      · have hie : i = l.length := by omega
        have HR := Lib.hid (show Ran B gc false ov (fun _ => False) w wr (wList wInts l s) by rw [Hw.out, hie, List.drop_length]; exact ⟨A2, c2, ov2, Hc.out, Ho.out, Hf.out⟩)
        have hlt' : ¬ (i : Int) < l.length := by omega
        clear hie
        go_wp2_with fail
        refine bodyPost_end (results_none rfl _ _ _) rfl ?_
        exact ⟨rfl, HR.out⟩

set_option maxRecDepth 20000 in
set_option maxHeartbeats 2000000 in
theorem ptsWL (B gc : Nat) (A C : Option Addr) (c cc : Nat) (ov : Value) (s : CS) (b o : Nat) (l : List (Int × Int)) (w : World) (h : Coder w B gc false A c ov s) (hl : s.out.length ≤ 900000000) (hb : b < B) (hp : w.cell? ⟨b, o, none⟩ = some (.slice C l.length cc)) (hC : Cells w B C (edgeCells l)) :
    Calls Try.prog 44 #[.pointer (some ⟨gc, 0, none⟩), .pointer (some ⟨b, o, none⟩), .func (.func 45) #[] #[]] w (fun e w' => e = .returned (.tuple #[]) ∧ Ran B gc false ov (fun _ => False) w w' (wList wPt l s)) := by
  have H := Lib.hid h
  clear h
  go_enter Try.func44, Try.ntmps44
  go_wp2_with fail
  refine (countW_any B gc A c ov s l.length w H.out (by omega)).mono ?_
  rintro e w1 ⟨rfl, A1, c1, ov1, hc1, ho1, hf1⟩
  have hb1 := cell_kept H.out ho1 (fun _ h => h.elim)
  by_cases hlen : 128 < l.length
  · rw [if_pos hlen] at hc1
    rw [if_pos hlen]
    have HR := Lib.hid (show Ran B gc false ov (fun _ => False) w w1 (wList wPt l s) by unfold wList; rw [if_pos hlen]; exact ⟨A1, c1, ov1, hc1, ho1, hf1⟩)
    clear hc1 ho1 hf1 hb1 hp hC hlen
    go_wp2_with fail
    go_loopg [7] 0 (fun k s7 wr => s7 = .int .i64 0 ∧ wr = w1)
    case atStart => exact ⟨rfl, rfl⟩
    case round =>
      obtain ⟨rfl, hwr⟩ := hrel
      have Hwr := Lib.hid hwr
      clear hwr
      go_wp2_with fail
      refine bodyPost_end (results_none rfl _ _ _) rfl ?_
      exact ⟨rfl, by rw [Hwr.out]; exact HR.out⟩
  · rw [if_neg hlen] at hc1
    rw [if_neg hlen]
    have HW := Lib.hid (show wList wPt l s = wLoop wPt l ⟨s.inn, s.out ++ [(l.length : Int)], s.bad⟩ by unfold wList; rw [if_neg hlen])
    have hlen2 : l.length ≤ 128 := by omega
    have Hp := Lib.hid hp
    have HC := Lib.hid hC
    have hs0 : (s.out ++ [(l.length : Int)]).length ≤ s.out.length + 1 := by simp
    clear hlen hp hC
    go_wp2_with fail
    go_loopg [7] l.length (fun k s7 wr => ∃ (i : Nat) (s1 : CS) (A1 : Option Addr) (c1 : Nat) (ov1 : Value), s7 = .int .i64 i ∧ i ≤ l.length ∧ k = l.length - i ∧ s1.out.length ≤ s.out.length + 1 + 8 * i ∧ wList wPt l s = wLoop wPt (l.drop i) s1 ∧ Coder wr B gc false A1 c1 ov1 s1 ∧ Only (coderK gc ov (fun _ => False)) w wr ∧ ∀ i, i < w.heap.size → ov1.ownBlock = some i → ov.ownBlock = some i)
    case atStart => exact ⟨0, _, A1, c1, ov1, rfl, Nat.zero_le _, rfl, by simp, HW.out, hc1, ho1, hf1⟩
    case round =>
      clear hc1 ho1 hf1 hb1 HW hs0
      obtain ⟨i, s1, A2, c2, ov2, rfl, hi, hk, hlo, hw, hc, ho, hf⟩ := hrel
      have hbk := cell_kept H.out ho (fun _ h => h.elim)
      have z0 := hc.c0
      have z3 := hc.c3
      have zp := (hbk.cell (p := ⟨b, o, none⟩) hb).trans Hp.out
      have Hk := Lib.hid hk
      have Hw := Lib.hid hw
      have Hc := Lib.hid hc
      have Ho := Lib.hid ho
      have Hf := Lib.hid hf
      clear hk hw hc ho hf
      have hlW := H.out.lt
      have hgW := H.out.ge
      by_cases hlt : i < l.length
      · have hlt' : (i : Int) < l.length := by omega
        cases hbad : s1.bad with
        | true =>
          rw [hbad] at z3
          have HR := Lib.hid (show Ran B gc false ov (fun _ => False) w wr (wList wPt l s) by rw [Hw.out, wLoop_stop _ hbad]; exact ⟨A2, c2, ov2, Hc.out, Ho.out, Hf.out⟩)
          clear hbad
          go_wp2_with fail
          refine bodyPost_end (results_none rfl _ _ _) rfl ?_
          exact ⟨rfl, HR.out⟩
        | false =>
          rw [hbad] at z3
          have Hgo := Lib.hid (wLoop_go (each := wPt) hlt hbad)
          clear hbad
          obtain ⟨bi, oi, rfl, hbi, hci⟩ := HC.out.edges (by omega)
          obtain ⟨zx, zy⟩ := hci i hlt
          have zx := (hbk.cell (p := ⟨bi, oi + i * 2, none⟩) hbi).trans zx
          have zy := (hbk.cell (p := ⟨bi, oi + i * 2 + 1, none⟩) hbi).trans zy
          clear hci
          go_wp2_with fail
          refine (pointW_any B gc A2 c2 ov2 s1 bi (oi + i * 2) (l[i]) wr Hc.out (by omega) hbi zx zy).mono ?_
          rintro e w3 ⟨rfl, A3, c3, ov3, hc3, ho3, hf3⟩
          have hlen3 := wPt_len (l[i]) s1
          have Hc3 := Lib.hid hc3
          have Ho3 := Lib.hid (Ho.out.trans ho3 fun i hi hk => by
            rcases hk with hk | hk | hk
            · exact .inl hk
            · exact .inr (.inl (Hf.out i hi hk))
            · exact hk.elim)
          have Hf3 := Lib.hid (fun i (hi : i < w.heap.size) he => Hf.out i hi (hf3 i (Nat.lt_of_lt_of_le hi Ho.out.size) he))
          have HM := Lib.hid (show l.length - (i + 1) < l.length - i by omega)
          clear hc3 ho3 hf3
          generalize wPt (l[i]) s1 = s3 at *
          go_wp2_with fail
          go_roundg (l.length - (i + 1))
          case measure => rw [Hk.out]; exact HM.out
          case rel => exact ⟨i + 1, s3, A3, c3, ov3, by go_num, by omega, rfl, by omega, Hw.out.trans Hgo.out, Hc3.out, Ho3.out, Hf3.out⟩
      · have hie : i = l.length := by omega
        have HR := Lib.hid (show Ran B gc false ov (fun _ => False) w wr (wList wPt l s) by rw [Hw.out, hie, List.drop_length]; exact ⟨A2, c2, ov2, Hc.out, Ho.out, Hf.out⟩)
        have hlt' : ¬ (i : Int) < l.length := by omega
        clear hie
        go_wp2_with fail
        refine bodyPost_end (results_none rfl _ _ _) rfl ?_
        exact ⟨rfl, HR.out⟩

theorem ptsW_any (B gc : Nat) (A C : Option Addr) (c cc : Nat) (ov : Value) (s : CS) (b o : Nat) (l : List (Int × Int)) (w : World) (h : Coder w B gc false A c ov s) (hl : s.out.length ≤ 900000000) (hb : b < B) (hp : w.cell? ⟨b, o, none⟩ = some (.slice C l.length cc)) (hC : Cells w B C (edgeCells l)) :
    Calls Try.prog 37 #[.pointer (some ⟨gc, 0, none⟩), .pointer (some ⟨b, o, none⟩)] w (fun e w' => e = .returned (.tuple #[]) ∧ Ran B gc false ov (fun _ => False) w w' (wPts l s)) := by
  have HL := Lib.hid (ptsWL B gc A C c cc ov s b o l w h hl hb hp hC)
  clear h hp hC
  go_enter Try.func37, Try.ntmps37
  go_wp2_with fail
  refine HL.out.mono ?_
  rintro e w1 ⟨rfl, hr⟩
  have Hr := Lib.hid hr
  clear hr
  go_wp2_with fail
  refine bodyPost_end (results_none rfl _ _ _) rfl ?_
  exact ⟨rfl, Hr.out⟩
set_option maxRecDepth 20000 in
set_option maxHeartbeats 2000000 in
theorem linesWL (B gc : Nat) (A C : Option Addr) (c cc : Nat) (ov : Value) (s : CS) (b o : Nat) (l : List (List (Int × Int))) (w : World) (h : Coder w B gc false A c ov s) (hl : s.out.length ≤ 800000000) (hb : b < B) (hp : w.cell? ⟨b, o, none⟩ = some (.slice C l.length cc)) (hC : TblAt edgeCells w B C l) :
    Calls Try.prog 38 #[.pointer (some ⟨gc, 0, none⟩), .pointer (some ⟨b, o, none⟩), .func (.func 37) #[] #[]] w (fun e w' => e = .returned (.tuple #[]) ∧ Ran B gc false ov (fun _ => False) w w' (wList wPts l s)) := by
  have H := Lib.hid h
  clear h
  go_enter Try.func38, Try.ntmps38
  go_wp2_with fail
  refine (countW_any B gc A c ov s l.length w H.out (by omega)).mono ?_
  rintro e w1 ⟨rfl, A1, c1, ov1, hc1, ho1, hf1⟩
  have hb1 := cell_kept H.out ho1 (fun _ h => h.elim)
  by_cases hlen : 128 < l.length
  · rw [if_pos hlen] at hc1
    rw [if_pos hlen]
    have HR := Lib.hid (show Ran B gc false ov (fun _ => False) w w1 (wList wPts l s) by unfold wList; rw [if_pos hlen]; exact ⟨A1, c1, ov1, hc1, ho1, hf1⟩)
    clear hc1 ho1 hf1 hb1 hp hC hlen
    go_wp2_with fail
    go_loopg [7] 0 (fun k s7 wr => s7 = .int .i64 0 ∧ wr = w1)
    case atStart => exact ⟨rfl, rfl⟩
    case round =>
      obtain ⟨rfl, hwr⟩ := hrel
      have Hwr := Lib.hid hwr
      clear hwr
      go_wp2_with fail
      refine bodyPost_end (results_none rfl _ _ _) rfl ?_
      exact ⟨rfl, by rw [Hwr.out]; exact HR.out⟩
  · rw [if_neg hlen] at hc1
    rw [if_neg hlen]
    have HW := Lib.hid (show wList wPts l s = wLoop wPts l ⟨s.inn, s.out ++ [(l.length : Int)], s.bad⟩ by unfold wList; rw [if_neg hlen])
    have hlen2 : l.length ≤ 128 := by omega
    have Hp := Lib.hid hp
    have HC := Lib.hid hC
    have hs0 : (s.out ++ [(l.length : Int)]).length ≤ s.out.length + 1 := by simp
    clear hlen hp hC
    go_wp2_with fail
    go_loopg [7] l.length (fun k s7 wr => ∃ (i : Nat) (s1 : CS) (A1 : Option Addr) (c1 : Nat) (ov1 : Value), s7 = .int .i64 i ∧ i ≤ l.length ∧ k = l.length - i ∧ s1.out.length ≤ s.out.length + 1 + 1025 * i ∧ wList wPts l s = wLoop wPts (l.drop i) s1 ∧ Coder wr B gc false A1 c1 ov1 s1 ∧ Only (coderK gc ov (fun _ => False)) w wr ∧ ∀ i, i < w.heap.size → ov1.ownBlock = some i → ov.ownBlock = some i)
    case atStart => exact ⟨0, _, A1, c1, ov1, rfl, Nat.zero_le _, rfl, by simp, HW.out, hc1, ho1, hf1⟩
    case round =>
      clear hc1 ho1 hf1 hb1 HW hs0
      obtain ⟨i, s1, A2, c2, ov2, rfl, hi, hk, hlo, hw, hc, ho, hf⟩ := hrel
      have hbk := cell_kept H.out ho (fun _ h => h.elim)
      have z0 := hc.c0
      have z3 := hc.c3
      have zp := (hbk.cell (p := ⟨b, o, none⟩) hb).trans Hp.out
      have Hk := Lib.hid hk
      have Hw := Lib.hid hw
      have Hc := Lib.hid hc
      have Ho := Lib.hid ho
      have Hf := Lib.hid hf
      clear hk hw hc ho hf
      have hlW := H.out.lt
      have hgW := H.out.ge
      by_cases hlt : i < l.length
      · have hlt' : (i : Int) < l.length := by omega
        cases hbad : s1.bad with
        | true =>
          rw [hbad] at z3
          have HR := Lib.hid (show Ran B gc false ov (fun _ => False) w wr (wList wPts l s) by rw [Hw.out, wLoop_stop _ hbad]; exact ⟨A2, c2, ov2, Hc.out, Ho.out, Hf.out⟩)
          clear hbad
          go_wp2_with fail
          refine bodyPost_end (results_none rfl _ _ _) rfl ?_
          exact ⟨rfl, HR.out⟩
        | false =>
          rw [hbad] at z3
          have Hgo := Lib.hid (wLoop_go (each := wPts) hlt hbad)
          clear hbad
          obtain ⟨bi, oi, rfl, hbi, hci⟩ := HC.out (by omega)
          obtain ⟨Ai, ai, zi, hCi⟩ := hci i hlt
          have zi := (hbk.cell (p := ⟨bi, oi + i, none⟩) hbi).trans zi
          have hCi := hCi.below hbk
          clear hci
          go_wp2_with fail
          refine (ptsW_any B gc A2 Ai c2 ai ov2 s1 bi (oi + i) (l[i]) wr Hc.out (by omega) hbi zi hCi).mono ?_
          rintro e w3 ⟨rfl, A3, c3, ov3, hc3, ho3, hf3⟩
          have hlen3 := wPts_len (l[i]) s1
          have Hc3 := Lib.hid hc3
          have Ho3 := Lib.hid (Ho.out.trans ho3 fun i hi hk => by
            rcases hk with hk | hk | hk
            · exact .inl hk
            · exact .inr (.inl (Hf.out i hi hk))
            · exact hk.elim)
          have Hf3 := Lib.hid (fun i (hi : i < w.heap.size) he => Hf.out i hi (hf3 i (Nat.lt_of_lt_of_le hi Ho.out.size) he))
          have HM := Lib.hid (show l.length - (i + 1) < l.length - i by omega)
          clear hc3 ho3 hf3
          generalize wPts (l[i]) s1 = s3 at *
          go_wp2_with fail
          go_roundg (l.length - (i + 1))
          case measure => rw [Hk.out]; exact HM.out
          case rel => exact ⟨i + 1, s3, A3, c3, ov3, by go_num, by omega, rfl, by omega, Hw.out.trans Hgo.out, Hc3.out, Ho3.out, Hf3.out⟩
      · have hie : i = l.length := by omega
        have HR := Lib.hid (show Ran B gc false ov (fun _ => False) w wr (wList wPts l s) by rw [Hw.out, hie, List.drop_length]; exact ⟨A2, c2, ov2, Hc.out, Ho.out, Hf.out⟩)
        have hlt' : ¬ (i : Int) < l.length := by omega
        clear hie
        go_wp2_with fail
        refine bodyPost_end (results_none rfl _ _ _) rfl ?_
        exact ⟨rfl, HR.out⟩

end Go.Proofs.Ytmlbjcngboegfaa
