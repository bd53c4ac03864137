/-
  Package rotation: turned, Same; the document's Same; both tell the same. Written by an AI agent.
-/
import Derived.Test.YthdifhfmgmmljaaConcat
import Derived.Test.YthdifhfmgmmljaaRegion3
namespace Go.Proofs.Ythdifhfmgmmljaa
open Go.RowKit

def rot (a : List Int) (i : Nat) : List Int := a.drop i ++ a.take i
theorem rot_length (a : List Int) (i : Nat) : (rot a i).length = a.length := by
  unfold rot; simp; omega
def turnedB (a b : List Int) : Bool := (List.range a.length).any (fun i => decide (rot a i = b)) || (decide (a.length = 0) && decide (b.length = 0))
/-- the beginning of a slice of ints -/
theorem ints_take {w : World} {B : Nat} {A : Option Addr} {l : List Int} (k : Nat) (h : Cells w B A (intCells l)) : Cells w B A (intCells (l.take k)) := by
  intro hp
  have hp' : 0 < (intCells l).length := by simp [intCells] at hp ⊢; omega
  obtain ⟨b, off, he, hb, hc⟩ := h hp'
  refine ⟨b, off, he, hb, fun j u hu => hc j u ?_⟩
  have e : intCells (l.take k) = (intCells l).take k := by simp [intCells]
  rw [e, List.getElem?_take] at hu
  split at hu
  · exact hu
  · cases hu
/-- the end of one -/
theorem ints_drop {w : World} {B b off : Nat} {l : List Int} (k c : Nat) (hc : l.length ≤ c) (h : Cells w B (some ⟨b, off, none⟩) (intCells l)) :
    Cells w B (if c = k then some (⟨b, off, none⟩ : Addr) else some ⟨b, off + k, none⟩) (intCells (l.drop k)) := by
  intro hp
  have hk : c ≠ k := by
    intro e
    simp [intCells] at hp
    omega
  rw [if_neg hk]
  have e : intCells (l.drop k) = (intCells l).drop k := by simp [intCells]
  rw [e] at hp ⊢
  obtain ⟨b', off', he, hb, hcc⟩ := h (by simp at hp; omega)
  injection he with he
  injection he with h1 h2
  subst h1 h2
  refine ⟨_, _, rfl, hb, fun j u hu => ?_⟩
  rw [List.getElem?_drop] at hu
  have := hcc _ _ hu
  rw [Nat.add_assoc]
  exact this

theorem concat_rot (a : List Int) (k : Nat) (hk : k ≤ a.length) (A1 A2 : Option Addr) (c1 c2 : Nat) (W : World) (h1 : Cells W W.heap.size A1 (intCells (a.drop k))) (h2 : Cells W W.heap.size A2 (intCells (a.take k))) (hl : a.length ≤ 100000) :
    Calls Try.prog 49 #[.slice (some ⟨W.heap.size, 0, none⟩) 2 2] (W.alloc (.cells #[.slice A1 (a.length - k) c1, .slice A2 k c2] 27)).drew (fun e w' => ∃ A c, e = .returned (.slice A (rot a k).length c) ∧ Below W.heap.size W w' ∧ Cells w' w'.heap.size A (intCells (rot a k))) := by
  have hb := (Below.refl W.heap.size W).alloc (Nat.le_refl _) (.cells #[.slice A1 (a.length - k) c1, .slice A2 k c2] 27)
  have hs : W.heap.size ≤ (W.alloc (.cells #[.slice A1 (a.length - k) c1, .slice A2 k c2] 27)).heap.size := by simp
  have e1 : (a.drop k).length = a.length - k := by simp
  have e2 : (a.take k).length = k := by simp; omega
  have hR : RowsAt (W.alloc (.cells #[.slice A1 (a.length - k) c1, .slice A2 k c2] 27)) (W.alloc (.cells #[.slice A1 (a.length - k) c1, .slice A2 k c2] 27)).heap.size (some ⟨W.heap.size, 0, none⟩) [a.drop k, a.take k] := fun _ => by
    refine ⟨W.heap.size, 0, rfl, by simp, fun i hi => ?_⟩
    match i with
    | 0 => exact ⟨A1, c1, by rw [Nat.zero_add, World.cell?_alloc_new]; show _ = some (Value.slice A1 (a.drop k).length c1); rw [e1]; rfl, (h1.below hb).more hs⟩
    | 1 => exact ⟨A2, c2, by rw [Nat.zero_add, World.cell?_alloc_new]; show _ = some (Value.slice A2 (a.take k).length c2); rw [e2]; rfl, (h2.below hb).more hs⟩
    | i + 2 => exact absurd hi (by simp)
  have hf : ([a.drop k, a.take k] : List (List Int)).flatten = rot a k := by simp [rot]
  have h := concat_any (some ⟨W.heap.size, 0, none⟩) 2 [a.drop k, a.take k] (W.alloc (.cells #[.slice A1 (a.length - k) c1, .slice A2 k c2] 27)).drew hR (by simp) (by rw [hf, rot_length]; exact hl)
  rw [hf] at h
  refine h.mono ?_
  rintro e w' ⟨A, c, rfl, hb2, hC⟩
  exact ⟨A, c, rfl, hb.trans ((below_undrew hb2).mono hs), hC⟩

theorem turned_yes {a b : List Int} {i : Nat} (hi : i < a.length) (h : rot a i = b) : turnedB a b = true := by
  unfold turnedB
  rw [Bool.or_eq_true]
  exact .inl (List.any_eq_true.2 ⟨i, List.mem_range.2 hi, decide_eq_true h⟩)
theorem turned_no {a b : List Int} (h : ∀ j, j < a.length → rot a j ≠ b) : turnedB a b = (decide (a.length = 0) && decide (b.length = 0)) := by
  unfold turnedB
  have : ((List.range a.length).any fun i => decide (rot a i = b)) = false := by
    rw [List.any_eq_false]
    intro i hi
    simpa using h i (List.mem_range.1 hi)
  rw [this, Bool.false_or]
set_option maxRecDepth 20000 in
set_option maxHeartbeats 2000000 in
theorem turned_any (A B : Option Addr) (c d : Nat) (a b : List Int) (w : World) (ha : Cells w w.heap.size A (intCells a)) (hb : Cells w w.heap.size B (intCells b)) (hac : a.length ≤ c) (hla : a.length ≤ 1000) (hlb : b.length ≤ 1000) :
    Calls Try.prog 39 #[.slice A a.length c, .slice B b.length d] w (fun e w' => e = .returned (.bool (turnedB a b)) ∧ Below w.heap.size w w') := by
  go_enter Try.func39, Try.ntmps39
  go_wp2_with fail
  go_loopg [8] a.length (fun k s8 wr => ∃ i : Nat, s8 = .int .i64 i ∧ i ≤ a.length ∧ k = a.length - i ∧ Below w.heap.size w wr ∧ ∀ j, j < i → rot a j ≠ b)
  case atStart => exact ⟨0, rfl, Nat.zero_le _, rfl, Below.refl _ _, fun j hj => absurd hj (by omega)⟩
  case round =>
    obtain ⟨i, rfl, hi, hk, hbr, hno⟩ := hrel
    have Hk := Lib.hid hk; clear hk
    have Hno := Lib.hid hno; clear hno
    by_cases hlt : i < a.length
    · have hlt' : (i : Int) < a.length := by omega
      obtain ⟨ba, offa, rfl, hba, _⟩ := ha.ints (by omega)
      have Hd := Lib.hid (ints_drop i c hac (ha.below hbr))
      have Ht := Lib.hid (ints_take i (ha.below hbr))
      have hic : (i : Int) ≤ c := by omega
      have hi0 : (0 : Int) ≤ i := by omega
      have hil : (i : Int) ≤ a.length := by omega
      go_upto_region 4 with fail
      have hal := ha.below hbr
      have hbl := hb.below hbr
      have hs := hbr.size
      have tok1 : True := trivial
      go_region_held3 (fun _ => True) (trivial)
        (first
          | (go_at_call 49; have _t := tok1; refine (concat_rot a i hi _ _ _ _ wr (Hd.out.more hs) (Ht.out.more hs) (by omega)).mono ?_; rintro e w5 ⟨A5, c5, rfl, hb5, hC5⟩; clear tok1)
          | (go_at_call 48; refine (equal_any A5 B c5 d (rot a i) b _ _ (by exact hC5) (by exact (hbl.below (hb5.mono hs)).more (Nat.le_trans hs hb5.size)) (by rw [rot_length]; omega) (by omega)).mono ?_; rintro e w6 ⟨rfl, m6, rfl⟩))
      have hb9 := below_drewN (hbr.trans (hb5.mono hs)) m6
      have HB := Lib.hid hb9
      clear hb9 hb5 hC5 hbl hal Hd Ht
      by_cases he : rot a i = b
      · have HT := Lib.hid (turned_yes hlt he)
        rw [decide_eq_true he]
        clear he
        go_wp2_with fail
        go_ret
        exact ⟨ret_bool HT.out.symm, HB.out⟩
      · rw [decide_eq_false he]
        have He := Lib.hid he; clear he
        go_wp2_with fail
        go_roundg (a.length - (i + 1))
        case measure => rw [Hk.out]; omega
        case rel => exact ⟨i + 1, by go_num, by omega, rfl, HB.out, fun j hj => by
          by_cases h : j = i
          · rw [h]; exact He.out
          · exact Hno.out j (by omega)⟩
    · have hie : i = a.length := by omega
      subst hie
      have HT := Lib.hid (turned_no Hno.out)
      by_cases h0 : a.length = 0
      · have h0' : ((a.length : Int) == 0) = true := by simp [h0]
        by_cases h1 : b.length = 0
        · have h1' : ((b.length : Int) == 0) = true := by simp [h1]
          have HR := Lib.hid (show turnedB a b = true by rw [HT.out, decide_eq_true h0, decide_eq_true h1]; rfl)
          clear h0 h1
          go_wp2_with fail
          go_ret
          exact ⟨ret_bool HR.out.symm, hbr⟩
        · have h1' : ((b.length : Int) == 0) = false := by simp; intro hh; apply h1; rw [hh]; rfl
          have HR := Lib.hid (show turnedB a b = false by rw [HT.out, decide_eq_false h1]; simp)
          clear h0 h1
          go_wp2_with fail
          go_ret
          exact ⟨ret_bool HR.out.symm, hbr⟩
      · have h0' : ((a.length : Int) == 0) = false := by simp; intro hh; apply h0; rw [hh]; rfl
        have HR := Lib.hid (show turnedB a b = false by rw [HT.out, decide_eq_false h0]; simp)
        clear h0
        go_wp2_with fail
        go_ret
        exact ⟨ret_bool HR.out.symm, hbr⟩
/-- rows that came in: with their room -/
def RowsC (w : World) (B : Nat) (A : Option Addr) (rs : List (List Int)) : Prop :=
  0 < rs.length → ∃ b off, A = some ⟨b, off, none⟩ ∧ b < B ∧ ∀ i (h : i < rs.length), ∃ Ai ci, w.cell? ⟨b, off + i, none⟩ = some (.slice Ai rs[i].length ci) ∧ Cells w B Ai (intCells rs[i]) ∧ rs[i].length ≤ ci
section
variable {w w' : World} {B B' : Nat} {A : Option Addr} {rs : List (List Int)}
theorem RowsC.keep (h : RowsC w B A rs) (hk : ∀ p : Addr, p.block < B → w'.cell? p = w.cell? p) : RowsC w' B A rs := fun hn => by
  obtain ⟨b, off, e, hb, hc⟩ := h hn
  refine ⟨b, off, e, hb, fun i hi => ?_⟩
  obtain ⟨Ai, ci, h1, h2, h3⟩ := hc i hi
  exact ⟨Ai, ci, (hk _ (by exact hb)).trans h1, h2.keep hk, h3⟩
theorem RowsC.more (h : RowsC w B A rs) (hB : B ≤ B') : RowsC w B' A rs := fun hn => by
  obtain ⟨b, off, e, hb, hc⟩ := h hn
  refine ⟨b, off, e, by omega, fun i hi => ?_⟩
  obtain ⟨Ai, ci, h1, h2, h3⟩ := hc i hi
  exact ⟨Ai, ci, h1, h2.more hB, h3⟩
theorem RowsC.below (h : RowsC w B A rs) (hb : Below B w w') : RowsC w' B A rs := h.keep fun _ hp => hb.cell hp
theorem RowsC.at_ (h : RowsC w B A rs) : RowsAt w B A rs := fun hn => by
  obtain ⟨b, off, e, hb, hc⟩ := h hn
  refine ⟨b, off, e, hb, fun i hi => ?_⟩
  obtain ⟨Ai, ci, h1, h2, _⟩ := hc i hi
  exact ⟨Ai, ci, h1, h2⟩
end

def sameB (xs ys : List (List Int)) : Bool := decide (xs.length = ys.length) && (List.range xs.length).all fun i => turnedB (xs.getD i []) (ys.getD i [])
theorem getD_row {rs : List (List Int)} {i : Nat} (h : i < rs.length) : rs.getD i [] = rs[i] := by rw [List.getD_eq_getElem?_getD, List.getElem?_eq_getElem h]; rfl
theorem same_no {xs ys : List (List Int)} {i : Nat} (hi : i < xs.length) (hj : i < ys.length) (h : turnedB xs[i] ys[i] = false) : sameB xs ys = false := by
  unfold sameB
  have : ((List.range xs.length).all fun i => turnedB (xs.getD i []) (ys.getD i [])) = false := by
    rw [List.all_eq_false]
    exact ⟨i, List.mem_range.2 hi, by rw [getD_row hi, getD_row hj, h]; simp⟩
  rw [this, Bool.and_false]

set_option maxHeartbeats 1000000 in
theorem eqFunc_any (A B : Option Addr) (ca cb : Nat) (xs ys : List (List Int)) (w : World) (ha : RowsC w w.heap.size A xs) (hb : RowsC w w.heap.size B ys) (hla : xs.length ≤ 1000) (hlb : ys.length ≤ 1000) (hra : ∀ l ∈ xs, l.length ≤ 1000) (hrb : xs.length = ys.length → ∀ l ∈ ys, l.length ≤ 1000) :
    Calls Try.prog 38 #[.slice A xs.length ca, .slice B ys.length cb, .func (.func 39) #[] #[]] w (fun e w' => e = .returned (.bool (sameB xs ys)) ∧ Below w.heap.size w w') := by
  by_cases hl : xs.length = ys.length
  · have H1 : ((xs.length : Int) != (ys.length : Int)) = false := by rw [int_bne]; simp [hl]
    have HL := Lib.hid hl
    have hl1 : xs.length ≤ ys.length := by omega
    clear hl
    go_enter Try.func38, Try.ntmps38
    go_wp2_with fail
    go_loopg [17] xs.length (fun k s17 wr => ∃ i : Nat, s17 = .int .i64 i ∧ i ≤ xs.length ∧ k = xs.length - i ∧ Below w.heap.size w wr ∧ ∀ j, j < i → turnedB (xs.getD j []) (ys.getD j []) = true)
    case atStart => exact ⟨0, rfl, Nat.zero_le _, rfl, Below.refl _ _, fun j hj => absurd hj (by omega)⟩
    case round =>
      obtain ⟨i, rfl, hi, hk, hbr, hy⟩ := hrel
      have Hk := Lib.hid hk; clear hk
      have Hy := Lib.hid hy; clear hy
      by_cases hlt : i < xs.length
      · have hlt' : (i : Int) < xs.length := by omega
        have hltb : i < ys.length := by omega
        have hltb' : (i : Int) < ys.length := by omega
        obtain ⟨b1, o1, rfl, hb1, hc1⟩ := ha (by omega)
        obtain ⟨b2, o2, rfl, hb2, hc2⟩ := hb (by omega)
        obtain ⟨A1, c1, e1, hC1, hr1⟩ := hc1 i hlt
        obtain ⟨A2, c2, e2, hC2, _⟩ := hc2 i hltb
        have e1 := (hbr.cell (p := ⟨b1, o1 + i, none⟩) hb1).trans e1
        have e2 := (hbr.cell (p := ⟨b2, o2 + i, none⟩) hb2).trans e2
        have hs := hbr.size
        have Ht := Lib.hid (turned_any A1 A2 c1 c2 xs[i] ys[i] wr ((hC1.below hbr).more hs) ((hC2.below hbr).more hs) hr1 (hra _ (List.getElem_mem hlt)) (hrb HL.out _ (List.getElem_mem hltb)))
        have HN := Lib.hid (same_no (xs := xs) (ys := ys) hlt hltb)
        have HG := Lib.hid (show turnedB (xs.getD i []) (ys.getD i []) = turnedB xs[i] ys[i] by rw [getD_row hlt, getD_row hltb])
        clear hc1 hc2 hC1 hC2 hr1
        generalize xs[i] = x at *
        generalize ys[i] = y at *
        go_wp2_with fail
        refine Ht.out.mono ?_
        rintro e w5 ⟨rfl, hb5⟩
        have hb6 := hbr.trans (hb5.mono hs)
        clear Ht
        cases ht : turnedB x y with
        | true =>
          rw [ht] at HG
          clear ht
          go_wp2_with fail
          go_roundg (xs.length - (i + 1))
          case measure => rw [Hk.out]; omega
          case rel => exact ⟨i + 1, by go_num, by omega, rfl, hb6, fun j hj => by
            by_cases h : j = i
            · rw [h]; exact HG.out
            · exact Hy.out j (by omega)⟩
        | false =>
          have HR := Lib.hid (HN.out ht)
          clear ht
          go_wp2_with fail
          go_ret
          exact ⟨ret_bool HR.out.symm, hb6⟩
      · have HR := Lib.hid (show sameB xs ys = true by
          unfold sameB
          rw [decide_eq_true HL.out, Bool.true_and, List.all_eq_true]
          exact fun j hj => Hy.out j (by have := List.mem_range.1 hj; omega))
        go_wp2_with fail
        go_ret
        exact ⟨ret_bool HR.out.symm, hbr⟩
  · have H1 : ((xs.length : Int) != (ys.length : Int)) = true := by rw [int_bne]; simp [hl]
    have HR := Lib.hid (show sameB xs ys = false by unfold sameB; rw [decide_eq_false hl]; rfl)
    clear hl
    go_enter Try.func38, Try.ntmps38
    go_wp2_with fail
    go_ret
    exact ⟨ret_bool HR.out.symm, Below.refl _ _⟩
theorem sameR_any (A B : Option Addr) (ca cb : Nat) (xs ys : List (List Int)) (w : World) (ha : RowsC w w.heap.size A xs) (hb : RowsC w w.heap.size B ys) (hla : xs.length ≤ 1000) (hlb : ys.length ≤ 1000) (hra : ∀ l ∈ xs, l.length ≤ 1000) (hrb : xs.length = ys.length → ∀ l ∈ ys, l.length ≤ 1000) :
    Calls Try.prog 23 #[.slice A xs.length ca, .slice B ys.length cb] w (fun e w' => e = .returned (.bool (sameB xs ys)) ∧ Below w.heap.size w w') := by
  have H := Lib.hid (eqFunc_any A B ca cb xs ys w ha hb hla hlb hra hrb)
  go_enter Try.func23, Try.ntmps23
  go_wp2_with fail
  refine H.out.mono ?_
  rintro e w' ⟨rfl, hb⟩
  go_wp2_with fail
  go_ret
  exact ⟨rfl, hb⟩
end Go.Proofs.Ythdifhfmgmmljaa
