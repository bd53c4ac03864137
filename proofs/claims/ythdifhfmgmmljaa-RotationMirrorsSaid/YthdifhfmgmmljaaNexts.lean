/-
  Package rotation: nexts: what it computes. Written by an AI agent.
-/
import Derived.Test.YthdifhfmgmmljaaRot
namespace Go.Proofs.Ythdifhfmgmmljaa
open Go.RowKit

/-- the other half -/
def ot (h : Nat) : Nat := if h % 2 = 0 then h + 1 else h - 1
theorem xor_one (h : Nat) : h ^^^ 1 = ot h := by
  have h1 : (h ^^^ 1) / 2 = h / 2 := by rw [Nat.xor_div_two]; simp
  have h2 : (h ^^^ 1).testBit 0 = (h.testBit 0 ^^ true) := by rw [Nat.testBit_xor]; rfl
  rw [Nat.testBit_zero, Nat.testBit_zero] at h2
  unfold ot
  split
  · rename_i h3
    have : (h ^^^ 1) % 2 = 1 := by rw [h3] at h2; simpa using h2
    omega
  · rename_i h3
    have : h % 2 = 1 := by omega
    rw [this] at h2
    have : ¬ (h ^^^ 1) % 2 = 1 := by simpa using h2
    omega
theorem ot_lt {h m : Nat} (hh : h < 2 * m) : ot h < 2 * m := by unfold ot; split <;> omega
theorem ot_ot (h : Nat) : ot (ot h) = h := by unfold ot; split <;> split <;> omega
theorem bits_xor1 {h : Nat} (hh : h < 4611686018427387904) : bits .xor .i64 (h : Int) 1 = ((ot h : Nat) : Int) := by
  have h1 : (BitVec.ofInt 64 (h : Int)).toNat = h := by
    rw [BitVec.ofInt_natCast, BitVec.toNat_ofNat]; exact Nat.mod_eq_of_lt (by omega)
  have h2 : (BitVec.ofInt 64 (1 : Int)).toNat = 1 := by decide
  show IntKind.i64.wrap ((BitVec.ofInt 64 (h : Int) ^^^ BitVec.ofInt 64 (1 : Int)).toNat : Int) = _
  rw [BitVec.toNat_xor, h1, h2, xor_one, IntKind.wrap_i64]
  have : ot h ≤ h + 1 := by unfold ot; split <;> omega
  omega

/-- nexts, step by step -/
def nStep (l : List Int) (o : List Int) (i : Nat) : List Int := o.set (ot (l.getD i 0).toNat) (l.getD ((i + 1) % l.length) 0)
def nRow (l : List Int) (o : List Int) (k : Nat) : List Int := (List.range k).foldl (nStep l) o
def nAll (m : Nat) (rs : List (List Int)) (k : Nat) : List Int := (List.range k).foldl (fun o x => nRow (rs.getD x []) o (rs.getD x []).length) (List.replicate (2 * m) 0)
def nextsL (m : Nat) (rs : List (List Int)) : List Int := nAll m rs rs.length
theorem nRow_succ (l o : List Int) (k : Nat) : nRow l o (k + 1) = nStep l (nRow l o k) k := by
  unfold nRow; rw [List.range_succ, List.foldl_append]; rfl
theorem nAll_succ (m : Nat) (rs : List (List Int)) (k : Nat) : nAll m rs (k + 1) = nRow (rs.getD k []) (nAll m rs k) (rs.getD k []).length := by
  unfold nAll; rw [List.range_succ, List.foldl_append]; rfl
theorem nRow_length (l o : List Int) (k : Nat) : (nRow l o k).length = o.length := by
  induction k with
  | zero => rfl
  | succ k ih => rw [nRow_succ]; unfold nStep; rw [List.length_set, ih]
theorem nAll_length (m : Nat) (rs : List (List Int)) (k : Nat) : (nAll m rs k).length = 2 * m := by
  induction k with
  | zero => simp [nAll]
  | succ k ih => rw [nAll_succ, nRow_length, ih]
theorem Blk.setInt {w : World} {g : Nat} {t : TypeId} {l : List Int} (h : Blk w g t (intCells l).toArray) (k : Nat) (b : Int) : Blk (w.setCell ⟨g, k, none⟩ (.int .i64 b)) g t (intCells (l.set k b)).toArray := by
  have := h.set_ k (.int .i64 b)
  simpa [intCells, List.map_set] using this
theorem Blk.int_ {w : World} {g : Nat} {t : TypeId} {l : List Int} (h : Blk w g t (intCells l).toArray) {k : Nat} (hk : k < l.length) : w.cell? ⟨g, k, none⟩ = some (.int .i64 (l.getD k 0)) := by
  rw [h.cell k]; simp [intCells, hk]
theorem intCells_replicate (n : Nat) : List.replicate n (Value.int .i64 0) = intCells (List.replicate n 0) := by simp [intCells]

set_option maxHeartbeats 2000000 in
theorem nexts_any (n : Int) (A C : Option Addr) (cap ccap : Nat) (es : List (Int × Int)) (rs : List (List Int)) (w : World) (hrs : RowsAt w w.heap.size C rs) (he : es.length ≤ 1000) (hr1 : rs.length ≤ 1000) (hr2 : ∀ l ∈ rs, l.length ≤ 1000)
    (hin : ∀ l ∈ rs, ∀ h ∈ l, 0 ≤ h ∧ h < 2 * es.length) :
    Calls Try.prog 40 #[.agg #[.int .i64 n, .slice A es.length cap], .slice C rs.length ccap] w
      (fun e w' => ∃ g, e = .returned (.slice (some ⟨g, 0, none⟩) (2 * es.length) (2 * es.length)) ∧ Below w.heap.size w w' ∧ w.heap.size ≤ g ∧ Blk w' g 3 (intCells (nextsL es.length rs)).toArray) := by
  have hmk : ∀ W, (Instr.makeSlice 27 (.int .i64 (2 * (es.length : Int))) (.int .i64 (2 * (es.length : Int)))).run Try.prog W = .ok (.slice (some ⟨W.heap.size, 0, none⟩) (2 * es.length) (2 * es.length)) (W.alloc (.cells (List.replicate (2 * es.length) (Value.int .i64 0)).toArray 3)) := fun W => by
    have := run_make1 elemInt rfl (2 * es.length) (by omega) (by omega) W
    rw [show ((2 * es.length : Nat) : Int) = 2 * (es.length : Int) by omega] at this
    exact this
  have Hin := Lib.hid hin; clear hin
  go_enter Try.func40, Try.ntmps40
  go_wp2_with fail
  have hb1 := (Below.refl w.heap.size w).alloc (Nat.le_refl _) (.cells #[.int .i64 n, .slice A es.length cap] 24)
  have s1 := World.size_alloc w (.cells #[.int .i64 n, .slice A es.length cap] 24)
  generalize w.alloc (.cells #[.int .i64 n, .slice A es.length cap] 24) = w1 at *
  have g0 : Blk (w1.alloc (.cells (Array.replicate (2 * es.length) (Value.int .i64 0)) 3)) w1.heap.size 3 (intCells (List.replicate (2 * es.length) 0)).toArray := by
    have := Blk.new w1 3 (Array.replicate (2 * es.length) (Value.int .i64 0))
    rw [← intCells_replicate]
    simpa using this
  have hb2 := hb1.alloc (by omega) (.cells (Array.replicate (2 * es.length) (Value.int .i64 0)) 3)
  generalize w1.alloc (.cells (Array.replicate (2 * es.length) (Value.int .i64 0)) 3) = w2 at *
  rw [s1] at g0
  clear hb1 s1
  go_loopg [17] rs.length (fun k s17 wr => ∃ x : Nat, s17 = .int .i64 x ∧ x ≤ rs.length ∧ k = rs.length - x ∧ Below w.heap.size w wr ∧ Blk wr (w.heap.size + 1) 3 (intCells (nAll es.length rs x)).toArray)
  case atStart => exact ⟨0, rfl, Nat.zero_le _, rfl, hb2, g0⟩
  case round =>
    clear hb2 g0 hmk
    obtain ⟨x, rfl, hx, hk, hb, hbl⟩ := hrel
    have Hk := Lib.hid hk; clear hk
    by_cases hlt : x < rs.length
    · have hlt' : (x : Int) < rs.length := by omega
      obtain ⟨b, off, rfl, hbb, hrow⟩ := hrs (by omega)
      obtain ⟨Ai, ci, hcell, hCi⟩ := hrow x hlt
      have e0 := (hb.cell (p := ⟨b, off + x, none⟩) hbb).trans hcell
      have hll : rs[x].length ≤ 1000 := hr2 _ (List.getElem_mem hlt)
      have HL := Lib.hid (show rs.getD x [] = rs[x] by rw [List.getD_eq_getElem?_getD, List.getElem?_eq_getElem hlt]; rfl)
      have HI := Lib.hid (Hin.out _ (List.getElem_mem hlt))
      have HA := Lib.hid (nAll_succ es.length rs x)
      rw [HL.out] at HA
      clear hrow hcell HL
      have hol := nAll_length es.length rs x
      generalize nAll es.length rs x = o at *
      generalize rs[x] = l at *
      go_wp2_with fail
      go_loopg [23] l.length (fun k s23 wr => ∃ i : Nat, s23 = .int .i64 i ∧ i ≤ l.length ∧ k = l.length - i ∧ Below w.heap.size w wr ∧ Blk wr (w.heap.size + 1) 3 (intCells (nRow l o i)).toArray)
      case atStart => exact ⟨0, rfl, Nat.zero_le _, rfl, hb, hbl⟩
      case round =>
        clear hb hbl e0
        obtain ⟨i, rfl, hi, hk, hb, hbl⟩ := hrel
        have Hk2 := Lib.hid hk; clear hk
        have Hol := Lib.hid ((nRow_length l o i).trans hol)
        by_cases hlt2 : i < l.length
        · have hlt2' : (i : Int) < l.length := by omega
          obtain ⟨bi, offi, rfl, hbi, hci⟩ := hCi.ints (by omega)
          have f0 := (hb.cell (p := ⟨bi, offi + i, none⟩) hbi).trans (hci i hlt2)
          have hj : (i + 1) % l.length < l.length := Nat.mod_lt _ (by omega)
          have f1 := (hb.cell (p := ⟨bi, offi + (i + 1) % l.length, none⟩) hbi).trans (hci ((i + 1) % l.length) hj)
          have hm : Int.tmod ((i : Int) + 1) l.length = (((i + 1) % l.length : Nat) : Int) := by rw [Int.tmod_eq_emod_of_nonneg (by omega)]; simp
          have hl0 : ¬ ((l.length : Int) = 0) := by omega
          obtain ⟨q0, q1⟩ := HI.out _ (List.getElem_mem hlt2)
          have HS := Lib.hid (show nRow l o (i + 1) = (nRow l o i).set (ot l[i].toNat) l[(i + 1) % l.length] by
            rw [nRow_succ]; unfold nStep
            rw [List.getD_eq_getElem?_getD, List.getElem?_eq_getElem hlt2, List.getD_eq_getElem?_getD, List.getElem?_eq_getElem hj]; rfl)
          clear hci
          generalize l[(i + 1) % l.length] = v at *
          generalize l[i] = h at *
          obtain ⟨h, rfl⟩ := Int.eq_ofNat_of_zero_le q0
          rw [show ((h : Nat) : Int).toNat = h from rfl] at HS
          have hxx := bits_xor1 (h := h) (by omega)
          have hot : ot h < 2 * es.length := ot_lt (by omega)
          have hot' : ((ot h : Nat) : Int) < 2 * (es.length : Int) := by omega
          have hj' : (((i + 1) % l.length : Nat) : Int) < l.length := by omega
          generalize (i + 1) % l.length = jj at *
          generalize ot h = oh at *
          have d0 := hbl.int_ (k := oh) (by rw [Hol.out]; exact hot)
          have fz := hbl.frozen oh
          have S1 := hbl.setInt oh v
          have hb7 := hb.setCell (p := ⟨w.heap.size + 1, oh, none⟩) (by simp) (.int .i64 v)
          clear hbl
          go_wp2_with fail
          go_roundg (l.length - (i + 1))
          case measure => rw [Hk2.out]; omega
          case rel => exact ⟨i + 1, by go_num, by omega, rfl, hb7, by rw [HS.out]; exact S1⟩
        · have hie : i = l.length := by omega
          subst hie
          go_wp2_with fail
          go_roundg (rs.length - (x + 1))
          case measure => rw [Hk.out]; omega
          case rel => exact ⟨x + 1, by go_num, by omega, rfl, hb, by rw [HA.out]; exact hbl⟩
    · have hxe : x = rs.length := by omega
      subst hxe
      go_wp2_with fail
      go_ret
      exact ⟨w.heap.size + 1, rfl, hb, by omega, hbl⟩
end Go.Proofs.Ythdifhfmgmmljaa
