/-
  Package rotation: vertex, Right: what they compute. Written by an AI agent.
-/
import Derived.Test.YthdifhfmgmmljaaRefs
import Derived.Test.YthdifhfmgmmljaaRefPart
import Derived.Test.YthdifhfmgmmljaaApp
namespace Go.Proofs.Ythdifhfmgmmljaa
open Go.RowKit

/-- a slice of slices of ints, below block B -/
def RowsAt (w : World) (B : Nat) (A : Option Addr) (rs : List (List Int)) : Prop :=
  0 < rs.length → ∃ b off, A = some ⟨b, off, none⟩ ∧ b < B ∧ ∀ i (h : i < rs.length), ∃ Ai ci, w.cell? ⟨b, off + i, none⟩ = some (.slice Ai rs[i].length ci) ∧ Cells w B Ai (intCells rs[i])
section
variable {w w' : World} {B B' : Nat} {A : Option Addr} {rs : List (List Int)}
theorem RowsAt.keep (h : RowsAt w B A rs) (hk : ∀ p : Addr, p.block < B → w'.cell? p = w.cell? p) : RowsAt w' B A rs := fun hn => by
  obtain ⟨b, off, e, hb, hc⟩ := h hn
  refine ⟨b, off, e, hb, fun i hi => ?_⟩
  obtain ⟨Ai, ci, h1, h2⟩ := hc i hi
  exact ⟨Ai, ci, (hk _ (by exact hb)).trans h1, h2.keep hk⟩
theorem RowsAt.more (h : RowsAt w B A rs) (hB : B ≤ B') : RowsAt w B' A rs := fun hn => by
  obtain ⟨b, off, e, hb, hc⟩ := h hn
  refine ⟨b, off, e, by omega, fun i hi => ?_⟩
  obtain ⟨Ai, ci, h1, h2⟩ := hc i hi
  exact ⟨Ai, ci, h1, h2.more hB⟩
theorem RowsAt.below (h : RowsAt w B A rs) (hb : Below B w w') : RowsAt w' B A rs := h.keep fun _ hp => hb.cell hp
end

/-- the vertex at which a half edge stands -/
def atE (es : List (Int × Int)) (h : Nat) : Int := if h % 2 = 0 then (es.getD (h / 2) (0, 0)).1 else (es.getD (h / 2) (0, 0)).2

theorem vertex_any (n : Int) (A : Option Addr) (cap : Nat) (es : List (Int × Int)) (h : Nat) (w : World) (hes : Cells w w.heap.size A (edgeCells es)) (hh : h < 2 * es.length) (hlen : es.length ≤ 1000) :
    Calls Try.prog 43 #[.agg #[.int .i64 n, .slice A es.length cap], .int .i64 h] w (fun e w' => e = .returned (.int .i64 (atE es h)) ∧ Below w.heap.size w w') := by
  obtain ⟨b, off, rfl, hb, hc⟩ := hes.edges (by omega)
  have hk : h / 2 < es.length := by omega
  obtain ⟨c0, c1⟩ := hc (h / 2) hk
  clear hc
  have e0 : es.getD (h / 2) (0, 0) = es[h / 2] := by simp [hk]
  have ha : atE es h = if h % 2 = 0 then es[h / 2].1 else es[h / 2].2 := by unfold atE; rw [e0]
  have Ha := Lib.hid ha; clear ha e0
  generalize es[h / 2].1 = t at *
  generalize es[h / 2].2 = u at *
  have hq : Int.tdiv (h : Int) 2 = ((h / 2 : Nat) : Int) := by rw [Int.tdiv_eq_ediv_of_nonneg (by omega)]; simp
  have hk' : ((h / 2 : Nat) : Int) < es.length := by omega
  have hbw := (Below.refl w.heap.size w).alloc (Nat.le_refl _) (.cells #[.int .i64 n, .slice (some ⟨b, off, none⟩) es.length cap] 24)
  by_cases h2 : h % 2 = 0
  · have hr : Int.tmod (h : Int) 2 = 0 := by rw [Int.tmod_eq_emod_of_nonneg (by omega)]; omega
    rw [if_pos h2] at Ha
    go_enter Try.func43, Try.ntmps43
    go_wp2_with fail
    go_ret
    exact ⟨ret_int Ha.out.symm, hbw.alloc hbw.size _⟩
  · have hr : Int.tmod (h : Int) 2 = 1 := by rw [Int.tmod_eq_emod_of_nonneg (by omega)]; omega
    rw [if_neg h2] at Ha
    go_enter Try.func43, Try.ntmps43
    go_wp2_with fail
    go_ret
    exact ⟨ret_int Ha.out.symm, hbw.alloc hbw.size _⟩

theorem indexBool_any (A : Option Addr) (cap : Nat) (l : List Bool) (v : Bool) (w : World) (hl : Cells w w.heap.size A (boolCells l)) (hlen : l.length ≤ 100000) :
    Calls Try.prog 53 #[.slice A l.length cap, .bool v] w fun e w' => ∃ r : Int, e = .returned (.int .i64 r) ∧ (0 ≤ r ↔ v ∈ l) ∧ ∃ m, w' = w.drewN m := by
  go_enter Try.func53, Try.ntmps53
  go_wp2_with fail
  go_loopg [8] l.length (fun k s8 wr => ∃ i m : Nat, s8 = .int .i64 i ∧ i ≤ l.length ∧ k = l.length - i ∧ wr = w.drewN m ∧ ∀ j, j < i → l[j]? ≠ some v)
  case atStart => exact ⟨0, 0, rfl, Nat.zero_le _, rfl, rfl, fun j hj => absurd hj (by omega)⟩
  case round =>
    obtain ⟨i, m, rfl, hi, hk, hwr, hno⟩ := hrel
    have Hk := Lib.hid hk; clear hk
    have Hno := Lib.hid hno; clear hno
    by_cases hlt : i < l.length
    · obtain ⟨b, off, rfl, hbb, hc⟩ := hl.bools (by omega)
      have c0 : wr.cell? ⟨b, off + i, none⟩ = some (.bool (l.getD i false)) := by rw [hwr]; exact hc i hlt
      have Hwr := Lib.hid hwr; clear hwr hc
      have hl1 : l[i]? = some (l.getD i false) := by rw [List.getD_eq_getElem?_getD, List.getElem?_eq_getElem hlt]; rfl
      have Hl1 := Lib.hid hl1; clear hl1
      have hlt' : (i : Int) < l.length := by omega
      generalize l.getD i false = u at *
      by_cases huv : v = u
      · subst huv
        have hE := Lib.hid (List.mem_of_getElem? Hl1.out)
        have hb : (v == v) = true := by simp
        go_wp2_with fail
        go_ret
        exact ⟨i, rfl, ⟨fun _ => hE.out, fun _ => by omega⟩, m, Hwr.out⟩
      · have hb : (v == u) = false := by simp [huv]
        go_wp2_with fail
        go_roundg (l.length - (i + 1))
        case measure => rw [Hk.out]; omega
        case rel => exact ⟨i + 1, m, by go_num, by omega, rfl, Hwr.out, fun j hj => by
          by_cases h : j = i
          · rw [h, Hl1.out]; exact fun e => huv (by injection e with e; exact e.symm)
          · exact Hno.out j (by omega)⟩
    · have hn : v ∉ l := fun h => by
        obtain ⟨j, hj, he⟩ := List.mem_iff_getElem.1 h
        exact Hno.out j (by omega) (by rw [List.getElem?_eq_getElem hj, he])
      have Hn := Lib.hid hn; clear hn
      have Hwr := Lib.hid hwr; clear hwr
      go_wp2_with fail
      go_ret
      exact ⟨-1, rfl, ⟨fun h => absurd h (by omega), fun h => absurd h Hn.out⟩, m, Hwr.out⟩
theorem containsBool_any (A : Option Addr) (cap : Nat) (l : List Bool) (v : Bool) (w : World) (hl : Cells w w.heap.size A (boolCells l)) (hlen : l.length ≤ 100000) :
    Calls Try.prog 44 #[.slice A l.length cap, .bool v] w (QuietB (decide (v ∈ l)) w) := by
  have Hc := Lib.hid (indexBool_any A cap l v w hl hlen)
  go_enter Try.func44, Try.ntmps44
  go_wp2_with fail
  refine Hc.out.mono ?_
  rintro e w' ⟨r, rfl, hr, m, rfl⟩
  have Hr := Lib.hid hr; clear hr
  go_wp2_with fail
  go_ret
  exact ⟨ret_bool (by rw [decide_eq_decide]; exact Hr.out), m, rfl⟩

/-- Right, step by step: which half edges were met; none: it is no rotation -/
def rStep (es : List (Int × Int)) (x : Nat) (st : Option (List Bool)) (h : Int) : Option (List Bool) :=
  match st with
  | none => none
  | some seen => if h < 0 ∨ (seen.length : Int) ≤ h then none else if seen.getD h.toNat false = true then none else if atE es h.toNat ≠ x then none else some (seen.set h.toNat true)
def rRow (es : List (Int × Int)) (x : Nat) (st : Option (List Bool)) (l : List Int) : Option (List Bool) := l.foldl (rStep es x) st
def rAll (es : List (Int × Int)) (rs : List (List Int)) (k : Nat) : Option (List Bool) := (List.range k).foldl (fun st x => rRow es x st (rs.getD x [])) (some (List.replicate (2 * es.length) false))
def rightB (n : Int) (es : List (Int × Int)) (rs : List (List Int)) : Bool :=
  mayB n es && decide ((rs.length : Int) = n) && match rAll es rs rs.length with | none => false | some seen => !decide (false ∈ seen)
theorem rStep_none {es : List (Int × Int)} {x : Nat} {h : Int} : rStep es x none h = none := rfl
theorem rRow_none {es : List (Int × Int)} {x : Nat} (l : List Int) : rRow es x none l = none := by
  unfold rRow
  induction l with
  | nil => rfl
  | cons a r ih => exact ih
theorem rAll_succ (es : List (Int × Int)) (rs : List (List Int)) (k : Nat) : rAll es rs (k + 1) = rRow es k (rAll es rs k) (rs.getD k []) := by
  unfold rAll; rw [List.range_succ, List.foldl_append]; rfl
theorem rRow_split {es : List (Int × Int)} {x : Nat} {st : Option (List Bool)} (a b : List Int) : rRow es x st (a ++ b) = rRow es x (rRow es x st a) b := by
  unfold rRow; rw [List.foldl_append]
theorem rRow_take {es : List (Int × Int)} {x i : Nat} {st : Option (List Bool)} {l : List Int} (h : i < l.length) : rRow es x st (l.take (i + 1)) = rStep es x (rRow es x st (l.take i)) l[i] := by
  rw [List.take_succ_eq_append_getElem h, rRow_split]; rfl
theorem rAll_dead {es : List (Int × Int)} {rs : List (List Int)} {k : Nat} (h : rAll es rs k = none) : ∀ d, rAll es rs (k + d) = none
  | 0 => h
  | d + 1 => by rw [← Nat.add_assoc, rAll_succ, rAll_dead h d, rRow_none]
theorem right_dead {n : Int} {es : List (Int × Int)} {rs : List (List Int)} {x i : Nat} (hx : x < rs.length) (h : rRow es x (rAll es rs x) (rs[x].take i) = none) : rightB n es rs = false := by
  have h1 : rAll es rs (x + 1) = none := by
    rw [rAll_succ, List.getD_eq_getElem?_getD, List.getElem?_eq_getElem hx]
    show rRow es x (rAll es rs x) rs[x] = none
    rw [← List.take_append_drop i rs[x], rRow_split, h, rRow_none]
  have h2 := rAll_dead h1 (rs.length - (x + 1))
  rw [show x + 1 + (rs.length - (x + 1)) = rs.length by omega] at h2
  unfold rightB
  rw [h2]; simp
theorem rStep_len {es : List (Int × Int)} {x : Nat} {s s' : List Bool} {h : Int} (e : rStep es x (some s) h = some s') : s'.length = s.length := by
  unfold rStep at e
  simp only at e
  split at e
  · cases e
  · split at e
    · cases e
    · split at e
      · cases e
      · injection e with e; rw [← e]; simp

set_option maxHeartbeats 2000000 in
theorem right_any (n : Int) (A C : Option Addr) (cap ccap : Nat) (es : List (Int × Int)) (rs : List (List Int)) (w : World) (hes : Cells w w.heap.size A (edgeCells es)) (hrs : RowsAt w w.heap.size C rs) (hr1 : rs.length ≤ 1000) (hr2 : ∀ l ∈ rs, l.length ≤ 1000) :
    Calls Try.prog 28 #[.agg #[.int .i64 n, .slice A es.length cap], .slice C rs.length ccap] w (fun e w' => e = .returned (.bool (rightB n es rs)) ∧ Below w.heap.size w w') := by
  go_enter Try.func28, Try.ntmps28
  go_wp2_with fail
  have b0 := World.cell?_alloc_new w #[.int .i64 n, .slice A es.length cap] 24 0
  have b1 := World.cell?_alloc_new w #[.int .i64 n, .slice A es.length cap] 24 1
  simp only [List.getElem?_toArray, List.getElem?_cons_zero, List.getElem?_cons_succ] at b0 b1
  have hbw := (Below.refl w.heap.size w).alloc (Nat.le_refl _) (.cells #[.int .i64 n, .slice A es.length cap] 24)
  have s1 := World.size_alloc w (.cells #[.int .i64 n, .slice A es.length cap] 24)
  generalize w.alloc (.cells #[.int .i64 n, .slice A es.length cap] 24) = w1 at *
  refine (may_any n A cap es w1 ((hes.below hbw).more (by omega))).mono ?_
  rintro e w2 ⟨rfl, hb2⟩
  have c0 := (hb2.cell (p := ⟨w.heap.size, 0, none⟩) (by simp; omega)).trans b0
  have c1 := (hb2.cell (p := ⟨w.heap.size, 1, none⟩) (by simp; omega)).trans b1
  have hb3 := hbw.trans (hb2.mono (by omega))
  have l2 : w.heap.size < w2.heap.size := by have := hb2.size; omega
  clear b0 b1 hb2 hbw s1
  cases hm : mayB n es with
  | false =>
    have HR := Lib.hid (show rightB n es rs = false by unfold rightB; rw [hm]; rfl)
    clear hm
    go_wp2_with fail
    go_ret
    exact ⟨ret_bool HR.out.symm, hb3⟩
  | true =>
    have Hm := Lib.hid hm; clear hm
    obtain ⟨hn0, hn1, hn2⟩ := may_parts Hm.out
    by_cases hn : (rs.length : Int) = n
    · have hne : ((rs.length : Int) != n) = false := by simp [hn]
      have Hn := Lib.hid hn; clear hn
      have hmk : ∀ W, (Instr.makeSlice 39 (.int .i64 (2 * (es.length : Int))) (.int .i64 (2 * (es.length : Int)))).run Try.prog W = .ok (.slice (some ⟨W.heap.size, 0, none⟩) (2 * es.length) (2 * es.length)) (W.alloc (.cells (List.replicate (2 * es.length) (Value.bool false)).toArray 4)) := fun W => by
        have := run_make1 elemBool rfl (2 * es.length) (by omega) (by omega) W
        rw [show ((2 * es.length : Nat) : Int) = 2 * (es.length : Int) by omega] at this
        exact this
      go_wp2_with fail
      have g0 : Blk (w2.alloc (.cells (Array.replicate (2 * es.length) (Value.bool false)) 4)) w2.heap.size 4 (boolCells (List.replicate (2 * es.length) false)).toArray := by
        have := Blk.new w2 4 (Array.replicate (2 * es.length) (Value.bool false))
        rw [← boolCells_replicate]
        simpa using this
      have hb4 := hb3.alloc hb3.size (.cells (Array.replicate (2 * es.length) (Value.bool false)) 4)
      have hk4 : ∀ p : Addr, p.block < w2.heap.size → (w2.alloc (.cells (Array.replicate (2 * es.length) (Value.bool false)) 4)).cell? p = w2.cell? p := fun p hp => World.cell?_alloc_lt _ _ p hp
      have hes2 := hes.below hb3
      have hrs2 := hrs.below hb3
      generalize w2.alloc (.cells (Array.replicate (2 * es.length) (Value.bool false)) 4) = w3 at *
      generalize hg : w2.heap.size = g at *
      have Hg := Lib.hid hg; clear hg
      go_loopg [27] rs.length (fun k s27 wr => ∃ (x : Nat) (seen : List Bool), s27 = .int .i64 x ∧ x ≤ rs.length ∧ k = rs.length - x ∧ rAll es rs x = some seen ∧ seen.length = 2 * es.length ∧ Below w.heap.size w wr ∧ Blk wr g 4 (boolCells seen).toArray ∧ ∀ p : Addr, p.block < g → wr.cell? p = w2.cell? p)
      case atStart => exact ⟨0, _, rfl, Nat.zero_le _, rfl, rfl, by simp, hb4, g0, hk4⟩
      case round =>
        clear hb4 g0 hk4 hmk hb3 hne
        obtain ⟨x, seen, rfl, hx, hk, hall, hsl, hb, hbl, hkp⟩ := hrel
        have Hk := Lib.hid hk; clear hk
        have Hall := Lib.hid hall; clear hall
        have Hkp := Lib.hid hkp; clear hkp
        by_cases hlt : x < rs.length
        · have hlt' : (x : Int) < rs.length := by omega
          obtain ⟨b, off, rfl, hbb, hrow⟩ := hrs2 (by omega)
          obtain ⟨Ai, ci, hcell, hCi⟩ := hrow x hlt
          have e0 := (Hkp.out ⟨b, off + x, none⟩ (by simp; omega)).trans hcell
          have hll : rs[x].length ≤ 1000 := hr2 _ (List.getElem_mem hlt)
          have HL := Lib.hid (show rs.getD x [] = rs[x] by rw [List.getD_eq_getElem?_getD, List.getElem?_eq_getElem hlt]; rfl)
          have HD := Lib.hid (fun (i : Nat) => right_dead (n := n) (es := es) (i := i) hlt)
          have HC := Lib.hid hCi
          clear hrow hcell hCi
          generalize rs[x] = l at *
          go_wp2_with fail
          go_loopg [34] l.length (fun k s34 wr => ∃ (i : Nat) (seen : List Bool), s34 = .int .i64 i ∧ i ≤ l.length ∧ k = l.length - i ∧ rRow es x (rAll es rs x) (l.take i) = some seen ∧ seen.length = 2 * es.length ∧ Below w.heap.size w wr ∧ Blk wr g 4 (boolCells seen).toArray ∧ ∀ p : Addr, p.block < g → wr.cell? p = w2.cell? p)
          case atStart => exact ⟨0, seen, rfl, Nat.zero_le _, rfl, Hall.out, hsl, hb, hbl, Hkp.out⟩
          case round =>
            clear hb hbl hsl Hkp Hall
            obtain ⟨i, seen, rfl, hi, hk, hrow, hsl, hb, hbl, hkp⟩ := hrel
            have Hk2 := Lib.hid hk; clear hk
            have Hrow := Lib.hid hrow; clear hrow
            have Hkp := Lib.hid hkp; clear hkp
            by_cases hlt2 : i < l.length
            · have hlt2' : (i : Int) < l.length := by omega
              obtain ⟨bi, offi, rfl, hbi, hci⟩ := HC.out.ints (by omega)
              have f0 := (Hkp.out ⟨bi, offi + i, none⟩ (by simp; omega)).trans (hci i hlt2)
              have HS := Lib.hid (show rRow es x (rAll es rs x) (l.take (i + 1)) = rStep es x (some seen) l[i] by rw [rRow_take hlt2, Hrow.out])
              clear hci
              generalize l[i] = h at *
              have y0 := (Hkp.out ⟨w.heap.size, 0, none⟩ (by simp; omega)).trans c0
              have y1 := (Hkp.out ⟨w.heap.size, 1, none⟩ (by simp; omega)).trans c1
              by_cases h0 : h < 0
              · have HR := Lib.hid (HD.out (i + 1) (by rw [HS.out]; unfold rStep; simp [h0]))
                go_wp2_with fail
                go_ret
                exact ⟨ret_bool HR.out.symm, hb⟩
              by_cases h1 : (2 * es.length : Int) ≤ h
              · have HR := Lib.hid (HD.out (i + 1) (by rw [HS.out]; unfold rStep; simp only; rw [if_pos (.inr (by rw [hsl]; omega))]))
                go_wp2_with fail
                go_ret
                exact ⟨ret_bool HR.out.symm, hb⟩
              obtain ⟨h, rfl⟩ := Int.eq_ofNat_of_zero_le (show 0 ≤ h by omega)
              have h2 : h < 2 * es.length := by omega
              have d0 := hbl.bool (k := h) (by omega)
              have hin : ¬ (((h : Nat) : Int) < 0 ∨ (seen.length : Int) ≤ (h : Nat)) := by omega
              cases hsn : seen.getD h false with
              | true =>
                have HR := Lib.hid (HD.out (i + 1) (by rw [HS.out]; unfold rStep; simp only [if_neg hin]; rw [if_pos (by exact hsn)]))
                rw [hsn] at d0
                clear hsn
                go_wp2_with fail
                go_ret
                exact ⟨ret_bool HR.out.symm, hb⟩
              | false =>
                rw [hsn] at d0
                have hesr := hes2.keep (w' := wr) (fun p hp => Hkp.out p (by omega))
                have hgl := hbl.lt
                have Hv := Lib.hid (vertex_any n A cap es h wr (hesr.more (by omega)) h2 (by omega))
                have HS2 := Lib.hid (show rStep es x (some seen) (h : Int) = if atE es h ≠ (x : Int) then none else some (seen.set h true) by
                  unfold rStep
                  simp only [if_neg hin]
                  rw [if_neg (by show ¬ seen.getD h false = true; rw [hsn]; simp)]
                  rfl)
                clear hsn hesr hin
                go_wp2_with fail
                refine Hv.out.mono ?_
                rintro e w5 ⟨rfl, hb5⟩
                have hb6 := hb.trans (hb5.mono (by have := hb.size; omega))
                have hbl6 := hbl.below hb5 hgl
                have hkp6 : ∀ p : Addr, p.block < g → w5.cell? p = w2.cell? p := fun p hp => (hb5.cell (Nat.lt_trans hp hgl)).trans (Hkp.out p hp)
                have Hkp6 := Lib.hid hkp6
                have hs5 := hb5.size
                clear hb hbl hb5 hkp6 d0 y0 y1 f0 e0 Hkp
                by_cases hv : atE es h = (x : Int)
                · have HS3 := Lib.hid (show rStep es x (some seen) (h : Int) = some (seen.set h true) by rw [HS2.out, if_neg (by simp [hv])])
                  rw [hv]
                  have hxx : ((x : Int) != (x : Int)) = false := by simp
                  have d0 := hbl6.bool (k := h) (by omega)
                  have f0 := hbl6.frozen h
                  have S1 := hbl6.setBool h true
                  have hb7 := hb6.setCell (p := ⟨g, h, none⟩) (by simp; omega) (.bool true)
                  have hk7 : ∀ p : Addr, p.block < g → (w5.setCell ⟨g, h, none⟩ (.bool true)).cell? p = w2.cell? p := fun p hp => (World.cell?_setCell_other w5 ⟨g, h, none⟩ p _ (fun e => by subst e; simp at hp)).trans (Hkp6.out p hp)
                  have Hk7 := Lib.hid hk7
                  clear hv hbl6 hk7
                  go_wp2_with fail
                  go_roundg (l.length - (i + 1))
                  case measure => rw [Hk2.out]; omega
                  case rel => exact ⟨i + 1, seen.set h true, by go_num, by omega, rfl, by rw [HS.out, HS3.out], by simp [hsl], hb7, S1, Hk7.out⟩
                · have HR := Lib.hid (HD.out (i + 1) (by rw [HS.out, HS2.out, if_pos hv]))
                  have hxx : (atE es h != (x : Int)) = true := by simp [hv]
                  clear hv
                  go_wp2_with fail
                  go_ret
                  exact ⟨ret_bool HR.out.symm, hb6⟩
            · have hie : i = l.length := by omega
              have HA := Lib.hid (show rAll es rs (x + 1) = some seen by rw [rAll_succ, HL.out, ← Hrow.out, hie, List.take_length])
              go_wp2_with fail
              go_roundg (rs.length - (x + 1))
              case measure => rw [Hk.out]; omega
              case rel => exact ⟨x + 1, seen, by go_num, by omega, rfl, HA.out, hsl, hb, hbl, Hkp.out⟩
        · have hxe : x = rs.length := by omega
          have HR := Lib.hid (show rightB n es rs = !decide (false ∈ seen) by
            unfold rightB
            rw [Hm.out, decide_eq_true Hn.out, ← hxe, Hall.out]; rfl)
          have hgl := hbl.lt
          have ho : Cells wr wr.heap.size (some ⟨g, 0, none⟩) (boolCells seen) := (Cells.of_blk (R := #[]) (by simpa using hbl)).more (by omega)
          have Hc := Lib.hid (containsBool_any _ (2 * es.length) seen false wr ho (by omega))
          rw [hsl] at Hc
          go_wp2_with fail
          refine Hc.out.mono ?_
          rintro e w6 ⟨rfl, m, rfl⟩
          go_wp2_with fail
          go_ret
          exact ⟨ret_bool HR.out.symm, below_drewN hb m⟩
    · have hne : ((rs.length : Int) != n) = true := by simp [hn]
      have HR := Lib.hid (show rightB n es rs = false by unfold rightB; rw [decide_eq_false hn]; simp)
      clear hn
      go_wp2_with fail
      go_ret
      exact ⟨ret_bool HR.out.symm, hb3⟩
end Go.Proofs.Ythdifhfmgmmljaa
