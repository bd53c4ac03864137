/-
  The document's Right: it tells what the program's tells. Written by an AI agent.
-/
import Derived.Test.YthdifhfmgmmljaaRight
namespace Go.Proofs.Ythdifhfmgmmljaa
open Go.RowKit

theorem at_any (n : Int) (A : Option Addr) (cap : Nat) (es : List (Int × Int)) (h : Nat) (w : World) (hes : Cells w w.heap.size A (edgeCells es)) (hh : h < 2 * es.length) (hlen : es.length ≤ 1000) :
    Calls Try.prog 41 #[.agg #[.int .i64 n, .slice A es.length cap], .int .i64 h] w (fun e w' => e = .returned (.int .i64 (atE es h)) ∧ Below w.heap.size w w') := by
  obtain ⟨b, off, rfl, hb, hc⟩ := hes.edges (by omega)
  have hk : h / 2 < es.length := by omega
  obtain ⟨c0, c1⟩ := hc (h / 2) hk
  clear hc
  have e0 : es.getD (h / 2) (0, 0) = es[h / 2] := by simp [hk]
  have ha : atE es h = if h % 2 = 0 then es[h / 2].1 else es[h / 2].2 := by unfold atE; rw [e0]
  have Ha := Lib.hid ha; clear ha e0
  generalize es[h / 2].1 = t at *
  generalize es[h / 2].2 = u at *
  have hq : Int.tdiv (h : Int) 2 = ((h / 2 : Nat) : Int) := by rw [Int.tdiv_eq_ediv_of_nonneg (by omega)]; simp
  have hk' : ((h / 2 : Nat) : Int) < es.length := by omega
  have hbw := (Below.refl w.heap.size w).alloc (Nat.le_refl _) (.cells #[.int .i64 n, .slice (some ⟨b, off, none⟩) es.length cap] 24)
  by_cases h2 : h % 2 = 0
  · have hr : Int.tmod (h : Int) 2 = 0 := by rw [Int.tmod_eq_emod_of_nonneg (by omega)]; omega
    rw [if_pos h2] at Ha
    go_enter Try.func41, Try.ntmps41
    go_wp2_with fail
    go_ret
    exact ⟨ret_int Ha.out.symm, hbw⟩
  · have hr : Int.tmod (h : Int) 2 = 1 := by rw [Int.tmod_eq_emod_of_nonneg (by omega)]; omega
    rw [if_neg h2] at Ha
    go_enter Try.func41, Try.ntmps41
    go_wp2_with fail
    go_ret
    exact ⟨ret_int Ha.out.symm, hbw⟩

/-- how often each half edge was met -/
def CntOk (o : List Int) (m : Nat) (P : List Int) : Prop := o.length = 2 * m ∧ ∀ h, h < 2 * m → o.getD h 0 = (P.count (h : Int) : Nat)
theorem CntOk.start (m : Nat) : CntOk (List.replicate (2 * m) 0) m [] := ⟨by simp, fun h hh => by rw [List.getD_eq_getElem?_getD, List.getElem?_replicate, if_pos hh]; rfl⟩
theorem CntOk.step {o : List Int} {m : Nat} {P : List Int} (h : CntOk o m P) {a : Nat} (ha : a < 2 * m) : CntOk (o.set a (o.getD a 0 + 1)) m (P ++ [(a : Int)]) := by
  refine ⟨by simp [h.1], fun k hk => ?_⟩
  rw [getD_setI _ _ _ _ (by rw [h.1]; exact ha), List.count_append, List.count_singleton]
  by_cases hka : k = a
  · subst hka
    rw [if_pos rfl, h.2 k hk]
    simp
  · rw [if_neg hka, h.2 k hk, if_neg (by simp; omega)]
    simp
/-- counts tell it -/
theorem right_count {n : Int} {es : List (Int × Int)} {rs : List (List Int)} (hm : mayB n es = true) (hl : (rs.length : Int) = n) (hat : ∀ x (hx : x < rs.length), ∀ a ∈ rs[x], 0 ≤ a ∧ a < 2 * (es.length : Int) ∧ atE es a.toNat = (x : Int)) :
    RightP n es rs ↔ ∀ h : Nat, h < 2 * es.length → rs.flatten.count (h : Int) = 1 := by
  constructor
  · intro h k hk
    have hnd : rs.flatten.Nodup := by
      rw [List.nodup_iff_pairwise_ne, List.pairwise_flatten]
      refine ⟨fun l hl => ?_, ?_⟩
      · obtain ⟨x, hx, rfl⟩ := List.mem_iff_getElem.1 hl
        exact List.nodup_iff_pairwise_ne.1 (h.nd x hx)
      · rw [List.pairwise_iff_getElem]
        intro i j hi hj hij a ha b hb e
        subst e
        have h1 := (hat i hi a ha).2.2
        have h2 := (hat j hj a hb).2.2
        rw [h1] at h2
        omega
    obtain ⟨x, hx, hmx⟩ := h.cov k hk
    have hmem : (k : Int) ∈ rs.flatten := List.mem_flatten.2 ⟨_, List.getElem_mem hx, hmx⟩
    rw [hnd.count, if_pos hmem]
  · intro h
    refine ⟨hm, hl, hat, fun x hx => ?_, fun k hk => ?_⟩
    · have hnd : rs.flatten.Nodup := by
        rw [List.nodup_iff_count]
        intro a
        by_cases ha : a ∈ rs.flatten
        · obtain ⟨l, hl, hal⟩ := List.mem_flatten.1 ha
          obtain ⟨y, hy, rfl⟩ := List.mem_iff_getElem.1 hl
          obtain ⟨a1, a2, _⟩ := hat y hy a hal
          have := h a.toNat (by omega)
          rw [show ((a.toNat : Nat) : Int) = a by omega] at this
          omega
        · rw [List.count_eq_zero_of_not_mem ha]; omega
      rw [List.nodup_iff_pairwise_ne, List.pairwise_flatten] at hnd
      exact List.nodup_iff_pairwise_ne.2 (hnd.1 _ (List.getElem_mem hx))
    · have : 0 < rs.flatten.count (k : Int) := by rw [h k hk]; omega
      obtain ⟨l, hl, hkl⟩ := List.mem_flatten.1 (List.count_pos_iff.1 this)
      obtain ⟨y, hy, rfl⟩ := List.mem_iff_getElem.1 hl
      exact ⟨y, hy, hkl⟩
theorem right_no {n : Int} {es : List (Int × Int)} {rs : List (List Int)} (h : ¬ RightP n es rs) : rightB n es rs = false := by
  rw [← Bool.not_eq_true, right_iff]; exact h
theorem right_bad {n : Int} {es : List (Int × Int)} {rs : List (List Int)} {x i : Nat} (hx : x < rs.length) (hi : i < rs[x].length) (h : ¬ (0 ≤ rs[x][i] ∧ rs[x][i] < 2 * (es.length : Int) ∧ atE es rs[x][i].toNat = (x : Int))) : rightB n es rs = false :=
  right_no fun g => h (g.at_ x hx _ (List.getElem_mem hi))

set_option maxHeartbeats 4000000 in
theorem refRight_any (n : Int) (A C : Option Addr) (cap ccap : Nat) (es : List (Int × Int)) (rs : List (List Int)) (w : World) (hes : Cells w w.heap.size A (edgeCells es)) (hrs : RowsAt w w.heap.size C rs) (hr1 : rs.length ≤ 1000) (hr2 : ∀ l ∈ rs, l.length ≤ 1000) :
    Calls Try.prog 27 #[.agg #[.int .i64 n, .slice A es.length cap], .slice C rs.length ccap] w (fun e w' => e = .returned (.bool (rightB n es rs)) ∧ Below w.heap.size w w') := by
  go_enter Try.func27, Try.ntmps27
  go_wp2_with fail
  have b0 := World.cell?_alloc_new w #[.int .i64 n, .slice A es.length cap] 24 0
  have b1 := World.cell?_alloc_new w #[.int .i64 n, .slice A es.length cap] 24 1
  simp only [List.getElem?_toArray, List.getElem?_cons_zero, List.getElem?_cons_succ] at b0 b1
  have hbw := (Below.refl w.heap.size w).alloc (Nat.le_refl _) (.cells #[.int .i64 n, .slice A es.length cap] 24)
  have s1 := World.size_alloc w (.cells #[.int .i64 n, .slice A es.length cap] 24)
  generalize w.alloc (.cells #[.int .i64 n, .slice A es.length cap] 24) = w1 at *
  refine (refmay_any n A cap es w1 ((hes.below hbw).more (by omega))).mono ?_
  rintro e w2 ⟨rfl, hb2⟩
  have c0 := (hb2.cell (p := ⟨w.heap.size, 0, none⟩) (by simp; omega)).trans b0
  have c1 := (hb2.cell (p := ⟨w.heap.size, 1, none⟩) (by simp; omega)).trans b1
  have hb3 := hbw.trans (hb2.mono (by omega))
  have l2 : w.heap.size < w2.heap.size := by have := hb2.size; omega
  clear b0 b1 hb2 hbw s1
  cases hm : mayB n es with
  | false =>
    have HR := Lib.hid (show rightB n es rs = false by unfold rightB; rw [hm]; rfl)
    clear hm
    go_wp2_with fail
    go_ret
    exact ⟨ret_bool HR.out.symm, hb3⟩
  | true =>
    have Hm := Lib.hid hm; clear hm
    obtain ⟨hn0, hn1, hn2⟩ := may_parts Hm.out
    by_cases hn : (rs.length : Int) = n
    · have hne : ((rs.length : Int) != n) = false := by simp [hn]
      have Hn := Lib.hid hn; clear hn
      have hmk : ∀ W, (Instr.makeSlice 27 (.int .i64 (2 * (es.length : Int))) (.int .i64 (2 * (es.length : Int)))).run Try.prog W = .ok (.slice (some ⟨W.heap.size, 0, none⟩) (2 * es.length) (2 * es.length)) (W.alloc (.cells (List.replicate (2 * es.length) (Value.int .i64 0)).toArray 3)) := fun W => by
        have := run_make1 elemInt rfl (2 * es.length) (by omega) (by omega) W
        rw [show ((2 * es.length : Nat) : Int) = 2 * (es.length : Int) by omega] at this
        exact this
      go_wp2_with fail
      have g0 : Blk (w2.alloc (.cells (Array.replicate (2 * es.length) (Value.int .i64 0)) 3)) w2.heap.size 3 (intCells (List.replicate (2 * es.length) 0)).toArray := by
        have := Blk.new w2 3 (Array.replicate (2 * es.length) (Value.int .i64 0))
        rw [← intCells_replicate]
        simpa using this
      have hb4 := hb3.alloc hb3.size (.cells (Array.replicate (2 * es.length) (Value.int .i64 0)) 3)
      have hk4 : ∀ p : Addr, p.block < w2.heap.size → (w2.alloc (.cells (Array.replicate (2 * es.length) (Value.int .i64 0)) 3)).cell? p = w2.cell? p := fun p hp => World.cell?_alloc_lt _ _ p hp
      have hes2 := hes.below hb3
      have hrs2 := hrs.below hb3
      generalize w2.alloc (.cells (Array.replicate (2 * es.length) (Value.int .i64 0)) 3) = w3 at *
      generalize hg : w2.heap.size = g at *
      have Hg := Lib.hid hg; clear hg
      go_loopg [6] rs.length (fun k s6 wr => ∃ (x : Nat) (o : List Int), s6 = .int .i64 x ∧ x ≤ rs.length ∧ k = rs.length - x ∧ CntOk o es.length (rs.take x).flatten ∧ (∀ y (hy : y < rs.length), y < x → ∀ a ∈ rs[y], 0 ≤ a ∧ a < 2 * (es.length : Int) ∧ atE es a.toNat = (y : Int)) ∧ Below w.heap.size w wr ∧ Blk wr g 3 (intCells o).toArray ∧ ∀ p : Addr, p.block < g → wr.cell? p = w2.cell? p)
      case atStart => exact ⟨0, _, rfl, Nat.zero_le _, rfl, CntOk.start _, fun y _ hy => absurd hy (by omega), hb4, g0, hk4⟩
      case round =>
        clear hb4 g0 hk4 hmk hb3 hne
        obtain ⟨x, o, rfl, hx, hk, hcnt, hat, hb, hbl, hkp⟩ := hrel
        have Hk := Lib.hid hk; clear hk
        have Hcnt := Lib.hid hcnt; clear hcnt
        have Hat := Lib.hid hat; clear hat
        have Hkp := Lib.hid hkp; clear hkp
        by_cases hlt : x < rs.length
        · have hlt' : (x : Int) < rs.length := by omega
          obtain ⟨b, off, rfl, hbb, hrow⟩ := hrs2 (by omega)
          obtain ⟨Ai, ci, hcell, hCi⟩ := hrow x hlt
          have hll : rs[x].length ≤ 1000 := hr2 _ (List.getElem_mem hlt)
          have HF := Lib.hid (show (rs.take (x + 1)).flatten = (rs.take x).flatten ++ rs[x] by rw [List.take_succ_eq_append_getElem hlt, List.flatten_append]; simp)
          have HD := Lib.hid (fun (i : Nat) (hi : i < rs[x].length) => right_bad (n := n) (es := es) hlt hi)
          have HA := Lib.hid (fun (h : ∀ a ∈ rs[x], 0 ≤ a ∧ a < 2 * (es.length : Int) ∧ atE es a.toNat = (x : Int)) => (fun y (hy : y < rs.length) (hyx : y < x + 1) => (by
            by_cases hyx2 : y = x
            · subst hyx2; exact h
            · exact Hat.out y hy (by omega) : ∀ a ∈ rs[y], 0 ≤ a ∧ a < 2 * (es.length : Int) ∧ atE es a.toNat = (y : Int))))
          have HC := Lib.hid hCi
          have Hcell := Lib.hid hcell
          clear hrow hcell hCi
          generalize rs[x] = l at *
          go_wp2_with fail
          go_loopg [7] l.length (fun k s7 wr => ∃ (i : Nat) (o : List Int), s7 = .int .i64 i ∧ i ≤ l.length ∧ k = l.length - i ∧ CntOk o es.length ((rs.take x).flatten ++ l.take i) ∧ (∀ a ∈ l.take i, 0 ≤ a ∧ a < 2 * (es.length : Int) ∧ atE es a.toNat = (x : Int)) ∧ Below w.heap.size w wr ∧ Blk wr g 3 (intCells o).toArray ∧ ∀ p : Addr, p.block < g → wr.cell? p = w2.cell? p)
          case atStart => exact ⟨0, o, rfl, Nat.zero_le _, rfl, by simpa using Hcnt.out, fun a ha => absurd ha (by simp), hb, hbl, Hkp.out⟩
          case round =>
            clear hb hbl Hkp Hcnt
            obtain ⟨i, o, rfl, hi, hk, hcnt, hrow, hb, hbl, hkp⟩ := hrel
            have Hk2 := Lib.hid hk; clear hk
            have Hrow := Lib.hid hrow; clear hrow
            have Hcnt := Lib.hid hcnt; clear hcnt
            have Hkp := Lib.hid hkp; clear hkp
            have e0 := (Hkp.out ⟨b, off + x, none⟩ (by simp; omega)).trans Hcell.out
            by_cases hlt2 : i < l.length
            · have hlt2' : (i : Int) < l.length := by omega
              obtain ⟨bi, offi, rfl, hbi, hci⟩ := HC.out.ints (by omega)
              have f0 := (Hkp.out ⟨bi, offi + i, none⟩ (by simp; omega)).trans (hci i hlt2)
              have HDi := Lib.hid (HD.out i hlt2)
              have HT := Lib.hid (List.take_succ_eq_append_getElem hlt2)
              clear hci
              generalize l[i] = h at *
              have y0 := (Hkp.out ⟨w.heap.size, 0, none⟩ (by simp; omega)).trans c0
              have y1 := (Hkp.out ⟨w.heap.size, 1, none⟩ (by simp; omega)).trans c1
              by_cases h0 : h < 0
              · have HR := Lib.hid (HDi.out (fun hh => by omega))
                go_wp2_with fail
                go_ret
                exact ⟨ret_bool HR.out.symm, hb⟩
              by_cases h1 : (2 * es.length : Int) ≤ h
              · have HR := Lib.hid (HDi.out (fun hh => by omega))
                go_wp2_with fail
                go_ret
                exact ⟨ret_bool HR.out.symm, hb⟩
              obtain ⟨h, rfl⟩ := Int.eq_ofNat_of_zero_le (show 0 ≤ h by omega)
              have h2 : h < 2 * es.length := by omega
              have hesr := hes2.keep (w' := wr) (fun p hp => Hkp.out p (by omega))
              have hgl := hbl.lt
              have Hv := Lib.hid (at_any n A cap es h wr (hesr.more (by omega)) h2 (by omega))
              clear hesr
              go_wp2_with fail
              refine Hv.out.mono ?_
              rintro e w5 ⟨rfl, hb5⟩
              have hb6 := hb.trans (hb5.mono (by have := hb.size; omega))
              have hbl6 := hbl.below hb5 hgl
              have hkp6 : ∀ p : Addr, p.block < g → w5.cell? p = w2.cell? p := fun p hp => (hb5.cell (Nat.lt_trans hp hgl)).trans (Hkp.out p hp)
              have Hkp6 := Lib.hid hkp6
              clear hb hbl hb5 hkp6 y0 y1 f0 e0 Hkp
              by_cases hv : atE es h = (x : Int)
              · have HV := Lib.hid hv
                rw [hv]
                have hxx : ((x : Int) != (x : Int)) = false := by simp
                have hcl := Hcnt.out.1
                have hcv := Hcnt.out.2 h h2
                have HS := Lib.hid (Hcnt.out.step h2)
                have d0 := hbl6.int_ (k := h) (by omega)
                rw [hcv] at d0
                have hcb : List.count ((h : Nat) : Int) ((rs.take x).flatten ++ l.take i) ≤ 1000000 := by
                  refine Nat.le_trans List.count_le_length ?_
                  rw [List.length_append, List.length_take]
                  have : ∀ k, k ≤ rs.length → (rs.take k).flatten.length ≤ k * 1000 := by
                    intro k
                    induction k with
                    | zero => intro _; simp
                    | succ k ih =>
                      intro hk
                      have hkl : k < rs.length := by omega
                      rw [List.take_succ_eq_append_getElem hkl, List.flatten_append, List.length_append]
                      have := hr2 _ (List.getElem_mem hkl)
                      have := ih (by omega)
                      simp only [List.flatten_cons, List.flatten_nil, List.append_nil]
                      omega
                  have := this x (by omega)
                  omega
                have f0 := hbl6.frozen h
                have S1 := hbl6.setInt h ((List.count ((h : Nat) : Int) ((rs.take x).flatten ++ l.take i) : Int) + 1)
                rw [hcv] at HS
                generalize List.count ((h : Nat) : Int) ((rs.take x).flatten ++ l.take i) = q at *
                have hb7 := hb6.setCell (p := ⟨g, h, none⟩) (by simp; omega) (.int .i64 ((q : Int) + 1))
                have hk7 : ∀ p : Addr, p.block < g → (w5.setCell ⟨g, h, none⟩ (.int .i64 ((q : Int) + 1))).cell? p = w2.cell? p := fun p hp => (World.cell?_setCell_other w5 ⟨g, h, none⟩ p _ (fun e => by subst e; simp at hp)).trans (Hkp6.out p hp)
                have Hk7 := Lib.hid hk7
                clear hv hbl6 hk7 hcv
                go_wp2_with fail
                go_roundg (l.length - (i + 1))
                case measure => rw [Hk2.out]; omega
                case rel => exact ⟨i + 1, o.set h ((q : Int) + 1), by go_num, by omega, rfl, by rw [HT.out, ← List.append_assoc]; exact HS.out, fun a ha => by
                  rw [HT.out] at ha
                  rcases List.mem_append.1 ha with h3 | h3
                  · exact Hrow.out a h3
                  · have : a = (h : Int) := by simpa using h3
                    subst this
                    exact ⟨by omega, by omega, HV.out⟩, hb7, S1, Hk7.out⟩
              · have HR := Lib.hid (HDi.out (fun hh => hv hh.2.2))
                have hxx : (atE es h != (x : Int)) = true := by simp [hv]
                clear hv
                go_wp2_with fail
                go_ret
                exact ⟨ret_bool HR.out.symm, hb6⟩
            · have hie : i = l.length := by omega
              subst hie
              have HQ := Lib.hid (show CntOk o es.length (rs.take (x + 1)).flatten by rw [HF.out]; simpa using Hcnt.out)
              have HA2 := Lib.hid (HA.out (by simpa using Hrow.out))
              go_wp2_with fail
              go_roundg (rs.length - (x + 1))
              case measure => rw [Hk.out]; omega
              case rel => exact ⟨x + 1, o, by go_num, by omega, rfl, HQ.out, HA2.out, hb, hbl, Hkp.out⟩
        · have hxe : x = rs.length := by omega
          subst hxe
          have HC2 := Lib.hid (show CntOk o es.length rs.flatten by simpa using Hcnt.out)
          have HI := Lib.hid (right_count (n := n) (es := es) (rs := rs) Hm.out Hn.out (fun y hy => Hat.out y hy hy))
          have hol := HC2.out.1
          clear Hkp Hcnt Hat
          obtain ⟨w6, rfl⟩ : ∃ x, x = wr := ⟨_, rfl⟩
          go_wp2_with fail
          go_loopg [9] (2 * es.length) (fun k s9 wr => ∃ h : Nat, s9 = .int .i64 h ∧ h ≤ 2 * es.length ∧ k = 2 * es.length - h ∧ wr = w6 ∧ ∀ j, j < h → rs.flatten.count (j : Int) = 1)
          case atStart => exact ⟨0, rfl, Nat.zero_le _, rfl, rfl, fun j hj => absurd hj (by omega)⟩
          case round =>
            obtain ⟨h, rfl, hh, hk, hwr, hc⟩ := hrel
            have Hk3 := Lib.hid hk; clear hk
            have Hc := Lib.hid hc; clear hc
            by_cases hlt3 : h < 2 * es.length
            · have d0 : wr.cell? ⟨g, h, none⟩ = some (.int .i64 (o.getD h 0)) := by rw [hwr]; exact hbl.int_ (by omega)
              rw [HC2.out.2 h hlt3] at d0
              have Hwr := Lib.hid hwr; clear hwr
              have hlt3' : (h : Int) < 2 * (es.length : Int) := by omega
              have HH := Lib.hid (fun (e : ¬ rs.flatten.count (h : Int) = 1) => right_no (n := n) (es := es) (rs := rs) (fun g => e (HI.out.1 g h hlt3)))
              have HH2 := Lib.hid (fun (e : rs.flatten.count (h : Int) = 1) => (fun j (hj : j < h + 1) => (by
                by_cases hjh : j = h
                · subst hjh; exact e
                · exact Hc.out j (by omega) : rs.flatten.count (j : Int) = 1)))
              generalize List.count ((h : Nat) : Int) rs.flatten = q at *
              by_cases hq : q = 1
              · subst hq
                have H2 := Lib.hid (HH2.out rfl)
                go_wp2_with fail
                go_roundg (2 * es.length - (h + 1))
                case measure => rw [Hk3.out]; omega
                case rel => exact ⟨h + 1, by go_num, by omega, rfl, Hwr.out, H2.out⟩
              · have HR := Lib.hid (HH.out hq)
                have hq1 : ((q : Int) != 1) = true := by simp; omega
                have hbw : Below w.heap.size w wr := by rw [Hwr.out]; exact hb
                clear hq
                go_wp2_with fail
                go_ret
                exact ⟨ret_bool HR.out.symm, hbw⟩
            · have HR := Lib.hid (right_iff.2 (HI.out.2 (fun j hj => Hc.out j (by omega))))
              go_wp2_with fail
              go_ret
              exact ⟨ret_bool HR.out.symm, hb⟩
    · have hne : ((rs.length : Int) != n) = true := by simp [hn]
      have HR := Lib.hid (show rightB n es rs = false by unfold rightB; rw [decide_eq_false hn]; simp)
      clear hn
      go_wp2_with fail
      go_ret
      exact ⟨ret_bool HR.out.symm, hb3⟩
end Go.Proofs.Ythdifhfmgmmljaa
