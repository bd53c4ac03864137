import Derived.Test.YthdifhfmgmmljaaRefTrans
namespace Go.Proofs.Ythdifhfmgmmljaa
open Go.RowKit

/-- edges that count without some vertices -/
def rwoB (wo : List Bool) (es : List (Int × Int)) (i : Nat) : Bool := !wo.getD (es.getD i (0, 0)).1.toNat false && !wo.getD (es.getD i (0, 0)).2.toNat false
def cntsWo (wo : List Bool) (es : List (Int × Int)) : List Bool := (List.range es.length).map (rwoB wo es)
/-- the least seen vertex among the last j -/
def lst (seen : List Bool) (b : Bool) (n : Nat) : Nat → Int
  | 0 => -1
  | j + 1 => if seen.getD (n - 1 - j) false && b then ((n - 1 - j : Nat) : Int) else lst seen b n j
def rpart (wo : List Bool) (es : List (Int × Int)) (n x : Nat) : Int := lst (goAll true (cntsWo wo es) es n x) (!wo.getD x false) n n
def rpartL (wo : List Bool) (es : List (Int × Int)) (n k : Nat) : List Int := (List.range k).map (rpart wo es n)
theorem rpartL_succ (wo : List Bool) (es : List (Int × Int)) (n k : Nat) : rpartL wo es n (k + 1) = rpartL wo es n k ++ [rpart wo es n k] := by
  unfold rpartL; rw [List.range_succ, List.map_append]; rfl
theorem rpartL_length (wo : List Bool) (es : List (Int × Int)) (n k : Nat) : (rpartL wo es n k).length = k := by simp [rpartL]

theorem lst_step (seen : List Bool) (b : Bool) (n y : Nat) (h : y < n) : lst seen b n (n - y) = if seen.getD y false && b then (y : Int) else lst seen b n (n - (y + 1)) := by
  obtain ⟨j, hj⟩ : ∃ j, n - y = j + 1 := ⟨n - y - 1, by omega⟩
  rw [hj, show n - (y + 1) = j by omega, lst, show n - 1 - j = y by omega]
theorem own_slice {w : World} {base size n : Nat} {t : TypeId} {v : Value} {xs : List Value} (h : w.ownsRow base t size v n xs) : ∃ A c, v = .slice A n c := by
  rcases h.2 with ⟨rfl, rfl⟩ | ⟨g, cap, cur, rfl, _⟩
  · exact ⟨none, 0, rfl⟩
  · exact ⟨_, _, rfl⟩

set_option maxHeartbeats 1000000 in
theorem refpart_any (n : Nat) (A C : Option Addr) (cap ccap : Nat) (es : List (Int × Int)) (wo : List Bool) (w : World) (hes : Cells w w.heap.size A (edgeCells es)) (hwo : Cells w w.heap.size C (boolCells wo)) (hin : InN n es) (hn : n ≤ 64) (hlen : es.length ≤ 128) (hwl : wo.length = n) :
    Calls Try.prog 20 #[.agg #[.int .i64 n, .slice A es.length cap], .slice C n ccap] w (OwnPost 3 (intCells (rpartL wo es n n)) w) := by
  have Hin := Lib.hid hin; clear hin
  have Hwl := Lib.hid hwl; clear hwl
  go_enter Try.func20, Try.ntmps20
  go_wp2_with fail
  have x0 := Blk.new w 24 #[.int .i64 n, .slice A es.length cap]
  have hbw := (Below.refl w.heap.size w).alloc (Nat.le_refl _) (.cells #[.int .i64 n, .slice A es.length cap] 24)
  have s1 := World.size_alloc w (.cells #[.int .i64 n, .slice A es.length cap] 24)
  generalize w.alloc (.cells #[.int .i64 n, .slice A es.length cap] 24) = w1 at *
  have l1 : w.heap.size < w1.heap.size := by omega
  clear s1
  refine (every_any n A cap es _ (by omega)).mono ?_
  rintro e w2 ⟨v, rfl, hb2, hv⟩
  have x1 := x0.below hb2 l1
  have hb3 := hbw.trans (hb2.mono (Nat.le_of_lt l1))
  rw [boolCells_length, List.length_replicate] at hv
  -- the edges' marks: an own row, nil let in
  have hc0 : ∃ l : List Bool, l.length = es.length ∧ (∀ j, j < 0 → l.getD j false = rwoB wo es j) ∧ w2.ownsRow w1.heap.size 4 1 v es.length (boolCells l) := ⟨_, by simp, fun j hj => absurd hj (by omega), hv⟩
  clear hv
  go_wp2_with fail
  go_loopg [6] es.length (fun k s6 wr => ∃ i : Nat, s6 = .int .i64 i ∧ i ≤ es.length ∧ k = es.length - i ∧ Below w.heap.size w wr ∧ Blk wr w.heap.size 24 #[.int .i64 n, .slice A es.length cap] ∧
    ∃ l : List Bool, l.length = es.length ∧ (∀ j, j < i → l.getD j false = rwoB wo es j) ∧ wr.ownsRow w1.heap.size 4 1 v es.length (boolCells l))
  case atStart => exact ⟨0, rfl, Nat.zero_le _, rfl, hb3, x1, hc0⟩
  case round =>
    obtain ⟨i, rfl, hi, hk, hb, hx, l, hl, hlj, hown⟩ := hrel
    have Hk := Lib.hid hk; clear hk
    have Hl := Lib.hid hl; clear hl
    have Hlj := Lib.hid hlj; clear hlj hc0
    have b0 := hx.cell 0
    have b1 := hx.cell 1
    simp only [List.getElem?_toArray, List.getElem?_cons_zero, List.getElem?_cons_succ] at b0 b1
    by_cases hlt : i < es.length
    · obtain ⟨b, off, rfl, hbb, hcc⟩ := hes.edges (by omega)
      obtain ⟨c0, c1⟩ := hcc i hlt
      clear hcc
      obtain ⟨t, u, e, ht, hu⟩ := Hin.out.at_ hlt
      rw [e] at c0 c1
      have e0 : es.getD i (0, 0) = ((t : Int), (u : Int)) := by simp [hlt, e]
      have RB := Lib.hid (show rwoB wo es i = (!wo.getD t false && !wo.getD u false) by unfold rwoB; rw [e0]; rfl)
      clear e e0
      have ht' : (t : Int) < n := by omega
      have hu' : (u : Int) < n := by omega
      obtain ⟨bw, offw, rfl, hbw2, hcw⟩ := hwo.bools (by have := Hwl.out; omega)
      have d0 := hcw t (by have := Hwl.out; omega)
      have d1 := hcw u (by have := Hwl.out; omega)
      clear hcw
      have c0' := (hb.cell (p := ⟨b, off + i * 2, none⟩) hbb).trans c0
      have c1' := (hb.cell (p := ⟨b, off + i * 2 + 1, none⟩) hbb).trans c1
      have d0' := (hb.cell (p := ⟨bw, offw + t, none⟩) hbw2).trans d0
      have d1' := (hb.cell (p := ⟨bw, offw + u, none⟩) hbw2).trans d1
      clear c0 c1 d0 d1
      obtain ⟨g, cap2, R, rfl, hg, hblk, hR, hc1, hc2, hc3⟩ := own_blk hown (by omega)
      clear hown
      have HR := Lib.hid (And.intro hR (And.intro hc1 (And.intro hc2 hc3))); clear hR hc1 hc2 hc3
      have f0 := hblk.frozen i
      have g0 := hblk.boolR (k := i) (by rw [Hl.out]; exact hlt)
      have S1 := hblk.setBoolR i (rwoB wo es i) (by rw [Hl.out]; exact hlt)
      have SS := Lib.hid S1; clear S1
      generalize hra : wo.getD t false = a at *
      generalize hrd : wo.getD u false = d at *
      clear hra hrd
      have fin : ∀ wq, Blk wq g 4 ((boolCells (l.set i (rwoB wo es i))).toArray ++ R) → ∃ l' : List Bool, l'.length = es.length ∧ (∀ j, j < i + 1 → l'.getD j false = rwoB wo es j) ∧ wq.ownsRow w1.heap.size 4 1 (.slice (some ⟨g, 0, none⟩) es.length cap2) es.length (boolCells l') := by
        intro wq hq
        obtain ⟨r1, r2, r3, r4⟩ := HR.out
        refine ⟨l.set i (rwoB wo es i), by simp [Hl.out], fun j hj => ?_, blk_own hg hq (by simpa [boolCells] using r1) r2 r3 (by simp [boolCells, Hl.out])⟩
        simp only [List.getD_eq_getElem?_getD, List.getElem?_set]
        by_cases h : i = j
        · subst h; simp [Hl.out, hlt]
        · rw [if_neg h, ← List.getD_eq_getElem?_getD]; exact Hlj.out j (by omega)
      have Fin := Lib.hid fin; clear fin
      cases a <;> cases d <;> (go_wp2_with fail)
      all_goals
        go_roundg (es.length - (i + 1))
        case measure => rw [Hk.out]; omega
        case rel =>
          refine ⟨i + 1, by go_num, by omega, rfl, hb.setCell (by simp; omega) _, hx.far (by simp; omega) _, Fin.out _ ?_⟩
          have S := SS.out
          rw [RB.out] at S ⊢
          exact S
    · have hie : i = es.length := by omega
      subst hie
      go_wp2_with fail
      have o0 : (wr.alloc (.cells #[] 3)).ownsRow wr.heap.size 3 1 (.slice (some ⟨wr.heap.size, 0, none⟩) 0 0) 0 [] := own_of_blk (Blk.new wr 3 #[]) (Nat.le_refl _) rfl (by omega)
      have x2 := hx.alloc (.cells #[] 3)
      have ow2 := hown.alloc (.cells #[] 3)
      obtain ⟨Av, cv, rfl⟩ := own_slice hown
      have cc := (Cells.of_own hown).alloc (Nat.le_refl _) (.cells #[] 3)
      have hl2 := hx.lt
      have hb4 := hb.alloc (by omega) (.cells #[] 3)
      have ec : l = cntsWo wo es := by
        refine List.ext_getElem (by simp [cntsWo, Hl.out]) (fun j h1 h2 => ?_)
        have := Hlj.out j (by have := Hl.out; omega)
        rw [List.getD_eq_getElem?_getD, List.getElem?_eq_getElem h1] at this
        simpa [cntsWo] using this
      rw [ec] at cc
      have s2 := World.size_alloc wr (.cells #[] 3)
      have Sz := Lib.hid s2
      have s3 : wr.heap.size < (wr.alloc (.cells #[] 3)).heap.size := by omega
      clear s2 hx hown ow2 hb b0 b1 ec
      generalize wr.alloc (.cells #[] 3) = w4 at *
      obtain ⟨we, rfl⟩ : ∃ we : World, we = wr := ⟨_, rfl⟩
      go_loopg [7, 8] n (fun k s7 s8 wr => ∃ x : Nat, s8 = .int .i64 x ∧ x ≤ n ∧ k = n - x ∧ Below we.heap.size w4 wr ∧ wr.ownsRow we.heap.size 3 1 s7 x (intCells (rpartL wo es n x)))
      case atStart => exact ⟨0, rfl, Nat.zero_le _, rfl, Below.refl _ _, o0⟩
      case round =>
        obtain ⟨x, rfl, hx, hk, hb, hown⟩ := hrel
        have Hk := Lib.hid hk; clear hk
        have x3 := x2.below hb (by omega)
        have b0 := x3.cell 0
        have b1 := x3.cell 1
        simp only [List.getElem?_toArray, List.getElem?_cons_zero, List.getElem?_cons_succ] at b0 b1
        by_cases hxn : x < n
        · go_wp2_with fail
          refine (go_any n x _ _ cap cv es true (cntsWo wo es) wr we.heap.size (by have := hb.size; omega) ((hes.below (hb4.trans (hb.mono (by omega)))).more (by omega)) (cc.below hb) Hin.out (by omega) (by omega) hxn (by simp [cntsWo])).mono ?_
          rintro e w5 ⟨v5, rfl, hb5, hv5⟩
          obtain ⟨g5, cap5, rfl, hg5, hc5⟩ := own_bool hv5 (goAll_length _ _ _ _ _) (by omega)
          have hsz := hb.size
          have b0' := (hb5.cell (p := ⟨w.heap.size, 0, none⟩) (by simp; omega)).trans b0
          have b1' := (hb5.cell (p := ⟨w.heap.size, 1, none⟩) (by simp; omega)).trans b1
          have hb6 := hb.trans (hb5.mono (show we.heap.size ≤ wr.heap.size by omega))
          have hown6 := own_below hown hb5 (Nat.le_refl _)
          obtain ⟨bw, offw, rfl, hbw2, hcw⟩ := hwo.bools (by have := Hwl.out; omega)
          have d0 := ((hb4.trans (hb6.mono (by omega))).cell (p := ⟨bw, offw + x, none⟩) hbw2).trans (hcw x (by have := Hwl.out; omega))
          have hxn' : (x : Int) < n := by omega
          have hs6 := hb6.size
          have RP := Lib.hid (show rpart wo es n x = lst (goAll true (cntsWo wo es) es n x) (!wo.getD x false) n n from rfl)
          have RL := Lib.hid (rpartL_succ wo es n x)
          clear b0 b1 hb5 hb hown hv5 hcw cc x3
          generalize goAll true (cntsWo wo es) es n x = S at *
          generalize wo.getD x false = q at *
          go_wp2_with fail
          go_loopg [9, 11] n (fun k s9 s11 wr => ∃ r : Nat, s11 = .int .i64 ((r : Int) - 1) ∧ r ≤ n ∧ k = r ∧ wr = w5 ∧ s9 = .int .i64 (lst S (!q) n (n - r)))
          case atStart => exact ⟨n, rfl, Nat.le_refl _, rfl, rfl, by rw [Nat.sub_self]; rfl⟩
          case round =>
            obtain ⟨r, rfl, hr, hk2, rfl, rfl⟩ := hrel
            have Hk2 := Lib.hid hk2; clear hk2
            cases r with
            | zero =>
              rw [Nat.sub_zero]
              have RP' := Lib.hid (show rpartL wo es n (x + 1) = rpartL wo es n x ++ [lst S (!q) n n] by rw [RL.out, RP.out])
              clear RP RL
              generalize lst S (!q) n n = L at *
              go_wp2_with (at_builtin; refine wp_app elemInt rfl _ _ rfl we.heap.size u7 x _ rfl wr.heap.size [.int .i64 L] rfl rfl hown6 rfl rfl ?h2 ?h3 ?h4 ?_)
              case h2 => omega
              case h3 => omega
              case h4 => omega
              intro v' w' hown' hg' _
              have hb' : Below we.heap.size w4 w' := below_app hb6 hown6 hg' (by omega) (Nat.le_refl _)
              clear hown6 hg' hb6
              go_wp2_with fail
              go_roundg (n - (x + 1))
              case measure => rw [Hk.out]; omega
              case rel => exact ⟨x + 1, by go_num, by omega, rfl, hb', by
                rw [RP'.out]; simpa [intCells] using hown'⟩
            | succ y =>
              rw [show (((y + 1 : Nat) : Int) - 1) = y by omega]
              have cy := hc5 y (by omega)
              have hyn : (y : Int) < n := by omega
              have LS := Lib.hid (lst_step S (!q) n y (by omega))
              generalize S.getD y false = sy at *
              generalize lst S (!q) n (n - (y + 1)) = L at *
              cases sy <;> cases q <;> (go_wp2_with fail)
              all_goals
                go_roundg y
                case measure => rw [Hk2.out]; omega
                case rel => exact ⟨y, rfl, by omega, rfl, rfl, by rw [LS.out]; rfl⟩
        · have hxe : x = n := by omega
          subst hxe
          go_wp2_with fail
          go_ret
          refine ⟨_, rfl, hb4.trans (hb.mono (by omega)), ?_⟩
          have := own_mono hown (show w.heap.size ≤ we.heap.size by omega)
          simpa [intCells, rpartL_length] using this
end Go.Proofs.Ythdifhfmgmmljaa
