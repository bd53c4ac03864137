/-
  The references for orders: has, Order, Asked: what they compute. Written by an AI agent.
-/
import Derived.Test.YtnjikhhegebkiaaDoorAsk
import Derived.Test.YtnjikhhegebkiaaDoorLevLaw
import Derived.Test.YtnjikhhegebkiaaDoorRefs
namespace Go.Proofs.YtnjikhhegebkiaaDoor
open Go.RowKit

set_option maxRecDepth 20000 in
set_option maxHeartbeats 1000000 in
theorem has_ref (A : Option Addr) (c : Nat) (l : List Int) (v : Int) (w : World) (h : Cells w w.heap.size A (intCells l)) (hl : l.length ≤ 100000) :
    Calls Tryd.prog 39 #[.slice A l.length c, .int .i64 v] w (fun e w' => e = .returned (.int .i64 (idxF l v)) ∧ w = w') := by
  have H := Lib.hid h
  clear h
  go_enter Tryd.func39, Tryd.ntmps39
  go_wp2_with fail
  go_loopg [5] l.length (fun k s5 wr => ∃ i : Nat, s5 = .int .i64 i ∧ i ≤ l.length ∧ k = l.length - i ∧ w = wr ∧ ∀ j (hj : j < l.length), j < i → v ≠ l[j])
  case atStart => exact ⟨0, rfl, Nat.zero_le _, rfl, rfl, fun j _ hj => absurd hj (Nat.not_lt_zero j)⟩
  case round =>
    obtain ⟨i, rfl, hi, hk, rfl, hn⟩ := hrel
    have Hk := Lib.hid hk
    have Hn := Lib.hid hn
    clear hk hn
    by_cases hlt : i < l.length
    · have hlt' : (i : Int) < l.length := by omega
      obtain ⟨b, off, rfl, hb, hc⟩ := H.out.ints (by omega)
      have e0 := hc i hlt
      have HS := Lib.hid (fun (hv : v ≠ l[i]) (j : Nat) (hj : j < l.length) (hji : j < i + 1) => (by
        by_cases e : j = i
        · subst e; exact hv
        · exact Hn.out j hj (by omega) : v ≠ l[j]))
      have HF := Lib.hid (fun (hv : v = l[i]) => idx_at hlt hv fun j hj => Hn.out j (by omega) hj)
      clear hc
      generalize l[i] = u at *
      by_cases hv : v = u
      · have hv' : (u == v) = true := by rw [beq_iff_eq]; exact hv.symm
        have HR := Lib.hid (HF.out hv)
        clear hv
        go_wp2_with fail
        go_ret
        exact ⟨ret_int HR.out.symm, rfl⟩
      · have hv' : (u == v) = false := by rw [beq_eq_false_iff_ne]; exact fun e => hv e.symm
        have HR := Lib.hid (HS.out hv)
        clear hv
        go_wp2_with fail
        go_roundg (l.length - (i + 1))
        case measure => rw [Hk.out]; omega
        case rel => exact ⟨i + 1, by go_num, by omega, rfl, rfl, HR.out⟩
    · have hlt' : ¬ (i : Int) < l.length := by omega
      have HR := Lib.hid (idx_none (l := l) (v := v) fun j hj => Hn.out j hj (by omega))
      go_wp2_with fail
      go_ret
      exact ⟨ret_int HR.out.symm, rfl⟩
theorem idxF_mem {l : List Int} {v : Int} : (0 ≤ idxF l v ↔ v ∈ l) ∧ -1 ≤ idxF l v ∧ idxF l v ≤ l.length := by
  unfold idxF
  cases h : l.findIdx? (fun a => decide (v = a)) with
  | none =>
    rw [List.findIdx?_eq_none_iff] at h
    refine ⟨⟨fun h' => absurd h' (show ¬ (0 : Int) ≤ -1 by omega), fun hm => ?_⟩, Int.le_refl _, show (-1 : Int) ≤ _ by omega⟩
    have := h v hm
    simp at this
  | some i =>
    rw [List.findIdx?_eq_some_iff_getElem] at h
    obtain ⟨hi, h1, _⟩ := h
    have h1 : v = l[i] := by simpa using h1
    exact ⟨⟨fun _ => by rw [h1]; exact List.getElem_mem hi, fun _ => by show (0 : Int) ≤ (i : Int); omega⟩, by show (-1 : Int) ≤ (i : Int); omega, by show (i : Int) ≤ _; omega⟩
/-- do all of the first k edges let x be next? -/
def allK (es : List (Int × Int)) (out : List Int) (x : Int) (k : Nat) : Bool := (es.take k).all fun e => !decide (e.2 = x) || out.contains e.1
theorem allK_succ {es : List (Int × Int)} {out : List Int} {x : Int} {k : Nat} (h : k < es.length) : allK es out x (k + 1) = (allK es out x k && (!decide (es[k].2 = x) || out.contains es[k].1)) := by
  unfold allK
  rw [List.take_succ_eq_append_getElem h, List.all_append]
  simp
theorem nextOk_allK {es : List (Int × Int)} {out : List Int} {x : Nat} : nextOk es out x = (!out.contains (x : Int) && allK es out x es.length) := by
  unfold nextOk allK
  rw [List.take_length]
theorem next_found {es : List (Int × Int)} {n : Nat} {out : List Int} {x : Nat} (hx : x < n) (h : nextOk es out x = true) (hn : ∀ y, y < x → nextOk es out y = false) : nextF es n out = some x := by
  unfold nextF
  rw [List.find?_eq_some_iff_getElem]
  exact ⟨h, x, by simpa using hx, by simp, fun j hj => by simp [hn j hj]⟩
theorem next_none {es : List (Int × Int)} {n : Nat} {out : List Int} (hn : ∀ y, y < n → nextOk es out y = false) : nextF es n out = none := by
  unfold nextF
  rw [List.find?_eq_none]
  intro y hy
  rw [hn y (List.mem_range.1 hy)]
  simp
set_option maxRecDepth 20000 in
set_option maxHeartbeats 4000000 in
theorem order_ref (n : Nat) (A : Option Addr) (cap : Nat) (es : List (Int × Int)) (w : World) (hes : Cells w w.heap.size A (edgeCells es)) (hE : EdgesIn n es) (hn : n ≤ 64) (hl : es.length ≤ 1000) :
    Calls Tryd.prog 24 #[.agg #[.int .i64 n, .slice A es.length cap]] w (fun e w' => ∃ v, e = .returned (.tuple #[v, .bool (ordB n es)]) ∧ Below w.heap.size w w') := by
  have b0 := Blk.new w 24 #[.int .i64 n, .slice A es.length cap]
  have hbw := (Below.refl w.heap.size w).alloc (Nat.le_refl _) (.cells #[.int .i64 n, .slice A es.length cap] 24)
  have s1 := World.size_alloc w (.cells #[.int .i64 n, .slice A es.length cap] 24)
  have hesa := (hes.below hbw).more hbw.size
  have HE := Lib.hid hE
  clear hE
  go_enter Tryd.func24, Tryd.ntmps24
  go_upto_region 1 with fail
  generalize w.alloc (.cells #[.int .i64 n, .slice A es.length cap] 24) = w1 at *
  have HES := Lib.hid hesa
  have HB0 := Lib.hid b0
  have HW1 := Lib.hid hbw
  have l1 : w.heap.size < w1.heap.size := by omega
  clear s1
  have HW2 := Lib.hid (hbw.trans ((Below.refl w.heap.size w1).alloc (by omega) (.cells #[] 3)))
  have HB2 := Lib.hid ((Below.refl w1.heap.size w1).alloc (Nat.le_refl _) (.cells #[] 3))
  have HO2 := Lib.hid (own_of_blk (xs := intCells []) (Blk.new w1 3 #[]) (Nat.le_refl _) (show _ = 0 from rfl) (by omega))
  clear hbw b0 hesa hes
  go_wp2_with fail
  generalize w1.alloc (.cells #[] 3) = w2 at *
  go_loopg [4] n (fun k s4 wr => ∃ out : List Int, Ord es n out ∧ orderF es n = runF es n (n - out.length) out ∧ k = n - out.length ∧ Below w1.heap.size w1 wr ∧ wr.ownsRow w1.heap.size 3 1 s4 out.length (intCells out))
  case atStart => exact ⟨[], Ord.nil es n, rfl, rfl, HB2.out, HO2.out⟩
  case round =>
    obtain ⟨out, hord, hrun, hk, hb, hown⟩ := hrel
    have Hk := Lib.hid hk
    have HRun := Lib.hid hrun
    have HOrd := Lib.hid hord
    have HB := Lib.hid hb
    have HO := Lib.hid hown
    have hle := hord.le
    have g0 := (hb.cell (p := ⟨w.heap.size, 0, none⟩) l1).trans (HB0.out.cell 0)
    simp only [List.getElem?_toArray, List.getElem?_cons_zero] at g0
    obtain ⟨A4, c4, hs4⟩ := own_slice hown
    clear hk hrun hord hb hown
    by_cases hlt : out.length < n
    · have hlt' : (out.length : Int) < n := by omega
      have HOA := Lib.hid (Cells.of_own (show wr.ownsRow w1.heap.size 3 1 (.slice A4 out.length c4) out.length (intCells out) by rw [← hs4]; exact HO.out))
      subst hs4
      obtain ⟨w3, rfl⟩ : ∃ y, y = wr := ⟨_, rfl⟩
      have HB03 := Lib.hid (HB0.out.below HB.out l1)
      have HES3 := Lib.hid ((HES.out.below HB.out).more HB.out.size)
      have hz3 := HB.out.size
      go_wp2_with fail
      go_loopg [4, 5, 6] n (fun k s4 s5 s6 wr => ∃ (x : Nat) (fd : Bool), s6 = .int .i64 x ∧ s5 = .bool fd ∧ x ≤ n ∧ k = n - x ∧ (fd = false → w3 = wr ∧ s4 = .slice A4 out.length c4 ∧ ∀ y, y < x → nextOk es out y = false) ∧ (fd = true → ∃ x0 : Nat, nextF es n out = some x0 ∧ Below w1.heap.size w1 wr ∧ wr.ownsRow w1.heap.size 3 1 s4 (out.length + 1) (intCells (out ++ [(x0 : Int)]))))
      case atStart => exact ⟨0, false, rfl, rfl, Nat.zero_le _, rfl, fun _ => ⟨rfl, rfl, fun y h => absurd h (Nat.not_lt_zero _)⟩, fun h => by cases h⟩
      case round =>
        obtain ⟨x, fd, rfl, rfl, hx, hk2, hf, ht⟩ := hrel
        have Hk2 := Lib.hid hk2
        clear hk2
        cases fd with
        | true =>
          obtain ⟨x0, hn0, hb0, ho0⟩ := ht rfl
          have HN0 := Lib.hid hn0
          have HBF := Lib.hid hb0
          have HOF := Lib.hid ho0
          have HRF := Lib.hid (show orderF es n = runF es n (n - (out ++ [(x0 : Int)]).length) (out ++ [(x0 : Int)]) by
            rw [HRun.out, List.length_append, List.length_singleton, ← runF_more hn0]; congr 1; omega)
          have g0r := (hb0.cell (p := ⟨w.heap.size, 0, none⟩) l1).trans (HB0.out.cell 0)
          simp only [List.getElem?_toArray, List.getElem?_cons_zero] at g0r
          clear hf ht hn0 hb0 ho0
          by_cases hxn : x < n
          · have hxn' : (x : Int) < n := by omega
            go_wp2_with fail
            go_roundg (n - (out.length + 1))
            case measure => rw [Hk.out]; omega
            case rel => exact ⟨out ++ [(x0 : Int)], HOrd.out.push HN0.out, HRF.out, by simp, HBF.out, by simpa using HOF.out⟩
          · have hxn' : ¬ (x : Int) < n := by omega
            go_wp2_with fail
            go_roundg (n - (out.length + 1))
            case measure => rw [Hk.out]; omega
            case rel => exact ⟨out ++ [(x0 : Int)], HOrd.out.push HN0.out, HRF.out, by simp, HBF.out, by simpa using HOF.out⟩
        | false =>
          obtain ⟨rfl, rfl, hno⟩ := hf rfl
          have HNo := Lib.hid hno
          clear hf ht hno
          by_cases hxn : x < n
          · have hxn' : (x : Int) < n := by omega
            have hh := has_ref A4 c4 out x w3 HOA.out (by omega)
            obtain ⟨hi1, hi2, hi3⟩ := @idxF_mem out x
            have HI1 := Lib.hid hi1
            clear hi1
            go_wp2_with fail
            refine hh.mono ?_
            rintro e w4 ⟨rfl, rfl⟩
            clear hh
            by_cases hge : 0 ≤ idxF out x
            · have HR := Lib.hid (show nextOk es out x = false by rw [nextOk_allK]; simp [HI1.out.1 hge])
              generalize idxF out x = ix at *
              go_wp2_with fail
              go_roundg (n - (x + 1))
              case measure => rw [Hk2.out]; omega
              case rel => exact ⟨x + 1, false, by go_num, rfl, by omega, rfl, fun _ => ⟨rfl, rfl, fun y hy => by
                by_cases e : y = x
                · subst e; exact HR.out
                · exact HNo.out y (by omega)⟩, fun h => by cases h⟩
            · have HNM := Lib.hid (show (x : Int) ∉ out from fun hm => hge (HI1.out.2 hm))
              generalize idxF out x = ix at *
              go_wp2_with fail
              go_loopg [7, 8] es.length (fun k s7 s8 wq => ∃ i : Nat, s8 = .int .i64 i ∧ s7 = .bool (allK es out x i) ∧ i ≤ es.length ∧ k = es.length - i ∧ w3 = wq)
              case atStart => exact ⟨0, rfl, rfl, Nat.zero_le _, rfl, rfl⟩
              case round =>
                obtain ⟨i, rfl, rfl, hi, hk3, rfl⟩ := hrel
                have Hk3 := Lib.hid hk3
                clear hk3
                have g1 : w3.cell? ⟨w.heap.size, 1, none⟩ = some (.slice A es.length cap) := HB03.out.cell 1
                by_cases hil : i < es.length
                · have hil' : (i : Int) < es.length := by omega
                  obtain ⟨b, off, rfl, hbb, hcc⟩ := HES3.out.edges (by omega)
                  obtain ⟨c0, c1⟩ := hcc i hil
                  have HK := Lib.hid (allK_succ (es := es) (out := out) (x := (x : Int)) hil)
                  have hh := fun v => has_ref A4 c4 out v w3 HOA.out (by omega)
                  clear hcc
                  obtain ⟨hd, hhd⟩ : ∃ v, v = es[i].2 := ⟨_, rfl⟩
                  obtain ⟨tl, htl⟩ : ∃ v, v = es[i].1 := ⟨_, rfl⟩
                  rw [← hhd] at c1
                  rw [← htl] at c0
                  have HK2 := Lib.hid (show allK es out x (i + 1) = (allK es out x i && (!decide (hd = (x : Int)) || out.contains tl)) by rw [hhd, htl]; exact HK.out)
                  obtain ⟨hj1, hj2, hj3⟩ := @idxF_mem out tl
                  clear hhd htl HK
                  cases hal : allK es out x i with
                  | false =>
                    rw [hal] at HK2
                    clear hh hal
                    go_wp2_with fail
                    go_roundg (es.length - (i + 1))
                    case measure => rw [Hk3.out]; omega
                    case rel => exact ⟨i + 1, by go_num, by rw [HK2.out]; rfl, by omega, rfl, rfl⟩
                  | true =>
                    rw [hal] at HK2
                    clear hal
                    by_cases hxe : hd = (x : Int)
                    · have hne : (hd != (x : Int)) = false := by simp [hxe]
                      have HK3 := Lib.hid (show allK es out x (i + 1) = decide (0 ≤ idxF out tl) by
                        rw [HK2.out]
                        simp only [hxe, decide_true, Bool.not_true, Bool.false_or, Bool.true_and]
                        by_cases hm : tl ∈ out
                        · rw [decide_eq_true (hj1.2 hm)]; simpa using hm
                        · rw [decide_eq_false (fun h => hm (hj1.1 h))]; simpa using hm)
                      clear hj1
                      go_wp2_with fail
                      refine (hh tl).mono ?_
                      rintro e w4 ⟨rfl, rfl⟩
                      clear hh
                      generalize idxF out tl = ix at *
                      by_cases hge2 : 0 ≤ ix
                      · go_wp2_with fail
                        go_roundg (es.length - (i + 1))
                        case measure => rw [Hk3.out]; omega
                        case rel => exact ⟨i + 1, by go_num, by rw [HK3.out, decide_eq_true hge2], by omega, rfl, rfl⟩
                      · go_wp2_with fail
                        go_roundg (es.length - (i + 1))
                        case measure => rw [Hk3.out]; omega
                        case rel => exact ⟨i + 1, by go_num, by rw [HK3.out], by omega, rfl, rfl⟩
                    · have hne : (hd != (x : Int)) = true := by simp [hxe]
                      have HK3 := Lib.hid (show allK es out x (i + 1) = true by
                        rw [HK2.out]
                        simp [hxe])
                      clear hh
                      go_wp2_with fail
                      go_roundg (es.length - (i + 1))
                      case measure => rw [Hk3.out]; omega
                      case rel => exact ⟨i + 1, by go_num, by rw [HK3.out], by omega, rfl, rfl⟩
                · have hie : i = es.length := by omega
                  have hil' : ¬ (i : Int) < es.length := by omega
                  have HOk := Lib.hid (show nextOk es out x = allK es out x i by rw [nextOk_allK, hie]; simp [HNM.out])
                  clear hie
                  cases hal : allK es out x i with
                  | false =>
                    have HR := Lib.hid (HOk.out.trans hal)
                    clear hal
                    go_wp2_with fail
                    go_roundg (n - (x + 1))
                    case measure => rw [Hk2.out]; omega
                    case rel => exact ⟨x + 1, false, by go_num, rfl, by omega, rfl, fun _ => ⟨rfl, rfl, fun y hy => by
                      by_cases e : y = x
                      · subst e; exact HR.out
                      · exact HNo.out y (by omega)⟩, fun h => by cases h⟩
                  | true =>
                    have HN := Lib.hid (next_found hxn (HOk.out.trans hal) HNo.out)
                    clear hal
                    go_wp2_with (at_builtin; refine wp_app elemInt rfl _ _ rfl w1.heap.size (.slice A4 out.length c4) _ _ rfl w3.heap.size [.int .i64 (x : Int)] rfl rfl HO.out rfl rfl ?h2 ?h3 ?h4 ?_)
                    case h2 => omega
                    case h3 => omega
                    try (case h4 => omega)
                    intro v10 w10 ho10 hg10 _
                    have HB10 := Lib.hid (below_app HB.out HO.out hg10 hz3 (Nat.le_refl _))
                    have HO10 := Lib.hid (show w10.ownsRow w1.heap.size 3 1 v10 (out.length + 1) (intCells (out ++ [(x : Int)])) by simpa [intCells] using ho10)
                    clear ho10 hg10
                    go_wp2_with fail
                    go_roundg (n - (x + 1))
                    case measure => rw [Hk2.out]; omega
                    case rel => exact ⟨x + 1, true, by go_num, rfl, by omega, rfl, fun h => (by cases h), fun _ => ⟨x, HN.out, HB10.out, HO10.out⟩⟩
          · have hxe : x = n := by omega
            have hxn' : ¬ (x : Int) < n := by omega
            have HF := Lib.hid (show ordB n es = false by
              have h1 := next_none (es := es) (n := n) (out := out) (fun y hy => HNo.out y (by omega))
              unfold ordB
              rw [HRun.out, runF_stop h1]
              simp
              omega)
            have HBF := Lib.hid (HW1.out.trans (HB.out.mono (Nat.le_of_lt l1)))
            clear hxe
            go_wp2_with fail
            go_ret2
            rw [HF.out]
            exact ⟨⟨_, rfl⟩, HBF.out⟩
    · have hlt' : ¬ (out.length : Int) < n := by omega
      have HF := Lib.hid (show ordB n es = true by
        have h1 := nextF_full HOrd.out (by omega)
        unfold ordB
        rw [HRun.out, runF_stop h1]
        simp
        omega)
      have HBF := Lib.hid (HW1.out.trans (HB.out.mono (Nat.le_of_lt l1)))
      subst hs4
      go_wp2_with fail
      go_ret2
      rw [HF.out]
      exact ⟨⟨_, rfl⟩, HBF.out⟩
/-- ref.Asked -/
theorem asked_ref (n : Int) (A : Option Addr) (cap : Nat) (es : List (Int × Int)) (w : World) (hes : Cells w w.heap.size A (edgeCells es)) (hl : es.length ≤ 1000) :
    Calls Tryd.prog 9 #[.agg #[.int .i64 n, .slice A es.length cap]] w (fun e w' => e = .returned (.bool (askB n es)) ∧ Below w.heap.size w w') := by
  have b0 := Blk.new w 24 #[.int .i64 n, .slice A es.length cap]
  have hbw := (Below.refl w.heap.size w).alloc (Nat.le_refl _) (.cells #[.int .i64 n, .slice A es.length cap] 24)
  have s1 := World.size_alloc w (.cells #[.int .i64 n, .slice A es.length cap] 24)
  have hesa := (hes.below hbw).more hbw.size
  go_enter Tryd.func9, Tryd.ntmps9
  go_upto_region 1 with fail
  generalize w.alloc (.cells #[.int .i64 n, .slice A es.length cap] 24) = w1 at *
  have HES := Lib.hid hesa
  have HB0 := Lib.hid b0
  have HW1 := Lib.hid hbw
  have g0 : w1.cell? ⟨w.heap.size, 0, none⟩ = some (.int .i64 n) := b0.cell 0
  have g1 : w1.cell? ⟨w.heap.size, 1, none⟩ = some (.slice A es.length cap) := b0.cell 1
  have l1 : w.heap.size < w1.heap.size := by omega
  clear hbw b0 hesa hes s1
  go_wp2_with fail
  refine (refmay_any n A cap es w1 HES.out).mono ?_
  rintro e w2 ⟨rfl, hb2⟩
  have hz2 := hb2.size
  have HW2 := Lib.hid (HW1.out.trans (hb2.mono (Nat.le_of_lt l1)))
  have g0 : w2.cell? ⟨w.heap.size, 0, none⟩ = some (.int .i64 n) := (HB0.out.below hb2 l1).cell 0
  have g1 : w2.cell? ⟨w.heap.size, 1, none⟩ = some (.slice A es.length cap) := (HB0.out.below hb2 l1).cell 1
  have HES2 := Lib.hid ((HES.out.below hb2).more hz2)
  clear hb2
  cases hm : mayB n es with
  | false =>
    have HF := Lib.hid (show askB n es = false by unfold askB; rw [hm]; rfl)
    clear hm
    go_wp2_with fail
    go_ret
    exact ⟨by rw [HF.out]; rfl, HW2.out⟩
  | true =>
    obtain ⟨hm1, hm2, hm3⟩ := may_parts hm
    have hin := badE_in hm
    obtain ⟨n, rfl⟩ : ∃ k : Nat, n = k := ⟨n.toNat, by omega⟩
    have HE := Lib.hid (show EdgesIn n es from hin)
    have HF := Lib.hid (show ordB n es = askB n es by unfold askB; rw [hm]; rfl)
    clear hm hin
    go_wp2_with fail
    refine (order_ref n A cap es w2 HES2.out HE.out (by omega) hl).mono ?_
    rintro e w3 ⟨v, rfl, hb3⟩
    have HW3 := Lib.hid (HW2.out.trans (hb3.mono (by omega)))
    clear hb3
    go_wp2_with fail
    go_ret
    exact ⟨by rw [← HF.out]; rfl, HW3.out⟩
end Go.Proofs.YtnjikhhegebkiaaDoor
