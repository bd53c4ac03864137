import Derived.Test.YtelcofkjpkdjiaaGreatZAsg
import Derived.Test.YtelcofkjpkdjiaaGreatZAng1
/-
  The reference's Rooms and Try: what they compute. Written by an AI agent.
-/
namespace Go.Proofs.YtelcofkjpkdjiaaGreat
open Go.RowKit

def RoomPost (l : List Int) (w : World) (e : Ending) (w' : World) : Prop := ∃ g, e = .returned (.slice (some ⟨g, 0, none⟩) l.length l.length) ∧ Below w.heap.size w w' ∧ Blk w' g 3 (intCells l).toArray ∧ w.heap.size ≤ g
noncomputable def roomE (n : Int) (es : List (Int × Int)) (rs : List (List Int)) (f0 : Nat) : List Int := roomT (angF n es rs) (angK es rs) (facesOf n es rs).length f0 (2 * es.length)
end Go.Proofs.YtelcofkjpkdjiaaGreat
/-
  The reference's Ends and Bare of a graph. Written by an AI agent.
-/
namespace Go.Proofs.YtelcofkjpkdjiaaGreat
open Go.RowKit

theorem endsF_succ (es : List (Int × Int)) (f : Int × Int → Int) (x : Int) (k : Nat) : endsF es f x (k + 1) = endsF es f x k ++ if f (es.getD k (0, 0)) = x then [(k : Int)] else [] := rfl
set_option maxRecDepth 20000 in
set_option maxHeartbeats 4000000 in
theorem refEnds_any (n : Int) (A : Option Addr) (cap : Nat) (es : List (Int × Int)) (x : Nat) (from_ : Bool) (w : World) (hes : Cells w w.heap.size A (edgeCells es)) (hl : es.length ≤ 1000) :
    Calls Tryz.prog 55 #[.agg #[.int .i64 n, .slice A es.length cap], .int .i64 x, .bool from_] w (ListPost (endsF es (if from_ = true then Prod.fst else Prod.snd) x es.length) w) := by
  have S1 := Lib.hid (SG.start n cap hes (rs := []) (C := none) (fun h => absurd h (by simp)))
  clear hes
  generalize hF : (if from_ = true then Prod.fst else Prod.snd : Int × Int → Int) = F at *
  have HF := Lib.hid hF
  clear hF
  go_enter Tryz.func55, Tryz.ntmps55
  go_upto_region 1 with fail
  generalize w.alloc (.cells #[.int .i64 n, .slice A es.length cap] 24) = w1 at *
  have HO2 := Lib.hid (show (w1.alloc (.cells #[] 3)).ownsRow w1.heap.size 3 1 (.slice (some ⟨w1.heap.size, 0, none⟩) 0 0) 0 (intCells []) from own_of_blk (xs := []) (Blk.new w1 3 #[]) (Nat.le_refl _) rfl (Nat.zero_le _))
  have hb2 := (Below.refl w1.heap.size w1).alloc (Nat.le_refl _) (.cells #[] 3)
  have hz2 := World.size_alloc w1 (.cells #[] 3)
  have HB12 := Lib.hid hb2
  clear hb2
  go_upto_region 2 with fail
  obtain ⟨gL, hgL⟩ : ∃ gL, gL = w1.heap.size := ⟨_, rfl⟩
  rw [← hgL] at HO2 HB12 hz2
  rw [← hgL]
  generalize w1.alloc (.cells #[] 3) = w2 at *
  have HG1 := Lib.hid hgL
  have hwg : w.heap.size ≤ gL := by have := S1.out.lt; omega
  clear hgL
  go_wp2_with fail
  go_loopg [7, 8] es.length (fun k s7 s8 wr => ∃ i : Nat, s8 = .int .i64 i ∧ i ≤ es.length ∧ k = es.length - i ∧ Below gL w1 wr ∧ gL ≤ wr.heap.size ∧ wr.ownsRow gL 3 1 s7 (endsF es F x i).length (intCells (endsF es F x i)))
  case atStart => exact ⟨0, rfl, Nat.zero_le _, rfl, HB12.out, by omega, HO2.out⟩
  case round =>
    obtain ⟨i, rfl, hi, hk, hb, hgw, hown⟩ := hrel
    have Hk := Lib.hid hk
    have HB := Lib.hid hb
    have HOW := Lib.hid hown
    obtain ⟨A7, c7, rfl⟩ := own_slice hown
    have S4 := Lib.hid (S1.out.next (w' := wr) (by rw [← HG1.out]; exact hb))
    have g0 := S4.out.g0
    have g1 := S4.out.g1
    clear hk hb hown
    by_cases hil : i < es.length
    · have hil' : (i : Int) < es.length := by omega
      obtain ⟨b, off, rfl, hbb, hcc⟩ := S4.out.es.edges (by omega)
      obtain ⟨c0, c1⟩ := hcc i hil
      have HS := Lib.hid (show endsF es F x (i + 1) = endsF es F x i ++ if F es[i] = (x : Int) then [(i : Int)] else [] by
        rw [endsF_succ, List.getD_eq_getElem?_getD, List.getElem?_eq_getElem hil]; rfl)
      have HF1 := Lib.hid (show from_ = true → F es[i] = es[i].1 from fun h => by rw [← HF.out, if_pos h])
      have HF2 := Lib.hid (show from_ = false → F es[i] = es[i].2 from fun h => by rw [← HF.out, if_neg (by rw [h]; simp)])
      obtain ⟨p, hp⟩ : ∃ p, p = es[i].1 := ⟨_, rfl⟩
      obtain ⟨q, hq⟩ : ∃ q, q = es[i].2 := ⟨_, rfl⟩
      rw [← hp] at c0 HF1
      rw [← hq] at c1 HF2
      obtain ⟨v, hv⟩ : ∃ v, v = F es[i] := ⟨_, rfl⟩
      rw [← hv] at HS HF1 HF2
      clear hcc hp hq hv
      cases from_ with
      | true =>
        have hvp := HF1.out rfl
        subst hvp
        by_cases hx : v = (x : Int)
        · have hxe : (v == (x : Int)) = true := by rw [hx]; simp
          have HS2 := Lib.hid (show endsF es F x (i + 1) = endsF es F x i ++ [(i : Int)] by rw [HS.out, if_pos hx])
          clear hx
          have hzw := HB.out.size
          have hle := endsF_length es F x i
          go_wp2_with (at_builtin; refine wp_app elemInt rfl _ _ rfl gL (.slice A7 (endsF es F x i).length c7) _ _ rfl wr.heap.size [.int .i64 (i : Int)] rfl rfl HOW.out rfl rfl ?x2 ?x3 ?x4 ?_)
          case x2 => omega
          case x3 => omega
          try (case x4 => omega)
          intro v10 w10 ho10 hg10 hb10
          have HBX := Lib.hid (below_app HB.out HOW.out hg10 (by omega) (Nat.le_refl _))
          have HOX := Lib.hid (show w10.ownsRow gL 3 1 v10 (endsF es F x (i + 1)).length (intCells (endsF es F x (i + 1))) by
            rw [HS2.out]
            simpa [intCells] using ho10)
          have hz10 : gL ≤ w10.heap.size := by have := hg10.size; omega
          clear ho10 hg10 hb10
          go_wp2_with fail
          go_roundg (es.length - (i + 1))
          case measure => rw [Hk.out]; omega
          case rel => exact ⟨i + 1, by go_num, by omega, rfl, HBX.out, hz10, HOX.out⟩
        · have hxe : (v == (x : Int)) = false := by rw [beq_eq_false_iff_ne]; exact hx
          have HS2 := Lib.hid (show endsF es F x (i + 1) = endsF es F x i by rw [HS.out, if_neg hx, List.append_nil])
          clear hx
          have HOX := Lib.hid (show wr.ownsRow gL 3 1 (.slice A7 (endsF es F x i).length c7) (endsF es F x (i + 1)).length (intCells (endsF es F x (i + 1))) by rw [HS2.out]; exact HOW.out)
          go_wp2_with fail
          go_roundg (es.length - (i + 1))
          case measure => rw [Hk.out]; omega
          case rel => exact ⟨i + 1, by go_num, by omega, rfl, HB.out, hgw, HOX.out⟩
      | false =>
        have hvp := HF2.out rfl
        subst hvp
        by_cases hx : v = (x : Int)
        · have hxe : (v == (x : Int)) = true := by rw [hx]; simp
          have HS2 := Lib.hid (show endsF es F x (i + 1) = endsF es F x i ++ [(i : Int)] by rw [HS.out, if_pos hx])
          clear hx
          have hzw := HB.out.size
          have hle := endsF_length es F x i
          go_wp2_with (at_builtin; refine wp_app elemInt rfl _ _ rfl gL (.slice A7 (endsF es F x i).length c7) _ _ rfl wr.heap.size [.int .i64 (i : Int)] rfl rfl HOW.out rfl rfl ?x2 ?x3 ?x4 ?_)
          case x2 => omega
          case x3 => omega
          try (case x4 => omega)
          intro v10 w10 ho10 hg10 hb10
          have HBX := Lib.hid (below_app HB.out HOW.out hg10 (by omega) (Nat.le_refl _))
          have HOX := Lib.hid (show w10.ownsRow gL 3 1 v10 (endsF es F x (i + 1)).length (intCells (endsF es F x (i + 1))) by
            rw [HS2.out]
            simpa [intCells] using ho10)
          have hz10 : gL ≤ w10.heap.size := by have := hg10.size; omega
          clear ho10 hg10 hb10
          go_wp2_with fail
          go_roundg (es.length - (i + 1))
          case measure => rw [Hk.out]; omega
          case rel => exact ⟨i + 1, by go_num, by omega, rfl, HBX.out, hz10, HOX.out⟩
        · have hxe : (v == (x : Int)) = false := by rw [beq_eq_false_iff_ne]; exact hx
          have HS2 := Lib.hid (show endsF es F x (i + 1) = endsF es F x i by rw [HS.out, if_neg hx, List.append_nil])
          clear hx
          have HOX := Lib.hid (show wr.ownsRow gL 3 1 (.slice A7 (endsF es F x i).length c7) (endsF es F x (i + 1)).length (intCells (endsF es F x (i + 1))) by rw [HS2.out]; exact HOW.out)
          go_wp2_with fail
          go_roundg (es.length - (i + 1))
          case measure => rw [Hk.out]; omega
          case rel => exact ⟨i + 1, by go_num, by omega, rfl, HB.out, hgw, HOX.out⟩
    · have hie : i = es.length := by omega
      have hil' : ¬ (i : Int) < es.length := by omega
      have HOX := Lib.hid (show wr.ownsRow w.heap.size 3 1 (.slice A7 (endsF es F x i).length c7) (endsF es F x es.length).length (intCells (endsF es F x es.length)) by rw [← hie]; exact own_mono HOW.out hwg)
      clear hie
      go_wp2_with fail
      go_ret
      exact ⟨_, rfl, S4.out.below, HOX.out⟩
end Go.Proofs.YtelcofkjpkdjiaaGreat
/-
  The reference's Try: what it computes. Written by an AI agent.
-/
namespace Go.Proofs.YtelcofkjpkdjiaaGreat
open Go.RowKit

theorem set_set (l : List Int) (i : Nat) (a b : Int) : (l.set i a).set i b = l.set i b := by simp
def Small (rm : List Int) : Prop := ∀ x ∈ rm, -10000 ≤ x ∧ x ≤ 10000
theorem Small.at_ {rm : List Int} (h : Small rm) {f : Nat} (hf : f < rm.length) : -10000 ≤ rm.getD f 0 ∧ rm.getD f 0 ≤ 10000 := by
  rw [List.getD_eq_getElem?_getD, List.getElem?_eq_getElem hf]
  exact h _ (List.getElem_mem hf)
end Go.Proofs.YtelcofkjpkdjiaaGreat
/-
  The reference's Bare, Ends and Outer. Written by an AI agent.
-/
namespace Go.Proofs.YtelcofkjpkdjiaaGreat
open Go.RowKit

theorem rowsF_at {n : Nat} {es : List (Int × Int)} {f : Int × Int → Int} {x : Nat} (h : x < n) : (rowsF n es f).getD x [] = endsF es f x es.length := by
  unfold rowsF
  rw [List.getD_eq_getElem?_getD, List.getElem?_map, List.getElem?_range h]
  rfl
set_option maxRecDepth 20000 in
set_option maxHeartbeats 4000000 in
theorem refBare_any (n : Nat) (A : Option Addr) (cap : Nat) (es : List (Int × Int)) (to_ : Bool) (w : World) (hes : Cells w w.heap.size A (edgeCells es)) (hl : es.length ≤ 1000) (hn : n ≤ 1000) :
    Calls Tryz.prog 79 #[.agg #[.int .i64 n, .slice A es.length cap], .bool to_] w (ListPost (bareVI n es (if to_ = true then Prod.snd else Prod.fst)) w) := by
  have S1 := Lib.hid (SG.start n cap hes (rs := []) (C := none) (fun h => absurd h (by simp)))
  clear hes
  generalize hF : (if to_ = true then Prod.snd else Prod.fst : Int × Int → Int) = F at *
  have HF := Lib.hid (show (if (!to_) = true then Prod.fst else Prod.snd : Int × Int → Int) = F by rw [← hF]; cases to_ <;> rfl)
  clear hF
  go_enter Tryz.func79, Tryz.ntmps79
  go_upto_region 1 with fail
  generalize w.alloc (.cells #[.int .i64 n, .slice A es.length cap] 24) = w1 at *
  have HO2 := Lib.hid (show (w1.alloc (.cells #[] 3)).ownsRow w1.heap.size 3 1 (.slice (some ⟨w1.heap.size, 0, none⟩) 0 0) 0 (intCells []) from own_of_blk (xs := []) (Blk.new w1 3 #[]) (Nat.le_refl _) rfl (Nat.zero_le _))
  have hb2 := (Below.refl w1.heap.size w1).alloc (Nat.le_refl _) (.cells #[] 3)
  have hz2 := World.size_alloc w1 (.cells #[] 3)
  have HB12 := Lib.hid hb2
  clear hb2
  go_upto_region 2 with fail
  obtain ⟨gL, hgL⟩ : ∃ gL, gL = w1.heap.size := ⟨_, rfl⟩
  rw [← hgL] at HO2 HB12 hz2
  rw [← hgL]
  generalize w1.alloc (.cells #[] 3) = w2 at *
  have HG1 := Lib.hid hgL
  have hwg : w.heap.size ≤ gL := by have := S1.out.lt; omega
  clear hgL
  go_wp2_with fail
  go_loopg [5, 6] n (fun k s5 s6 wr => ∃ i : Nat, s6 = .int .i64 i ∧ i ≤ n ∧ k = n - i ∧ Below gL w1 wr ∧ gL ≤ wr.heap.size ∧ wr.ownsRow gL 3 1 s5 (bareI (rowsF n es F) i).length (intCells (bareI (rowsF n es F) i)))
  case atStart => exact ⟨0, rfl, Nat.zero_le _, rfl, HB12.out, by omega, HO2.out⟩
  case round =>
    obtain ⟨i, rfl, hi, hk, hb, hgw, hown⟩ := hrel
    have Hk := Lib.hid hk
    have HB := Lib.hid hb
    have HOW := Lib.hid hown
    obtain ⟨A5, c5, rfl⟩ := own_slice hown
    have S4 := Lib.hid (S1.out.next (w' := wr) (by rw [← HG1.out]; exact hb))
    have g0 := S4.out.g0
    have g1 := S4.out.g1
    clear hk hb hown
    by_cases hil : i < n
    · have hil' : (i : Int) < n := by omega
      have HS := Lib.hid (show bareI (rowsF n es F) (i + 1) = bareI (rowsF n es F) i ++ if (endsF es F i es.length).length = 0 then [(i : Int)] else [] by
        rw [bareI_succ, rowsF_at hil])
      have hen := refEnds_any n A cap es i (!to_) wr S4.out.es hl
      rw [HF.out] at hen
      have hle := bareI_le (rowsF n es F) i
      have hel := endsF_length es F i es.length
      go_wp2_with fail
      refine hen.mono ?_
      rintro e w5 ⟨v5, rfl, hb5, ho5⟩
      obtain ⟨A8, c8, rfl⟩ := own_slice ho5
      have HB5 := Lib.hid (HB.out.trans (hb5.mono hgw))
      have HO5 := Lib.hid (own_below HOW.out hb5 (Nat.le_refl _))
      have hz5 : gL ≤ w5.heap.size := Nat.le_trans hgw hb5.size
      obtain ⟨L, hL⟩ : ∃ L, L = (endsF es F i es.length).length := ⟨_, rfl⟩
      rw [← hL] at HS hel
      rw [← hL]
      have S5 := Lib.hid (S4.out.next hb5)
      have g0' := S5.out.g0
      have g1' := S5.out.g1
      clear hen ho5 hb5 hL g0 g1
      by_cases hx : L = 0
      · have hxe : ((L : Int) == 0) = true := by rw [hx]; rfl
        have HS2 := Lib.hid (show bareI (rowsF n es F) (i + 1) = bareI (rowsF n es F) i ++ [(i : Int)] by rw [HS.out, if_pos hx])
        clear hx
        have hzw := HB5.out.size
        go_wp2_with (at_builtin; refine wp_app elemInt rfl _ _ rfl gL (.slice A5 (bareI (rowsF n es F) i).length c5) _ _ rfl w5.heap.size [.int .i64 (i : Int)] rfl rfl HO5.out rfl rfl ?x2 ?x3 ?x4 ?_)
        case x2 => omega
        case x3 => omega
        try (case x4 => omega)
        intro v10 w10 ho10 hg10 hb10
        have HBX := Lib.hid (below_app HB5.out HO5.out hg10 (by omega) (Nat.le_refl _))
        have HOX := Lib.hid (show w10.ownsRow gL 3 1 v10 (bareI (rowsF n es F) (i + 1)).length (intCells (bareI (rowsF n es F) (i + 1))) by
          rw [HS2.out]
          simpa [intCells] using ho10)
        have hz10 : gL ≤ w10.heap.size := by have := hg10.size; omega
        clear ho10 hg10 hb10
        go_wp2_with fail
        go_roundg (n - (i + 1))
        case measure => rw [Hk.out]; omega
        case rel => exact ⟨i + 1, by go_num, by omega, rfl, HBX.out, hz10, HOX.out⟩
      · have hxe : ((L : Int) == 0) = false := by rw [beq_eq_false_iff_ne]; omega
        have HS2 := Lib.hid (show bareI (rowsF n es F) (i + 1) = bareI (rowsF n es F) i by rw [HS.out, if_neg hx, List.append_nil])
        clear hx
        have HOX := Lib.hid (show w5.ownsRow gL 3 1 (.slice A5 (bareI (rowsF n es F) i).length c5) (bareI (rowsF n es F) (i + 1)).length (intCells (bareI (rowsF n es F) (i + 1))) by rw [HS2.out]; exact HO5.out)
        go_wp2_with fail
        go_roundg (n - (i + 1))
        case measure => rw [Hk.out]; omega
        case rel => exact ⟨i + 1, by go_num, by omega, rfl, HB5.out, hz5, HOX.out⟩
    · have hie : i = n := by omega
      have hil' : ¬ (i : Int) < n := by omega
      have HOX := Lib.hid (show wr.ownsRow w.heap.size 3 1 (.slice A5 (bareI (rowsF n es F) i).length c5) (bareVI n es F).length (intCells (bareVI n es F)) by
        have h1 := own_mono HOW.out hwg
        rw [hie] at h1 ⊢
        exact h1)
      clear hie
      go_wp2_with fail
      go_ret
      exact ⟨_, rfl, S4.out.below, HOX.out⟩

end Go.Proofs.YtelcofkjpkdjiaaGreat
