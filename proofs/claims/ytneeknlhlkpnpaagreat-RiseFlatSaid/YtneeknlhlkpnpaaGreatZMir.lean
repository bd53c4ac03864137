import Derived.Test.YtneeknlhlkpnpaaGreatZEul
import Derived.Test.YtneeknlhlkpnpaaGreatZReg
/-
 Plain law: two neighbours change places: faces differ by at most two. Written by an AI agent.
-/
namespace Go.Proofs.YtneeknlhlkpnpaaGreat
open Go.RowKit
section
variable {n : Int} {es : List (Int × Int)} {rs : List (List Int)} {x i k : Nat}
end
end Go.Proofs.YtneeknlhlkpnpaaGreat
namespace Go.Proofs.YtneeknlhlkpnpaaGreat
open Go.RowKit
section
variable {N : Nat} {f g α : Nat → Nat}
open Classical in
end
def mir (rs : List (List Int)) : List (List Int) := rs.map List.reverse
section
variable {n : Int} {es : List (Int × Int)} {rs : List (List Int)}
theorem mir_length : (mir rs).length = rs.length := by simp [mir]
end
end Go.Proofs.YtneeknlhlkpnpaaGreat
namespace Go.Proofs.YtneeknlhlkpnpaaGreat
open Go.RowKit
theorem elemRot : Elem Tryz.prog 31 25 (.slice none 0 0) 1 24 := Elem.mk' Tryz.underlying31 (by kernel_rfl) rfl (by omega)
theorem FacesOwn.rowsC {w : World} {b0 : Nat} {v : Value} {F : List (List Int)} (h : FacesOwn w b0 v F) : ∃ A c, v = .slice A F.length c ∧ RowsC w w.heap.size A F := by
 obtain ⟨sl, h1, h2⟩ := h
 obtain ⟨A, c, rfl⟩ := own_slice h1
 refine ⟨A, c, rfl, fun hn => ?_⟩
 have hsl : sl.length = F.length := by have := h1.1; omega
 obtain ⟨b, off, he, hb, hc⟩ := Cells.of_own h1 (by omega)
 refine ⟨b, off, he, hb, fun i hi => ?_⟩
 obtain ⟨Ai, ci, h3, h4⟩ := h2 i hi
 refine ⟨Ai, ci, hc i _ h3, Cells.of_own h4, ?_⟩
 rcases h4.2 with ⟨h5, h0⟩ | ⟨g, cap, cur, h5, _, _, h6, _⟩
 ·injection h5 with _ h5 h7; omega
 ·injection h5 with _ _ h5; omega
theorem mir_take_succ {rs : List (List Int)} {i : Nat} (h : i < rs.length) : mir (rs.take (i + 1)) = mir (rs.take i) ++ [rs[i].reverse] := by
 unfold mir
 rw [List.take_succ_eq_append_getElem h, List.map_append]
 rfl
set_option maxRecDepth 20000 in
set_option maxHeartbeats 4000000 in
theorem mirror_any (C : Option Addr) (cc : Nat) (rs : List (List Int)) (w : World) (h : RowsAt w w.heap.size C rs) (hr1 : rs.length ≤ 1000) (hr2 : ∀ l ∈ rs, l.length ≤ 1000) :
  Calls Tryz.prog 24 #[.slice C rs.length cc] w (fun e w' => ∃ A c, e = .returned (.slice A rs.length c) ∧ Below w.heap.size w w' ∧ RowsC w' w'.heap.size A (mir rs)) := by
 have H := Lib.hid h
 have Hr2 := Lib.hid hr2
 clear h hr2
 go_enter Tryz.func24, Tryz.ntmps24
 go_wp2_with fail
 go_loopg [2, 7] rs.length (fun k s2 s7 wr => ∃ i : Nat, s7 = .int .i64 i ∧ i ≤ rs.length ∧ k = rs.length - i ∧ Below w.heap.size w wr ∧ FacesOwn wr w.heap.size s2 (mir (rs.take i)))
 case atStart => exact ⟨0, rfl, Nat.zero_le _, rfl, Below.refl _ _, ⟨[], World.ownsRow_nil _ _ _ _, fun i hi => absurd hi (by simp [mir])⟩⟩
 case round =>
  obtain ⟨i, rfl, hi, hk, kr, hown⟩ := hrel
  have Hk := Lib.hid hk
  have HKr := Lib.hid kr
  have hsw := kr.size
  clear hk kr
  by_cases hlt : i < rs.length
  ·have hlt' : (i : Int) < rs.length := by omega
   obtain ⟨b2, o2, rfl, hb2, hc2⟩ := H.out (by omega)
   obtain ⟨Ai, ci, e0, hCi⟩ := hc2 i hlt
   have e0 := (HKr.out.cell (p := ⟨b2, o2 + i, none⟩) hb2).trans e0
   have hCi := Lib.hid ((hCi.below HKr.out).more hsw)
   have hll := Hr2.out _ (List.getElem_mem hlt)
   have HT := Lib.hid (mir_take_succ hlt)
   obtain ⟨sl, ho, h2⟩ := hown
   have hml : (mir (rs.take i)).length = i := by rw [mir_length, List.length_take]; omega
   rw [hml] at ho
   have HML := Lib.hid hml
   have HO := Lib.hid ho
   have H2 := Lib.hid h2
   clear hc2 ho h2 hml
   generalize rs[i] = l at *
   go_wp2_with fail
   refine (clone_any Ai ci l wr hCi.out hll).mono ?_
   rintro e w5 ⟨v5, rfl, hb5, ho5⟩
   obtain ⟨A5, c5, rfl⟩ := own_slice ho5
   have HB5 := Lib.hid hb5
   have HO5 := Lib.hid ho5
   clear hb5 ho5 e0
   go_wp2_with fail
   refine (reverse_any (.slice A5 l.length c5) l wr.heap.size w5 HO5.out hll).mono ?_
   rintro e w6 ⟨rfl, hb6, ho6⟩
   have hb16 := HB5.out.trans hb6
   have how := own_below HO.out hb16 (Nat.le_refl _)
   have HB6 := Lib.hid (HKr.out.trans (hb16.mono hsw))
   have hsz6 : w.heap.size ≤ w6.heap.size := HB6.out.size
   have hb16' := Lib.hid hb16
   have HO6 := Lib.hid ho6
   clear hb6 ho6 hb16
   go_wp2_with (at_builtin; refine wp_app elemRot rfl _ _ rfl w.heap.size u2 _ _ rfl w6.heap.size [.slice A5 l.length c5] rfl rfl how rfl rfl ?h7 ?h8 ?h9 ?_)
   case h7 => omega
   case h8 => omega
   try (case h9 => omega)
   intro v' w' hown' hg' _
   have hb' := below_app HB6.out how hg' hsz6 (Nat.le_refl _)
   have hR' := FacesOwn.push (F := mir (rs.take i)) (f := l.reverse) (A := A5) (c := c5) (by rw [HML.out]; exact how) (fun j hj => by
    obtain ⟨Aj, cj, hs, hoj⟩ := H2.out j hj
    exact ⟨Aj, cj, hs, own_below hoj hb16'.out (Nat.le_refl _)⟩) (by rw [List.length_reverse]; exact own_mono HO6.out hsw) hg' (by rw [HML.out, List.length_reverse]; exact hown')
   rw [← HT.out] at hR'
   have HX := Lib.hid (And.intro hb' hR')
   clear hb' hR' how hown' hg'
   go_wp2_with fail
   go_roundg (rs.length - (i + 1))
   case measure => rw [Hk.out]; omega
   case rel => exact ⟨i + 1, by go_num, by omega, rfl, HX.out.1, HX.out.2⟩
  ·have hie : i = rs.length := by omega
   have HF := Lib.hid (show FacesOwn wr w.heap.size u2 (mir rs) by rw [hie, List.take_length] at hown; exact hown)
   clear hown
   go_wp2_with fail
   go_ret
   obtain ⟨A, c, e, hR⟩ := HF.out.rowsC
   rw [mir_length] at e
   subst e
   exact ⟨A, c, rfl, HKr.out, hR⟩
end Go.Proofs.YtneeknlhlkpnpaaGreat
