import Derived.Test.YtneeknlhlkpnpaaGreatZRSp
import Derived.Test.YtneeknlhlkpnpaaGreatZRRf10
import Derived.Test.YtneeknlhlkpnpaaGreatZBackW
import Derived.Test.YtneeknlhlkpnpaaGreatZRRf9
import Derived.Test.YtneeknlhlkpnpaaGreatZSameRot
import Derived.Test.YtneeknlhlkpnpaaGreatZMir
/-
 The law RiseTells, walked. (Printed by tellsgen.py.) Written by an AI agent.
-/
namespace Go.Proofs.YtneeknlhlkpnpaaGreat
open Go.RowKit
def kOf (ts l : List Int) (x : Nat) : Nat := if x < ts.length ∧ 0 < l.length then (bits .and .i64 (ts.getD x 0) 65535).toNat % l.length else 0
def spun (rs : List (List Int)) (ts : List Int) (i : Nat) : List (List Int) := (List.range i).map fun x => rot (rs.getD x []) (kOf ts (rs.getD x []) x)
theorem spun_succ (rs : List (List Int)) (ts : List Int) (i : Nat) : spun rs ts (i + 1) = spun rs ts i ++ [rot (rs.getD i []) (kOf ts (rs.getD i []) i)] := by
 unfold spun
 rw [List.range_succ, List.map_append]; rfl
theorem spun_length (rs : List (List Int)) (ts : List Int) (i : Nat) : (spun rs ts i).length = i := by unfold spun; simp
theorem spun_turns (rs : List (List Int)) (ts : List Int) : TurnsTo rs (spun rs ts rs.length) := ⟨spun_length _ _ _, fun x hx => ⟨kOf ts (rs.getD x []) x, by
 unfold spun
 rw [List.getD_eq_getElem?_getD (l := List.map _ _), List.getElem?_map, List.getElem?_range hx]; rfl⟩⟩
theorem kOf_le (ts l : List Int) (x : Nat) : kOf ts l x ≤ l.length := by
 unfold kOf
 split
 ·rename_i h
  exact Nat.le_of_lt (Nat.mod_lt _ h.2)
 ·omega
theorem mask16 (a : Int) : 0 ≤ bits .and .i64 a 65535 ∧ bits .and .i64 a 65535 ≤ 65535 := by
 show 0 ≤ IntKind.i64.wrap ((BitVec.ofInt 64 a &&& BitVec.ofInt 64 65535).toNat : Int) ∧ IntKind.i64.wrap ((BitVec.ofInt 64 a &&& BitVec.ofInt 64 65535).toNat : Int) ≤ 65535
 have h : (BitVec.ofInt 64 a &&& BitVec.ofInt 64 65535).toNat ≤ 65535 := by
  rw [BitVec.toNat_and]
  exact Nat.le_trans Nat.and_le_right (by decide)
 rw [IntKind.wrap_i64]
 omega
section
variable {B g : Nat} {w w' : World}
theorem Far.of_grown {v : Value} (hg : w.grownBy w' v.ownBlock) (hv : v.ownBlock = none ∨ v.ownBlock = some g) (hgB : g < B) : Far B g [2] w w' := by
 have key : ∀ k, k < w.heap.size → k ≠ g → w'.heap[k]? = w.heap[k]? := fun k hk hn => hg.block k hk fun e => by
  rcases hv with h | h
  ·rw [h] at e; cases e
  ·rw [h] at e; exact hn (Option.some.inj e)
 exact ⟨hg.os, hg.tape, hg.output, hg.size, fun k hk _ h => key k hk (h.resolve_right (by simp)), fun k hk hB _ => key k hk (by omega)⟩
theorem far_one {c : Nat} (hc : ([1] : List Nat).contains c = false) : 1 ∉ [c] := fun hm => by
 have : (1 : Nat) = c := by simpa using hm
 subst this
 simp at hc
theorem Far.blk {c q : Nat} {t : TypeId} {cs : Array Value} (h : Far B g [c] w w') (hc : ([1] : List Nat).contains c = false) (hb : Blk w q t cs) (hq : B ≤ q) : Blk w' q t cs := by
 unfold Blk
 rw [h.high q hb.lt hq (far_one hc)]
 exact hb
end
def R6.BFact.sl {B g : Nat} (w0 : World) (n : Nat) (xs : List Value) : R6.BFact B g := ⟨[], fun v _ => ∃ A c, v = .slice A n c ∧ Cells w0 B A xs, fun _ _ _ _ _ _ h => h⟩
def R6.BFact.fresh {B g : Nat} (t : TypeId) : R6.BFact B g := ⟨[1], fun v w => ∃ q, v = .slice (some ⟨q, 0, none⟩) 0 0 ∧ B ≤ q ∧ Blk w q t #[], fun _ hc _ _ _ hb ⟨q, h1, h2, h3⟩ => ⟨q, h1, h2, hb.blk hc h3 h2⟩⟩
def R6.BFact.one {B g : Nat} (t e : TypeId) (n : Nat) (xs : List Value) (hg : g < B) : R6.BFact B g := ⟨[1], fun v w => ∃ q x, v = .slice (some ⟨q, 0, none⟩) 1 1 ∧ B ≤ q ∧ Blk w q t #[x] ∧ w.ownsRow B e 1 x n xs, fun c hc _ _ _ hb ⟨q, x, h1, h2, h3, h4⟩ => ⟨q, x, h1, h2, hb.blk hc h3 h2, own_but h4 (hb.but (far_one hc)) (fun k hk => by simp only [List.mem_singleton] at hk; omega)⟩⟩
def R6.BFact.faces {B g : Nat} (base n : Nat) (F : List (List Int)) : R6.BFact B g := ⟨[1, 2], fun v w => (∃ A c, v = .slice A n c) ∧ FacesOwn w base v F, fun c hc _ w _ hb ⟨h1, h2⟩ => ⟨h1, h2.below (hb.below (far_one (by cases c with | zero => rfl | succ c => cases c with | zero => simp at hc | succ c => simp)) (fun hm => by
 have : (2 : Nat) = c := by simpa using hm
 subst this
 simp at hc)) (Nat.le_refl _)⟩⟩
set_option maxRecDepth 20000 in
set_option maxHeartbeats 8000000 in
theorem tellsLaw_any (n : Int) (A O U G : Option Addr) (cap co cu cg : Nat) (es : List (Int × Int)) (ord : List Int) (outs : List (List Int)) (ts : List Int) (w : World) (hes : Cells w w.heap.size A (edgeCells es)) (hcap : es.length ≤ cap) (hO : Cells w w.heap.size O (intCells ord)) (hU : RowsAt w w.heap.size U outs) (hG : Cells w w.heap.size G (intCells ts)) :
  Calls Tryz.prog 6 #[.agg #[.int .i64 n, .slice A es.length cap], .agg #[.slice O ord.length co, .slice U outs.length cu], .slice G ts.length cg] w (fun e w' => e = .returned (.bool true) ∧ Below w.heap.size w w') := by
 obtain ⟨wb, hwb⟩ : ∃ wb, wb = w.alloc (.cells #[.int .i64 n, .slice A es.length cap] 24) := ⟨_, rfl⟩
 have hb0 : Below w.heap.size w wb := by rw [hwb]; exact (Below.refl _ _).alloc (Nat.le_refl _) _
 have hz0 : wb.heap.size = w.heap.size + 1 := by rw [hwb]; simp
 have hGB : Blk wb w.heap.size 24 #[.int .i64 n, .slice A es.length cap] := by rw [hwb]; exact Blk.new _ _ _
 have S1 := Lib.hid (PlanS.start (w := wb) co cu ((hO.below hb0).more hb0.size) ((hU.below hb0).more hb0.size))
 have HES0 := Lib.hid ((hes.below hb0).more hb0.size)
 have HGB0 := Lib.hid hGB
 have HB0 := Lib.hid hb0
 have HCAP := Lib.hid hcap
 have HG0 := Lib.hid ((hG.below hb0).more hb0.size)
 clear hes hO hU hGB hb0 hcap hG
 go_enter Tryz.func6, Tryz.ntmps6
 go_upto_region 1 with fail
 rw [← hwb]
 obtain ⟨gG, hgG⟩ : ∃ g, g = w.heap.size := ⟨_, rfl⟩
 obtain ⟨gP, hgP⟩ : ∃ g, g = wb.heap.size := ⟨_, rfl⟩
 rw [← hgP] at S1
 rw [← hgG] at HGB0
 have hb1 := S1.out.bel
 have HGB1 := Lib.hid (HGB0.out.below hb1 HGB0.out.lt)
 have HES1 := Lib.hid ((HES0.out.below hb1).more hb1.size)
 try rw [show w.heap.size + 1 = gP by omega]
 try rw [← hgP]
 rw [← hgG]
 obtain ⟨w1, hw1⟩ : ∃ w1, w1 = wb.alloc (.cells #[.slice O ord.length co, .slice U outs.length cu] 28) := ⟨_, rfl⟩
 rw [← hw1] at S1 HGB1 HES1 hb1 ⊢
 have HB1 := Lib.hid (HB0.out.trans (hb1.mono HB0.out.size))
 have HG1 := Lib.hid ((HG0.out.below hb1).more hb1.size)
 have HK := Lib.hid (show ∀ wr, Below w1.heap.size w1 wr → wr.cell? ⟨gG, 0, none⟩ = some (.int .i64 n) ∧ wr.cell? ⟨gG, 1, none⟩ = some (.slice A es.length cap) ∧ wr.cell? ⟨gP, 0, none⟩ = some (.slice O ord.length co) ∧ wr.cell? ⟨gP, 1, none⟩ = some (.slice U outs.length cu) ∧ Cells wr wr.heap.size A (edgeCells es) ∧ Cells wr wr.heap.size O (intCells ord) ∧ RowsAt wr wr.heap.size U outs ∧ Below w.heap.size w wr from fun wr hb => by
  have k0 := (HGB1.out.below hb HGB1.out.lt).cell 0
  have k1 := (HGB1.out.below hb HGB1.out.lt).cell 1
  have k2 := (S1.out.b.below hb S1.out.b.lt).cell 0
  have k3 := (S1.out.b.below hb S1.out.b.lt).cell 1
  simp only [List.getElem?_toArray, List.getElem?_cons_zero, List.getElem?_cons_succ] at k0 k1 k2 k3
  exact ⟨k0, k1, k2, k3, (HES1.out.below hb).more hb.size, (S1.out.o.below hb).more hb.size, (S1.out.u.below hb).more hb.size, HB1.out.trans (hb.mono HB1.out.size)⟩)
 clear hw1 hwb hgG hgP hz0 hb1
 go_wp2_with fail
 refine (speaks11_any w1).mono ?_
 rintro e w2 ⟨rfl, hb2⟩
 have HB2 := Lib.hid hb2
 obtain ⟨g0, g1, p0, p1, hE2, hO2, hU2, hW2⟩ := HK.out w2 hb2
 have HW2 := Lib.hid hW2
 have HU2 := Lib.hid hU2
 clear hb2 hE2 hO2 hU2 hW2
 go_wp2_with fail
 refine (great10_any n A O U cap co cu es ord outs w2 HU2.out).mono ?_
 rintro e w3 ⟨b, rfl, hb3, hg⟩
 have HB3 := Lib.hid (HB2.out.trans (hb3.mono HB2.out.size))
 clear hb3 g0 g1 p0 p1
 obtain ⟨g0, g1, p0, p1, hE3, hO3, hU3, hW3⟩ := HK.out w3 HB3.out
 have HE3 := Lib.hid hE3
 have HO3 := Lib.hid hO3
 have HU3 := Lib.hid hU3
 have HW3 := Lib.hid hW3
 clear hE3 hO3 hU3 hW3
 cases b with
 | true =>
  clear hg
  go_wp2_with fail
  go_ret
  exact ⟨rfl, HW3.out⟩
 | false =>
 obtain ⟨hm, hord, houl, hol⟩ := hg rfl
 have HOL := Lib.hid (show ∀ l ∈ outs, l.length ≤ 1000 from fun l hl => by have := hol l hl; omega)
 clear hg hol
 by_cases hn24 : n ≤ 24
 case neg =>
  have hn1 : (24 : Int) < n := by omega
  clear hn24
  go_wp2_with fail
  go_ret
  exact ⟨rfl, HW3.out⟩
 by_cases he40 : es.length ≤ 40
 case neg =>
  have hn1 : ¬ (24 : Int) < n := by omega
  have he1 : (40 : Int) < es.length := by omega
  clear hn24 he40
  go_wp2_with fail
  go_ret
  exact ⟨rfl, HW3.out⟩
 by_cases ht100 : ts.length ≤ 100
 case neg =>
  have hn1 : ¬ (24 : Int) < n := by omega
  have he1 : ¬ (40 : Int) < es.length := by omega
  have ht1 : (100 : Int) < ts.length := by omega
  clear hn24 he40 ht100
  go_wp2_with fail
  go_ret
  exact ⟨rfl, HW3.out⟩
 have hn1 : ¬ (24 : Int) < n := by omega
 have he1 : ¬ (40 : Int) < es.length := by omega
 have ht1 : ¬ (100 : Int) < ts.length := by omega
 go_wp2_with fail
 refine (turn_any n A O U cap co cu es ord outs w3 HE3.out HCAP.out HO3.out HU3.out (by omega) HOL.out).mono ?_
 rintro e w4 ⟨hb4, hc4⟩
 have HC4 := Lib.hid hc4
 have HB4 := Lib.hid (HB3.out.trans (hb4.mono HB3.out.size))
 clear hb4 hc4 g0 g1 p0 p1 hn1 he1 ht1
 obtain ⟨g0, g1, _, _, hE4, _, _, hW4⟩ := HK.out w4 HB4.out
 have HE4 := Lib.hid hE4
 have HW4 := Lib.hid hW4
 clear hE4 hW4
 rcases HC4.out with ⟨en, C, c, hgd, hrun, rfl, hrw⟩ | ⟨hno, rfl⟩
 case inr =>
  clear HC4 hno
  go_wp2_with fail
  go_ret
  exact ⟨rfl, HW4.out⟩
 obtain ⟨N, rfl⟩ : ∃ N : Nat, n = (N : Int) := ⟨n.toNat, by have := (may_parts hgd.may).1; omega⟩
 rw [Int.toNat_natCast] at hrun hrw HC4 ⊢
 obtain ⟨pl, rF, s, hPl⟩ := run_plan hgd hrun
 have hN64 : N ≤ 64 := by have := (may_parts hgd.may).2.1; omega
 rw [hPl.wrapped] at hrw
 obtain ⟨rs, hrs⟩ : ∃ rs, rs = turnR N outs en := ⟨_, rfl⟩
 rw [← hrs] at hrw
 have HPL := Lib.hid hPl
 have HRS := Lib.hid hrs
 have HRL := Lib.hid (show rs.length = N by rw [hrs, turnR_length])
 have HRW := Lib.hid hrw
 have HGD := Lib.hid hgd
 have HRR := Lib.hid (show RightP N es rs by rw [hrs]; exact hPl.right)
 have HR2 := Lib.hid (show ∀ l ∈ rs, l.length ≤ 1000 from fun l hl => by have := right_rowsB HRR.out l hl; omega)
 clear hPl hrs hrw hgd hrun HC4
 go_upto_region 9 with fail
 obtain ⟨w5, hw5⟩ : ∃ x, x = w4.alloc (.cells #[] 25) := ⟨_, rfl⟩
 obtain ⟨b0, hb0'⟩ : ∃ b, b = w4.heap.size := ⟨_, rfl⟩
 have HB0' := Lib.hid hb0'
 have hb45 : Below b0 w4 w5 := by rw [hw5, hb0']; exact (Below.refl _ _).alloc (Nat.le_refl _) _
 have HF5 := Lib.hid (show FacesOwn w5 b0 (.slice (some ⟨b0, 0, none⟩) 0 0) [] from ⟨[], by
  rw [hw5, hb0']
  exact blk_own (R := #[]) (Nat.le_refl _) (by simpa using Blk.new w4 25 #[]) (by simp) (Nat.le_refl _) (by unfold maxLen; omega) (by simp), fun i hi => absurd hi (by simp)⟩)
 have HB45 := Lib.hid hb45
 have hz5 : b0 < w5.heap.size := by rw [hw5, hb0']; simp
 have HRC := Lib.hid (show ∀ wr, Below b0 w4 wr → RowsC wr b0 C rs from fun wr hb => by
  have h1 := HRW.out
  rw [← HB0'.out] at h1
  exact h1.below hb)
 have HGC := Lib.hid (show ∀ wr, Below b0 w4 wr → Cells wr b0 G (intCells ts) from fun wr hb => by
  have h1 := (HG1.out.below HB4.out).more HB4.out.size
  rw [← HB0'.out] at h1
  exact h1.below hb)
 rw [← hw5, ← hb0']
 clear hw5 hb0' hb45 g0 g1
 go_wp2_with fail
 go_loopg [48, 9, 10, 11, 12] N (fun kk s48 s9 s10 s11 s12 wr => ∃ i : Nat, s48 = .int .i64 i ∧ i ≤ N ∧ kk = N - i ∧ Below b0 w4 wr ∧ b0 < wr.heap.size ∧ FacesOwn wr b0 s9 (spun rs ts i))
 case atStart => exact ⟨0, rfl, Nat.zero_le _, rfl, HB45.out, hz5, HF5.out⟩
 case round =>
  obtain ⟨i, rfl, hi, hkk, hbr, hgr, hown⟩ := hrel
  have Hkk := Lib.hid hkk
  have HBr := Lib.hid hbr
  have HOWN := Lib.hid hown
  have HSL := Lib.hid (spun_length rs ts i)
  obtain ⟨A9, c9, rfl⟩ : ∃ A c, u9 = .slice A i c := by
   obtain ⟨sl, h1, _⟩ := hown
   rw [HSL.out] at h1
   exact own_slice h1
  clear hkk hbr hown
  by_cases hlt : i < N
  ·have hlt' : (i : Int) < N := by omega
   have hir : i < rs.length := by rw [HRL.out]; exact hlt
   obtain ⟨b2, o2, eC, hb2, hc2⟩ := (HRC.out wr HBr.out) (by omega)
   obtain ⟨Ai, ci, e0, hCi, hci⟩ := hc2 i hir
   have HCi := Lib.hid (hCi.more (Nat.le_of_lt hgr))
   have hll := HR2.out _ (List.getElem_mem hir)
   have HT := Lib.hid (show spun rs ts (i + 1) = spun rs ts i ++ [rot rs[i] (kOf ts rs[i] i)] by
    rw [spun_succ, List.getD_eq_getElem?_getD, List.getElem?_eq_getElem hir]; rfl)
   clear hc2 hCi
   generalize rs[i] = l at *
   subst eC
   obtain ⟨k, hk⟩ : ∃ k, k = kOf ts l i := ⟨_, rfl⟩
   have hkl : k ≤ l.length := by rw [hk]; exact kOf_le _ _ _
   rw [← hk] at HT
   have HKK := Lib.hid hk
   clear hk
   by_cases hc : i < ts.length ∧ 0 < l.length
   case' pos =>
    obtain ⟨hc1, hc2⟩ := hc
    have hc1' : (i : Int) < ts.length := by omega
    have hc2' : (0 : Int) < l.length := by omega
    obtain ⟨bt, ot, eG, hbt, hct⟩ := (HGC.out wr HBr.out).ints (by omega)
    have ct := hct i hc1
    have hmk := mask16 ts[i]
    have hmd : Int.tmod (bits .and .i64 ts[i] 65535) l.length = (k : Int) := by
     rw [Int.tmod_eq_emod_of_nonneg hmk.1, HKK.out]
     unfold kOf
     rw [if_pos ⟨hc1, hc2⟩, List.getD_eq_getElem?_getD, List.getElem?_eq_getElem hc1, Option.getD_some]
     generalize bits .and .i64 ts[i] 65535 = m at *
     obtain ⟨m', rfl⟩ := Int.eq_ofNat_of_zero_le hmk.1
     rw [Int.toNat_natCast]; rfl
    generalize ts[i] = ti at *
    subst eG
    clear hct
    go_upto_region 15 with fail
   case' neg =>
    have HKZ := Lib.hid (show k = 0 by rw [HKK.out]; unfold kOf; rw [if_neg hc])
    by_cases hc1 : i < ts.length
    case' pos =>
     have hc1' : (i : Int) < ts.length := by omega
     have hc2' : ¬ (0 : Int) < l.length := fun h => hc ⟨hc1, by omega⟩
     clear hc
     go_upto_region 15 with fail
    case' neg =>
     have hc1' : ¬ (i : Int) < ts.length := by omega
     clear hc
     go_upto_region 15 with fail
   all_goals
    have hkl' : (k : Int) ≤ l.length := by omega
    have hki : (k : Int) ≤ ci := by omega
    have hk0 : (0 : Int) ≤ k := by omega
    obtain ⟨gS, hgS, hgB, hgS0⟩ : ∃ g, ((.slice A9 i c9 : Value).ownBlock = none ∨ (.slice A9 i c9 : Value).ownBlock = some g) ∧ g < wr.heap.size ∧ b0 ≤ g := by
     obtain ⟨sl, h1, _⟩ := HOWN.out
     cases e : (.slice A9 i c9 : Value).ownBlock with
     | none => exact ⟨b0, .inl rfl, hgr, Nat.le_refl _⟩
     | some g => exact ⟨g, .inr rfl, (h1.lt g e).2, (h1.lt g e).1⟩
    have HGS := Lib.hid (And.intro hgS hgB)
    clear hgS
    refine R6.wp_region_b wr.heap.size gS [0, 0, 0, 0, 0, 0, 0, 0, 0, 1, 0, 2, 0]
     [([], .val (.slice A9 i c9)), ([], .fresh 3), ([], .val (.slice Ai l.length ci)), ([], .val (.int .i64 (k : Nat))), ([2, 3], .sl wr (l.length - k) (intCells (l.drop k))), ([1, 4], .own wr.heap.size 3 1 (l.length - k) (intCells (l.drop k)) hgB), ([], .val (.slice Ai l.length ci)), ([], .val (.int .i64 (k : Nat))), ([6, 7], .sl wr k (intCells (l.take k))), ([5, 8], .own wr.heap.size 3 1 l.length (intCells (rot l k)) hgB), ([9], .one 25 3 l.length (intCells (rot l k)) hgB), ([0, 10], .faces b0 (i + 1) (spun rs ts i ++ [rot l k])), ([11], .faces b0 (i + 1) (spun rs ts i ++ [rot l k]))] [12] (by kernel_rfl) (by kernel_rfl) (fun us => ?_) ?_
    ·refine R6.pgo_pure _ rfl rfl (fun wv hw hu => ⟨.slice A9 i c9, ?_, rfl⟩) ?_
     ·have tok := True.intro
      clear hw hu
      go_simp
     refine R3.pgo_val _ rfl rfl (fun wv hw hu => ?_) ?_
     ·have tok := True.intro
      have hB : wr.heap.size ≤ wv.heap.size := hw.size
      refine ⟨.slice (some ⟨wv.heap.size, 0, none⟩) 0 0, wv.alloc (.cells #[] 3), ?_, Far.of_below0 ((Below.refl _ _).alloc (Nat.le_refl _) _), wv.heap.size, rfl, hB, Blk.new _ _ _⟩
      clear hw hu hB
      go_simp
     refine R6.pgo_pure _ rfl rfl (fun wv hw hu => ⟨.slice Ai l.length ci, ?_, rfl⟩) ?_
     ·have tok := True.intro
      clear hw hu
      go_simp
     refine R3.pgo_val _ rfl rfl (fun wv hw hu => ?_) ?_
     ·have tok := True.intro
      refine ⟨.int .i64 (k : Nat), wv, ?_, Far.refl _ _ _ _, rfl⟩
      clear hw hu
      go_simp
      all_goals (rw [HKZ.out]; rfl)
     refine R3.pgo_val _ rfl rfl (fun wv hw hu => ?_) ?_
     ·have tok := True.intro
      have h2 : us 2 = .slice Ai l.length ci := hu.1
      have h3 : us 3 = .int .i64 (k : Nat) := hu.2.1
      have h2 : us 2 = .slice Ai l.length ci := hu.1
      have h3 : us 3 = .int .i64 (k : Nat) := hu.2.1
      rcases Nat.eq_zero_or_pos l.length with hl0 | hl0
      ·have hln := List.length_eq_zero_iff.1 hl0
       have hk00 : k = 0 := by omega
       rcases Ai with _ | ⟨bi, oi, xi⟩
       ·refine ⟨.slice none (l.length - k) (ci - k), wv, ?_, Far.refl _ _ _ _, _, _, rfl, by rw [hln, hk00]; exact Cells.nil⟩
        clear hw hu
        go_simp
       ·refine ⟨.slice (if ci = k then some ⟨bi, oi, xi⟩ else some ⟨bi, oi + k, xi⟩) (l.length - k) (ci - k), wv, ?_, Far.refl _ _ _ _, _, _, rfl, by rw [hln, hk00]; exact Cells.nil⟩
        clear hw hu
        go_simp
      ·obtain ⟨bi, oi, eA, hbi, _⟩ := HCi.out.ints hl0
       have hCA := HCi.out
       subst eA
       refine ⟨.slice (if ci = k then some ⟨bi, oi, none⟩ else some ⟨bi, oi + k, none⟩) (l.length - k) (ci - k), wv, ?_, Far.refl _ _ _ _, _, _, rfl, ints_drop k ci hci hCA⟩
       clear hw hu hCA
       go_simp
     refine R3.pgo_op _ rfl rfl (fun K wv hw hu hK => ?_) ?_
     ·have tok := True.intro
      obtain ⟨q, h1, hq, hbq⟩ := hu.1
      obtain ⟨A4, c4, h4, hc4⟩ := hu.2.1
      have hbl := (R6.in_ hw [] (by kernel_rfl) : Far wr.heap.size gS [] wr.drew wv).below (by simp) (by simp)
      have hsz : wr.heap.size ≤ wv.heap.size := hw.size
      refine wpo_app_fresh elemInt _ _ rfl (by repeat (first | (with_reducible exact (put_eval_same _ _ _ (by simp [put_size])).trans h1) | (with_reducible refine put_eval _ _ _ _ _ (by decide) ?_))) hbq hq (by repeat (first | (with_reducible exact (put_eval_same _ _ _ (by simp [put_size])).trans h4) | (with_reducible refine put_eval _ _ _ _ _ (by decide) ?_))) (hc4.drew.below hbl) (show (intCells (l.drop k)).length = (l.length - k) * 1 by simp [intCells]) (by omega) (by omega) hsz fun A' c' w' ho' hb' => hK _ _ (Far.of_below0 hb') ho'
     refine R6.pgo_pure _ rfl rfl (fun wv hw hu => ⟨.slice Ai l.length ci, ?_, rfl⟩) ?_
     ·have tok := True.intro
      clear hw hu
      go_simp
     refine R3.pgo_val _ rfl rfl (fun wv hw hu => ?_) ?_
     ·have tok := True.intro
      refine ⟨.int .i64 (k : Nat), wv, ?_, Far.refl _ _ _ _, rfl⟩
      clear hw hu
      go_simp
      all_goals (rw [HKZ.out]; rfl)
     refine R3.pgo_val _ rfl rfl (fun wv hw hu => ?_) ?_
     ·have tok := True.intro
      have h6 : us 6 = .slice Ai l.length ci := hu.1
      have h7 : us 7 = .int .i64 (k : Nat) := hu.2.1
      have h6 : us 6 = .slice Ai l.length ci := hu.1
      have h7 : us 7 = .int .i64 (k : Nat) := hu.2.1
      rcases Nat.eq_zero_or_pos l.length with hl0 | hl0
      ·have hln := List.length_eq_zero_iff.1 hl0
       have hk00 : k = 0 := by omega
       rcases Ai with _ | ⟨bi, oi, xi⟩
       ·refine ⟨.slice none k ci, wv, ?_, Far.refl _ _ _ _, _, _, rfl, by rw [hln, hk00]; exact Cells.nil⟩
        clear hw hu
        go_simp
       ·refine ⟨.slice (some ⟨bi, oi, xi⟩) k ci, wv, ?_, Far.refl _ _ _ _, _, _, rfl, by rw [hln, hk00]; exact Cells.nil⟩
        clear hw hu
        go_simp
      ·obtain ⟨bi, oi, eA, hbi, _⟩ := HCi.out.ints hl0
       have hCA := HCi.out
       subst eA
       refine ⟨.slice (some ⟨bi, oi, none⟩) k ci, wv, ?_, Far.refl _ _ _ _, _, _, rfl, ints_take k hCA⟩
       clear hw hu hCA
       go_simp
     refine R3.pgo_op _ rfl rfl (fun K wv hw hu hK => ?_) ?_
     ·have tok := True.intro
      have ho5 : wv.ownsRow wr.heap.size 3 1 (us 5) (l.length - k) (intCells (l.drop k)) := hu.1
      obtain ⟨A5, c5, h5⟩ := own_slice ho5
      obtain ⟨A8, c8, h8, hc8⟩ := hu.2.1
      have hbl := (R6.in_ hw [] (by kernel_rfl) : Far wr.heap.size gS [] wr.drew wv).below (by simp) (by simp)
      have hsz : wr.heap.size ≤ wv.heap.size := hw.size
      rw [h5] at ho5
      refine wpo_app_any elemInt _ _ rfl (by repeat (first | (with_reducible exact (put_eval_same _ _ _ (by simp [put_size])).trans h5) | (with_reducible refine put_eval _ _ _ _ _ (by decide) ?_))) ho5 (by repeat (first | (with_reducible exact (put_eval_same _ _ _ (by simp [put_size])).trans h8) | (with_reducible refine put_eval _ _ _ _ _ (by decide) ?_))) (hc8.drew.below hbl) (show (intCells (l.take k)).length = k * 1 by simp [intCells]; omega) (intCells_one _) (by omega) (by omega) hsz fun v' w' ho' hgr' hd => ?_
      refine hK _ _ (Far.of_belowB (below_app (Below.refl _ _) ho5 hgr' hsz (Nat.le_refl _)) (by simp)) ?_
      have e1 : l.length - k + k = l.length := by omega
      rw [e1] at ho'
      have e2 : intCells (rot l k) = intCells (l.drop k) ++ intCells (l.take k) := by simp [intCells, rot]
      show w'.ownsRow wr.heap.size 3 1 v' l.length (intCells (rot l k))
      rw [e2]
      exact ho'
     refine R3.pgo_op _ rfl rfl (fun K wv hw hu hK => ?_) ?_
     ·have tok := True.intro
      have ho9 : wv.ownsRow wr.heap.size 3 1 (us 9) l.length (intCells (rot l k)) := hu.1
      obtain ⟨A9', c9', h9⟩ := own_slice ho9
      have hsz : wr.heap.size ≤ wv.heap.size := hw.size
      have hba := (Below.refl wv.heap.size wv).alloc (Nat.le_refl _) (.cells #[us 9] 25)
      have hfin := hK (.slice (some ⟨wv.heap.size, 0, none⟩) 1 1) (wv.alloc (.cells #[us 9] 25)) (Far.of_below0 hba) ⟨_, us 9, rfl, hsz, Blk.new _ _ _, own_below ho9 hba (Nat.le_refl _)⟩
      refine wpo_value (v := .slice (some ⟨wv.heap.size, 0, none⟩) 1 1) (w' := wv.alloc (.cells #[us 9] 25)) ?_ hfin
      rw [h9]
      clear hw hu hK hfin ho9 hba
      go_simp
     refine R3.pgo_op _ rfl rfl (fun K wv hw hu hK => ?_) ?_
     ·have tok := True.intro
      have h0 : us 0 = .slice A9 i c9 := hu.1
      have h0 : us 0 = .slice A9 i c9 := hu.1
      obtain ⟨q, x, h10, hq, hbq, hox⟩ := hu.2.1
      obtain ⟨Ax, cx, rfl⟩ := own_slice hox
      have hsz : wr.heap.size ≤ wv.heap.size := hw.size
      have hbl := (R6.in_ hw [1] (by kernel_rfl) : Far wr.heap.size gS [1] wr.drew wv).belowB (by simp) (Nat.le_refl _)
      have hFd : FacesOwn wr.drew b0 (.slice A9 i c9) (spun rs ts i) := HOWN.out
      obtain ⟨sl, how, h2⟩ := hFd.below hbl (Nat.le_refl _)
      have how2 : wv.ownsRow b0 25 1 (.slice A9 i c9) i sl := by rw [HSL.out] at how; exact how
      refine wpo_app_any elemRot _ _ rfl (by repeat (first | (with_reducible exact (put_eval_same _ _ _ (by simp [])).trans h0) | (with_reducible refine put_eval _ _ _ _ _ (by decide) ?_))) how2 (by repeat (first | (with_reducible exact (put_eval_same _ _ _ (by simp [put_size])).trans h10) | (with_reducible refine put_eval _ _ _ _ _ (by decide) ?_))) (Cells.blk' (xs := [.slice Ax l.length cx]) hbq) rfl rfl (by omega) (by omega) (Nat.le_trans (Nat.le_of_lt hgr) hsz) fun v' w' ho' hgr' hd => ?_
      refine hK _ _ (Far.of_grown hgr' HGS.out.1 HGS.out.2) ⟨own_slice ho', FacesOwn.push (A := Ax) (c := cx) how h2 (by rw [rot_length]; exact own_mono hox (Nat.le_of_lt hgr)) hgr' (by rw [HSL.out, rot_length]; exact ho')⟩
     refine R3.pgo_val _ rfl rfl (fun wv hw hu => ?_) ?_
     ·have tok := True.intro
      obtain ⟨⟨A11, c11, h11⟩, hF⟩ := hu.1
      refine ⟨us 11, wv, ?_, Far.refl _ _ _ _, ⟨A11, c11, h11⟩, hF⟩
      rw [h11]
      clear hw hu hF
      go_simp
     trivial
    ·intro us w9 hw hu
     obtain ⟨⟨A12, c12, h12⟩, hF12⟩ := hu.1
     have hF12 : FacesOwn w9 b0 (us 12) (spun rs ts i ++ [rot l k]) := hF12
     rw [h12, ← HT.out] at hF12
     have hbw : Below b0 wr w9 := ⟨hw.os, hw.tape, hw.output, hw.size, fun z hz => by
      exact hw.low z (Nat.lt_trans hz hgr) (Nat.lt_trans hz hgr) (.inl (by omega))⟩
     have HX := Lib.hid (And.intro (HBr.out.trans hbw) (And.intro (Nat.lt_of_lt_of_le hgr (show wr.heap.size ≤ w9.heap.size from hw.size)) hF12))
     clear hw hu hF12 hbw
     simp only [lexL]
     go_simp
     go_wp2_with fail
     go_roundg (N - (i + 1))
     case measure => rw [Hkk.out]; omega
     case rel => exact ⟨i + 1, by go_num, by omega, rfl, HX.out.1, HX.out.2.1, HX.out.2.2⟩
  ·have hie : i = N := by omega
   have hlt' : ¬ (i : Int) < N := by omega
   subst hie
   have HSP := Lib.hid (show TurnsTo rs (spun rs ts i) from by have h := spun_turns rs ts; rw [HRL.out] at h; exact h)
   obtain ⟨sp, hsp⟩ : ∃ sp, sp = spun rs ts i := ⟨_, rfl⟩
   rw [← hsp] at HOWN HSP HSL
   have HRCs := Lib.hid (show RowsC wr wr.heap.size A9 sp from by
    obtain ⟨A', c', e, h⟩ := HOWN.out.rowsC
    injection e with e1 _ _
    rw [e1]; exact h)
   have hB1r : Below w1.heap.size w1 wr := by
    have h1 := HBr.out
    rw [HB0'.out] at h1
    exact HB4.out.trans (h1.mono HB4.out.size)
   have HB1r := Lib.hid hB1r
   obtain ⟨g0, g1, _, _, hEr, _, _, _⟩ := HK.out wr hB1r
   have HER := Lib.hid hEr
   have HSR := Lib.hid (show RightP i es sp from HSP.out.right HRR.out)
   have HS2 := Lib.hid (show ∀ l ∈ sp, l.length ≤ 1000 from fun l hl => by have := right_rowsB HSR.out l hl; omega)
   clear hsp hB1r hEr hlt
   have hbk := backW_any i A A9 cap c9 es sp wr HER.out HCAP.out HRCs.out (by rw [HSL.out]; omega) HS2.out
   rw [HSL.out] at hbk
   have HBK := Lib.hid hbk
   clear hbk
   go_wp2_with fail
   refine HBK.out.mono ?_
   rintro e w6 ⟨hb6, hc6⟩
   have HB6 := Lib.hid (HB1r.out.trans (hb6.mono HB1r.out.size))
   have HBr6 := Lib.hid hb6
   rw [Int.toNat_natCast] at hc6
   rcases hc6 with ⟨hno, _⟩ | ⟨_, _, hnb, _⟩ | ⟨ord2, outs2, en2, O2, co2, U2, cu2, _, _, hrun2, hsm2, rfl, hO6, hU6⟩
   ·exact absurd ⟨HGD.out, HSR.out⟩ hno
   ·exact absurd hnb fun h => back_yes HPL.out (by rw [← HRS.out]; exact turns_same HSP.out) h
   ·obtain ⟨w7, hw7⟩ : ∃ x, x = w6.alloc (.cells #[.slice O2 ord2.length co2, .slice U2 outs2.length cu2] 28) := ⟨_, rfl⟩
    obtain ⟨gQ, hgQ⟩ : ∃ g, g = w6.heap.size := ⟨_, rfl⟩
    have hb7 : Below w6.heap.size w6 w7 := by rw [hw7]; exact (Below.refl _ _).alloc (Nat.le_refl _) _
    have HQ7 := Lib.hid (show Blk w7 gQ 28 #[.slice O2 ord2.length co2, .slice U2 outs2.length cu2] by rw [hw7, hgQ]; exact Blk.new _ _ _)
    have HO7 := Lib.hid ((hO6.below hb7).more hb7.size)
    have HU7 := Lib.hid ((hU6.below hb7).more hb7.size)
    have HB7 := Lib.hid (HB6.out.trans (hb7.mono HB6.out.size))
    have HBr7 := Lib.hid (HBr6.out.trans (hb7.mono HBr6.out.size))
    obtain ⟨pl2, rF2, s2, hP2⟩ := run_plan HGD.out hrun2
    have HP2 := Lib.hid hP2
    have HRUN2 := Lib.hid hrun2
    have HSAME := Lib.hid (show sameB (turnR i outs2 en2) rs = true from turns_same ((same_turns hsm2).trans HSP.out.symm))
    have HOL2 := Lib.hid (show ∀ l ∈ outs2, l.length ≤ 1000 from fun l hl => by
     obtain ⟨x, hx, rfl⟩ := List.getElem_of_mem hl
     have h1 := (HP2.out.outp x (by rw [← HP2.out.outl]; exact hx)).length_eq
     rw [List.getD_eq_getElem?_getD, List.getElem?_eq_getElem hx, Option.getD_some] at h1
     have := endsF_length es Prod.fst (x : Nat) es.length
     omega)
    clear hb6 hrun2 hsm2 hO6 hU6 hP2 hb7 g0 g1
    go_upto_region 18 with fail
    rw [← hw7, ← hgQ]
    clear hw7 hgQ
    obtain ⟨g0, g1, _, _, hE7, _, _, _⟩ := HK.out w7 HB7.out
    have q0 := HQ7.out.cell 0
    have q1 := HQ7.out.cell 1
    simp only [List.getElem?_toArray, List.getElem?_cons_zero, List.getElem?_cons_succ] at q0 q1
    have HE7 := Lib.hid hE7
    clear hE7
    go_wp2_with fail
    refine (turn_any i A O2 U2 cap co2 cu2 es ord2 outs2 w7 HE7.out HCAP.out HO7.out HU7.out (by omega) HOL2.out).mono ?_
    rintro e w8 ⟨hb8, hc8⟩
    rw [Int.toNat_natCast] at hc8
    rcases hc8 with ⟨en3, C8, c8, _, h2, rfl, hrw8⟩ | ⟨hno, _⟩
    case inr => exact absurd ⟨HGD.out, by rw [HRUN2.out]; rfl⟩ hno
    rw [HRUN2.out] at h2
    rw [← Option.some.inj h2, HP2.out.wrapped] at hrw8
    have hrt8 := right_rowsB HP2.out.right
    obtain ⟨mt, hmt⟩ : ∃ mt, mt = turnR i outs2 en2 := ⟨_, rfl⟩
    have HMTL := Lib.hid (show mt.length = i by rw [hmt, turnR_length])
    rw [← hmt] at hrw8 hrt8 HSAME
    have HB8 := Lib.hid (HB7.out.trans (hb8.mono HB7.out.size))
    have hrc8 : RowsC w8 w8.heap.size C rs := by
     have h0 := HBr.out
     rw [HB0'.out] at h0
     have h1 : Below wr.heap.size wr w8 := HBr7.out.trans (hb8.mono HBr7.out.size)
     have h2 : Below w4.heap.size w4 w8 := h0.trans (h1.mono h0.size)
     exact (HRW.out.below h2).more h2.size
    have hsm := sameR_any C8 C c8 c mt rs w8 hrw8 hrc8 (by rw [HMTL.out]; omega) (by rw [HRL.out]; omega) (fun l hl => by have := hrt8 l hl; omega) (fun _ => HR2.out)
    rw [HMTL.out, HRL.out, HSAME.out] at hsm
    have HSM := Lib.hid hsm
    clear h2 hmt hrw8 hrt8 hrc8 hsm hb8 g0 g1 q0 q1
    go_wp2_with fail
    refine HSM.out.mono ?_
    rintro e w9 ⟨rfl, hb9⟩
    have HW9 := Lib.hid (HK.out w9 (HB8.out.trans (hb9.mono HB8.out.size))).2.2.2.2.2.2.2
    clear hb9
    go_wp2_with fail
    go_ret
    exact ⟨rfl, HW9.out⟩
end Go.Proofs.YtneeknlhlkpnpaaGreat
