import Derived.Test.YtelcofkjpkdjiaaGreatZPts2
import Derived.Test.YtelcofkjpkdjiaaGreatZAsg
import Derived.Shelf.Sort.Plain
import Derived.Shelf.Slices.CompactI
import Derived.Shelf.Slices.In.SortNone
import Derived.Test.YtelcofkjpkdjiaaGreatZMem
import Derived.Test.YtelcofkjpkdjiaaGreatZVw
import Derived.Test.YtelcofkjpkdjiaaGreatZWeb
import Derived.Test.YtelcofkjpkdjiaaGreatZFit2
import Derived.Test.YtelcofkjpkdjiaaGreatZAng1
/-
  slices.DeleteFunc over numbers (how many are left), by forest.Outers' closure; (Part).tree, (View).Outs. Written by an AI agent.
-/
namespace Go.Proofs.YtelcofkjpkdjiaaGreat
open Go.RowKit

/-- no edge goes from x -/
def bareX (es : List (Int × Int)) (x : Int) : Bool := ((endsF es Prod.fst x es.length).length : Int) == 0
set_option maxRecDepth 20000 in
theorem outs_any (gv n x : Nat) (es : List (Int × Int)) (w : World) (hv : ViewAt w gv n es) (hx : x < n) (hl : es.length ≤ 1000) :
    Calls Tryz.prog 30 #[.pointer (some ⟨gv, 0, none⟩), .int .i64 (x : Nat)] w (fun e w' => ∃ v, e = .returned v ∧ Below w.heap.size w w' ∧ w'.ownsRow w.heap.size 3 1 v (endsF es Prod.fst (x : Nat) es.length).length (intCells (endsF es Prod.fst (x : Nat) es.length))) := by
  obtain ⟨A, c, go, gi, h1, h2, _⟩ := hv.tabs
  obtain ⟨b, off, e, hb, hcc⟩ := h2 (by rw [rowsF_length]; omega)
  injection e with e
  injection e with e1 e2 _
  subst e1 e2
  obtain ⟨Ai, ci, zi, hCi⟩ := hcc x (by rw [rowsF_length]; exact hx)
  have hrow : (rowsF n es Prod.fst)[x]'(by rw [rowsF_length]; exact hx) = endsF es Prod.fst (x : Nat) es.length := by simp [rowsF]
  rw [hrow] at zi hCi
  rw [Nat.zero_add] at zi
  have hle := endsF_length es Prod.fst (x : Nat) es.length
  have z0 := h1.cell 0
  have z2 := h1.cell 2
  simp only [List.getElem?_toArray, List.getElem?_cons_zero, List.getElem?_cons_succ] at z0 z2
  have hth := there_any go n go x ci Ai (endsF es Prod.fst (x : Nat) es.length) w
  have HT := Lib.hid (there_any gv n go x ci Ai (endsF es Prod.fst (x : Nat) es.length) w z0 zi hx hCi (by omega))
  clear hth hrow h2 hcc hCi zi
  have z1 := h1.cell 1
  simp only [List.getElem?_toArray, List.getElem?_cons_zero, List.getElem?_cons_succ] at z1
  clear h1
  go_enter Tryz.func30, Tryz.ntmps30
  go_wp2_with fail
  refine HT.out.mono ?_
  rintro e w2 ⟨v, rfl, hb2, ho2⟩
  have HB := Lib.hid hb2
  have HO := Lib.hid ho2
  clear hb2 ho2
  go_wp2_with fail
  go_ret
  exact ⟨_, rfl, HB.out, HO.out⟩
set_option maxRecDepth 20000 in
theorem outs1_any (gc gv n x : Nat) (es : List (Int × Int)) (w : World) (hc : w.cell? ⟨gc, 0, none⟩ = some (.pointer (some ⟨gv, 0, none⟩))) (hv : ViewAt w gv n es) (hx : x < n) (hl : es.length ≤ 1000) :
    Calls Tryz.prog 29 #[.int .i64 (x : Nat), .pointer (some ⟨gc, 0, none⟩)] w (fun e w' => e = .returned (.bool (bareX es (x : Nat))) ∧ Below w.heap.size w w') := by
  have HT := Lib.hid (outs_any gv n x es w hv hx hl)
  clear hv
  go_enter Tryz.func29, Tryz.ntmps29
  go_wp2_with fail
  refine HT.out.mono ?_
  rintro e w2 ⟨v, rfl, hb2, ho2⟩
  obtain ⟨A1, c1, rfl⟩ := own_slice ho2
  have HB := Lib.hid hb2
  have HBX := Lib.hid (show bareX es (x : Nat) = (((endsF es Prod.fst (x : Nat) es.length).length : Int) == 0) from rfl)
  generalize (endsF es Prod.fst (x : Nat) es.length).length = k at *
  clear hb2 ho2 hc HT
  go_wp2_with fail
  go_ret
  exact ⟨by rw [HBX.out]; rfl, HB.out⟩
theorem callFunc_outs1 (u : World) (args : Array Value) : (callFunc 29 args).run Tryz.prog u = .ok (.enter 29 args) u := by
  go_simp
def IdxIPost (p : Int → Bool) (l : List Int) (B : Nat) (w : World) (e : Ending) (w' : World) : Prop :=
  ∃ r : Int, e = .returned (.int .i64 r) ∧ Below B w w' ∧ (r = -1 ∧ (∀ i, i < l.length → p (l.getD i 0) = false) ∨ ∃ k : Nat, r = k ∧ k < l.length ∧ p (l.getD k 0) = true ∧ ∀ i, i < k → p (l.getD i 0) = false)
set_option maxHeartbeats 1000000 in
theorem idxI_any (B : Nat) (A : Option Addr) (cap : Nat) (l : List Int) (fid : FuncId) (caps : Array Value) (p : Int → Bool) (w : World) (hlen : l.length ≤ 1000) (hB : B = w.heap.size) (h : Cells w B A (intCells l))
    (hcf : ∀ (u : World) (args : Array Value), (callFunc fid args).run Tryz.prog u = .ok (.enter fid args) u)
    (hcl : ∀ (i : Nat) (hi : i < l.length) (w' : World), Below B w w' → Calls Tryz.prog fid (#[.int .i64 l[i]] ++ caps) w' fun e w'' => e = .returned (.bool (p l[i])) ∧ Below w'.heap.size w' w'') :
    Calls Tryz.prog 71 #[.slice A l.length cap, .func (.func fid) #[] caps] w (IdxIPost p l B w) := by
  have H := Lib.hid h
  have Hcl := Lib.hid hcl
  have HBE := Lib.hid hB
  clear h hcl hB
  go_enter Tryz.func71, Tryz.ntmps71
  go_wp2_with fail
  go_loopg [8] l.length (fun k s8 wr => ∃ i : Nat, s8 = .int .i64 i ∧ i ≤ l.length ∧ k = l.length - i ∧ Below B w wr ∧ ∀ j, j < i → p (l.getD j 0) = false)
  case atStart => exact ⟨0, rfl, Nat.zero_le _, rfl, Below.refl _ _, fun j hj => absurd hj (by omega)⟩
  case round =>
    obtain ⟨i, rfl, hi, hk, hbw, hf⟩ := hrel
    have Hk := Lib.hid hk
    have Hf := Lib.hid hf
    have HB := Lib.hid hbw
    clear hk hf hbw
    by_cases hlt : i < l.length
    · have hlt' : (i : Int) < l.length := by omega
      obtain ⟨b, off, rfl, hb, hc⟩ := H.out.ints (by omega)
      have e0 := (HB.out.cell (p := ⟨b, off + i, none⟩) (by show b < B; exact hb)).trans (hc i hlt)
      have HV := Lib.hid (show l.getD i 0 = l[i] by rw [List.getD_eq_getElem?_getD, List.getElem?_eq_getElem hlt]; rfl)
      have HC := Lib.hid (Hcl.out i hlt wr HB.out)
      clear hc
      obtain ⟨v, hv⟩ : ∃ v, v = l[i] := ⟨_, rfl⟩
      rw [← hv] at e0 HV HC
      clear hv
      go_wp2_with fail
      refine HC.out.mono ?_
      rintro e w' ⟨rfl, hb2⟩
      have HB2 := Lib.hid (HB.out.trans (hb2.mono (by have := HB.out.size; have := HBE.out; omega)))
      clear hb2 e0 HC
      cases hp : p v with
      | true =>
        have HP := Lib.hid (show p (l.getD i 0) = true by rw [HV.out]; exact hp)
        clear hp
        go_wp2_with fail
        go_ret
        exact ⟨_, rfl, HB2.out, .inr ⟨i, rfl, hlt, HP.out, Hf.out⟩⟩
      | false =>
        have HP := Lib.hid (show p (l.getD i 0) = false by rw [HV.out]; exact hp)
        clear hp
        go_wp2_with fail
        go_roundg (l.length - (i + 1))
        case measure => rw [Hk.out]; omega
        case rel => exact ⟨i + 1, by go_num, by omega, rfl, HB2.out, fun j hj => by
          by_cases h : j = i
          · rw [h]; exact HP.out
          · exact Hf.out j (by omega)⟩
    · have hlt' : ¬ (i : Int) < l.length := by omega
      go_wp2_with fail
      go_ret
      exact ⟨_, rfl, HB.out, .inl ⟨rfl, fun j hj => Hf.out j (by omega)⟩⟩
theorem run_clearI {w : World} {g : Nat} {cs : Array Value} (hb : Blk w g 3 cs) (o n c : Nat) (ho : o + n ≤ cs.size) :
    ∃ w', (∀ ty, (Builtin.clear_ #[30] ty #[.slice (some ⟨g, o, none⟩) n c]).run Tryz.prog w = .ok (.tuple #[]) w') ∧ But [g] w w' ∧ ∃ cs' : Array Value, Blk w' g 3 cs' ∧ cs'.size = cs.size ∧ ∀ j, j < o → cs'[j]? = cs[j]? := by
  rcases n with _ | m
  · refine ⟨w, fun ty => ?_, But.refl _ _, cs, hb, rfl, fun _ _ => rfl⟩
    simp [Builtin.clear_, run_underlying Tryz.underlying30]
  · obtain ⟨zs, hzs⟩ : ∃ zs, zs = (Builtin.zeroCells (Value.int .i64 0).cells (m + 1)).toList := ⟨_, rfl⟩
    have hzl : zs.length = m + 1 := by rw [hzs]; simp [Builtin.zeroCells, Value.cells]
    have hz1 : ∀ v ∈ zs, v.oneCell' = true := by
      intro v hv
      rw [hzs] at hv
      simp [Builtin.zeroCells, Value.cells] at hv
      obtain ⟨i, _, rfl⟩ := hv
      rw [Nat.mod_one]
      rfl
    have hst := run_storeCells_cells (P := Tryz.prog) g o zs 0 w (fun j hj => by
      rw [hb.cell, Array.getElem?_eq_getElem (by omega)]; rfl) (fun j hj => hb.frozen _) hz1
    simp only [Nat.add_zero] at hst
    obtain ⟨h1, h2⟩ := setCells_blk zs o w cs hb
    refine ⟨w.setCells g o zs, fun ty => ?_, h1, h2⟩
    simp [Builtin.clear_, run_underlying Tryz.underlying30, ← hzs, hst]
/-- how many of the first j are kept -/
def keepN (p : Int → Bool) (l : List Int) (j : Nat) : Nat := (l.take j).countP fun x => !p x
theorem keepN_succ {p : Int → Bool} {l : List Int} {j : Nat} (hj : j < l.length) : keepN p l (j + 1) = keepN p l j + if p l[j] = true then 0 else 1 := by
  unfold keepN
  rw [List.take_succ_eq_append_getElem hj, List.countP_append]
  cases h : p l[j] <;> simp [h]
theorem keepN_le (p : Int → Bool) (l : List Int) (j : Nat) : keepN p l j ≤ j := Nat.le_trans List.countP_le_length (by simp; omega)
theorem keepN_pre {p : Int → Bool} {l : List Int} : ∀ {k : Nat}, k ≤ l.length → (∀ i, i < k → p (l.getD i 0) = false) → keepN p l k = k
  | 0, _, _ => by simp [keepN]
  | k + 1, hk, h => by
    have hv : l.getD k 0 = l[k] := by rw [List.getD_eq_getElem?_getD, List.getElem?_eq_getElem (by omega)]; rfl
    rw [keepN_succ (by omega), keepN_pre (by omega) fun i hi => h i (by omega), if_neg]
    rw [← hv, h k (by omega)]
    simp
set_option maxRecDepth 20000 in
set_option maxHeartbeats 2000000 in
theorem delI_any (B : Nat) (v : Value) (l : List Int) (fid : FuncId) (caps : Array Value) (p : Int → Bool) (w : World) (hlen : l.length ≤ 1000) (hown : w.ownsRow B 3 1 v l.length (intCells l)) (hB : B ≤ w.heap.size)
    (hcf : ∀ (u : World) (args : Array Value), (callFunc fid args).run Tryz.prog u = .ok (.enter fid args) u)
    (hcl : ∀ (i : Nat) (hi : i < l.length) (w' : World), Below B w w' → Calls Tryz.prog fid (#[.int .i64 l[i]] ++ caps) w' fun e w'' => e = .returned (.bool (p l[i])) ∧ Below w'.heap.size w' w'') :
    Calls Tryz.prog 27 #[v, .func (.func fid) #[] caps] w (fun e w' => ∃ A c, e = .returned (.slice A (keepN p l l.length) c) ∧ Below B w w') := by
  have HO := Lib.hid hown
  have HBB := Lib.hid hB
  have Hcl := Lib.hid hcl
  have HKL := Lib.hid (fun j => keepN_le p l j)
  have HKS := Lib.hid (fun j (hj : j < l.length) => keepN_succ (p := p) hj)
  have HKP := Lib.hid (fun k (hk : k ≤ l.length) h => keepN_pre (p := p) (l := l) (k := k) hk h)
  obtain ⟨A0, c0, rfl⟩ := own_slice hown
  clear hown hB hcl
  rcases Nat.eq_zero_or_pos l.length with h0 | hpos
  · have HI := Lib.hid (idxI_any w.heap.size A0 c0 l fid caps p w hlen rfl (fun hn => absurd hn (by simp [intCells, h0])) hcf (fun i hi => absurd hi (by omega)))
    have HK0 := Lib.hid (show keepN p l l.length = l.length by have := HKL.out l.length; omega)
    have HLZ := Lib.hid h0
    clear h0
    go_enter Tryz.func27, Tryz.ntmps27
    go_wp2_with fail
    refine HI.out.mono ?_
    rintro e w1 ⟨r, rfl, hb1, hr⟩
    have hr1 : r = -1 := by
      rcases hr with ⟨h, _⟩ | ⟨k, _, hk, _⟩
      · exact h
      · have := HLZ.out; omega
    subst hr1
    have HB1 := Lib.hid (hb1.mono HBB.out)
    clear hr hb1
    go_wp2_with fail
    go_ret
    rw [HK0.out]
    exact ⟨_, _, rfl, HB1.out⟩
  · obtain ⟨g, cap, R, e, hbg, hblk, hsz, hcap, _, hxl⟩ := own_blk HO.out hpos
    injection e with e1 _ e2
    subst e1 e2
    have HBL := Lib.hid hblk
    have HG := Lib.hid hbg
    have hglt := hblk.lt
    have hsz' : l.length + R.size = c0 := by simpa [intCells] using hsz
    have HI := Lib.hid (idxI_any w.heap.size (some ⟨g, 0, none⟩) c0 l fid caps p w hlen rfl (Cells.of_blk hblk |>.more hglt) hcf (fun i hi w' hb => Hcl.out i hi w' (hb.mono HBB.out)))
    have HCL2 := Lib.hid (fun i (hi : i < l.length) w' hb => Hcl.out i hi w' hb)
    clear hblk hbg hsz hxl Hcl HO
    go_enter Tryz.func27, Tryz.ntmps27
    go_wp2_with fail
    refine HI.out.mono ?_
    rintro e w1 ⟨r, rfl, hb1, hr⟩
    have HB1 := Lib.hid (hb1.mono HBB.out)
    have HBL1 := Lib.hid (HBL.out.below hb1 hglt)
    clear hb1 HI
    rcases hr with ⟨rfl, hall⟩ | ⟨k, rfl, hk, hpk, hpre⟩
    · have HK := Lib.hid (HKP.out l.length (Nat.le_refl _) hall)
      clear hall
      go_wp2_with fail
      go_ret
      rw [HK.out]
      exact ⟨_, _, rfl, HB1.out⟩
    · have HK0 := Lib.hid (show keepN p l (k + 1) = k by
        have hv : l.getD k 0 = l[k] := by rw [List.getD_eq_getElem?_getD, List.getElem?_eq_getElem hk]; rfl
        rw [HKS.out k hk, HKP.out k (by omega) hpre, ← hv, hpk, if_pos rfl]; rfl)
      have hkn : ((k : Int) == -1) = false := by rw [beq_eq_false_iff_ne]; omega
      have hk' : (k : Int) < l.length := by omega
      clear hpk hpre
      go_upto_region 4 with fail
      go_wp2_with fail
      go_loopg [5, 6] (l.length - (k + 1)) (fun m s5 s6 wr => ∃ (i j : Nat) (P : List Int), s5 = .int .i64 i ∧ s6 = .int .i64 j ∧ j ≤ l.length ∧ m = l.length - j ∧ i = keepN p l j ∧ i < j ∧ P.length = l.length ∧ (∀ t, j ≤ t → P[t]? = l[t]?) ∧ Blk wr g 3 ((intCells P).toArray ++ R) ∧ Below B w wr)
      case atStart => exact ⟨k, k + 1, l, rfl, by go_num, by omega, rfl, HK0.out.symm, by omega, rfl, fun _ _ => rfl, HBL1.out, HB1.out⟩
      case round =>
        obtain ⟨i, j, P, rfl, rfl, hj, hm, hik, hij, hPl, hPt, hbl, hbw⟩ := hrel
        have Hm := Lib.hid hm
        have HIK := Lib.hid hik
        have HPL := Lib.hid hPl
        have HPT := Lib.hid hPt
        have HB2 := Lib.hid hbl
        have HBW := Lib.hid hbw
        clear hm hik hPl hPt hbl hbw
        by_cases hjl : j < l.length
        · have hjl' : (j : Int) < l.length := by omega
          have hil' : (i : Int) < l.length := by omega
          have hjP : j < P.length := by rw [HPL.out]; exact hjl
          have hiP : i < P.length := by rw [HPL.out]; omega
          have zj := HB2.out.intR hjP
          have zi := HB2.out.intR hiP
          have fi := HB2.out.frozen i
          have HV := Lib.hid (show P.getD j 0 = l[j] by
            have := HPT.out j (Nat.le_refl _)
            rw [List.getD_eq_getElem?_getD, this, List.getElem?_eq_getElem hjl]; rfl)
          rw [HV.out] at zj
          have HKJ := Lib.hid (HKS.out j hjl)
          have HC := Lib.hid (HCL2.out j hjl wr HBW.out)
          have HSET := Lib.hid (fun w5 (hb : Blk w5 g 3 ((intCells P).toArray ++ R)) => hb.setIntR i l[j] hiP)
          obtain ⟨x, hx⟩ : ∃ x, x = l[j] := ⟨_, rfl⟩
          rw [← hx] at zj HKJ HC HSET
          have HX := Lib.hid hx
          obtain ⟨y, hy⟩ : ∃ y, y = P.getD i 0 := ⟨_, rfl⟩
          rw [← hy] at zi
          clear hx hy
          go_wp2_with fail
          refine HC.out.mono ?_
          rintro e w5 ⟨rfl, hb5⟩
          have hgw : g < wr.heap.size := HB2.out.lt
          have HB5 := Lib.hid (HB2.out.below hb5 hgw)
          have HBW5 := Lib.hid (HBW.out.trans (hb5.mono HBW.out.size |>.mono HBB.out))
          have zi5 := HB5.out.intR hiP
          have fi5 := HB5.out.frozen i
          clear hb5 zj zi fi HC
          cases hp : p x with
          | true =>
            have HKN := Lib.hid (show i = keepN p l (j + 1) by rw [HKJ.out, hp, if_pos rfl]; exact HIK.out)
            clear hp zi5 fi5
            go_wp2_with fail
            go_roundg (l.length - (j + 1))
            case measure => rw [Hm.out]; omega
            case rel => exact ⟨i, j + 1, P, rfl, by go_num, by omega, rfl, HKN.out, by omega, HPL.out, fun t ht => HPT.out t (by omega), HB5.out, HBW5.out⟩
          | false =>
            have HKN := Lib.hid (show i + 1 = keepN p l (j + 1) by rw [HKJ.out, hp, if_neg (by simp), ← HIK.out])
            have HB6 := Lib.hid (HSET.out w5 HB5.out)
            have HBW6 := Lib.hid (HBW5.out.trans ((But.set_ w5 (show g ∈ [g] by simp) i (.int .i64 x)).below (by have := HBW5.out.size; have := HBB.out; omega) (fun t ht => by have h9 : t = g := (by simpa using ht); have := HG.out; omega)))
            clear hp
            go_wp2_with fail
            go_roundg (l.length - (j + 1))
            case measure => rw [Hm.out]; omega
            case rel => exact ⟨i + 1, j + 1, P.set i x, by go_num, by go_num, by omega, rfl, HKN.out, by omega, by rw [List.length_set]; exact HPL.out, fun t ht => by rw [List.getElem?_set_ne (by omega)]; exact HPT.out t (by omega), HB6.out, HBW6.out⟩
        · have hje : j = l.length := by omega
          subst hje
          have hjl' : ¬ (l.length : Int) < l.length := by omega
          obtain ⟨w7, hrun, hbt, _⟩ := run_clearI HB2.out i (l.length - i) (c0 - i) (by simp [intCells]; have := HPL.out; omega)
          have hii : (i : Int) ≤ l.length := by omega
          have hi0 : (0 : Int) ≤ i := Int.natCast_nonneg i
          have hic : (i : Int) ≤ c0 := by omega
          have HBW7 := Lib.hid (HBW.out.trans (hbt.below (by have := HBW.out.size; have := HBB.out; omega) (fun t ht => by have h9 : t = g := (by simpa using ht); have := HG.out; omega)))
          clear hbt hjl
          go_upto_region 11 with fail
          go_wp2_with fail
          go_ret
          rw [← HIK.out]
          exact ⟨⟨_, _, rfl⟩, HBW7.out⟩
set_option maxRecDepth 20000 in
/-- a part is a tree -/
theorem tree_any (A1 A2 : Option Addr) (l1 l2 c1 c2 a : Nat) (w : World) (h1 : l1 ≤ 100000) (h2 : l2 ≤ 100000) :
    Calls Tryz.prog 31 #[.agg #[.slice A1 l1 c1, .slice A2 l2 c2, .int .i64 (a : Nat)]] w (fun e w' => e = .returned (.bool ((a : Int) == ((l1 : Int) + l2 - 1))) ∧ Below w.heap.size w w') := by
  go_enter Tryz.func31, Tryz.ntmps31
  go_wp2_with fail
  go_ret
  exact ⟨rfl, (Below.refl w.heap.size w).alloc (Nat.le_refl _) _⟩
end Go.Proofs.YtelcofkjpkdjiaaGreat
/-
  slices.Sort and slices.Compact over numbers: the shelf's contracts at this program (their layings printed by the kit's lay-plain.mjs, turned by shelft.py), and what is drawn from them. Written by an AI agent.
-/
namespace Go.Proofs.YtelcofkjpkdjiaaGreat
open Go.RowKit Go.Shelf Go.Sort

def lays189_ren : Go.Shelf.Ren := ⟨fun | 189 => 35 | 125 => 78 | 257 => 77 | 128 => 119 | 129 => 120 | 294 => 110 | 295 => 111 | 296 => 112 | 297 => 113 | 298 => 114 | 299 => 115 | 216 => 116 | 300 => 117 | 301 => 118 | 328 => 147 | 329 => 148 | 330 => 149 | 331 => 150 | 332 => 151 | 215 => 152 | 343 => 159 | n => n, fun | 28 => 30 | 3 => 3 | 46 => 128 | 0 => 0 | 51 => 176 | 53 => 165 | 4 => 4 | 183 => 169 | 182 => 168 | 131 => 112 | 5 => 5 | 9 => 9 | 218 => 198 | 222 => 202 | 228 => 208 | 229 => 209 | n => n, fun | n => n⟩
theorem lays189 : Go.Proofs.Lays.n189 Tryz.prog lays189_ren := {
  mixed := by kernel_rfl
  f125 := Tryz.func78.trans (congrArg some (by kernel_rfl))
  f128 := Tryz.func119.trans (congrArg some (by kernel_rfl))
  f129 := Tryz.func120.trans (congrArg some (by kernel_rfl))
  f189 := Tryz.func35.trans (congrArg some (by kernel_rfl))
  f215 := Tryz.func152.trans (congrArg some (by kernel_rfl))
  f216 := Tryz.func116.trans (congrArg some (by kernel_rfl))
  f257 := Tryz.func77.trans (congrArg some (by kernel_rfl))
  f294 := Tryz.func110.trans (congrArg some (by kernel_rfl))
  f295 := Tryz.func111.trans (congrArg some (by kernel_rfl))
  f296 := Tryz.func112.trans (congrArg some (by kernel_rfl))
  f297 := Tryz.func113.trans (congrArg some (by kernel_rfl))
  f298 := Tryz.func114.trans (congrArg some (by kernel_rfl))
  f299 := Tryz.func115.trans (congrArg some (by kernel_rfl))
  f300 := Tryz.func117.trans (congrArg some (by kernel_rfl))
  f301 := Tryz.func118.trans (congrArg some (by kernel_rfl))
  f328 := Tryz.func147.trans (congrArg some (by kernel_rfl))
  f329 := Tryz.func148.trans (congrArg some (by kernel_rfl))
  f330 := Tryz.func149.trans (congrArg some (by kernel_rfl))
  f331 := Tryz.func150.trans (congrArg some (by kernel_rfl))
  f332 := Tryz.func151.trans (congrArg some (by kernel_rfl))
  f343 := Tryz.func159.trans (congrArg some (by kernel_rfl))
  t0 := Tryz.underlying0
  a0 := Tryz.isAgg0
  z0 := Tryz.sizeOf0
  v0 := Tryz.zeroValue0
  t3 := Tryz.underlying3
  a3 := Tryz.isAgg3
  z3 := Tryz.sizeOf3
  v3 := Tryz.zeroValue3
  t4 := Tryz.underlying4
  a4 := Tryz.isAgg4
  z4 := Tryz.sizeOf4
  v4 := Tryz.zeroValue4
  t5 := Tryz.underlying5
  a5 := Tryz.isAgg5
  z5 := Tryz.sizeOf5
  v5 := Tryz.zeroValue5
  t9 := Tryz.underlying9
  a9 := Tryz.isAgg9
  z9 := Tryz.sizeOf9
  v9 := Tryz.zeroValue9
  t28 := Tryz.underlying30
  a28 := Tryz.isAgg30
  z28 := Tryz.sizeOf30
  v28 := Tryz.zeroValue30
  t46 := Tryz.underlying128
  a46 := Tryz.isAgg128
  z46 := Tryz.sizeOf128
  v46 := Tryz.zeroValue128
  t51 := Tryz.underlying176
  a51 := Tryz.isAgg176
  z51 := Tryz.sizeOf176
  v51 := Tryz.zeroValue176
  t53 := Tryz.underlying165
  a53 := Tryz.isAgg165
  z53 := Tryz.sizeOf165
  v53 := Tryz.zeroValue165
  t131 := Tryz.underlying112
  a131 := Tryz.isAgg112
  z131 := Tryz.sizeOf112
  v131 := Tryz.zeroValue112
  t182 := Tryz.underlying168
  a182 := Tryz.isAgg168
  z182 := Tryz.sizeOf168
  v182 := Tryz.zeroValue168
  t183 := Tryz.underlying169
  a183 := Tryz.isAgg169
  z183 := Tryz.sizeOf169
  v183 := Tryz.zeroValue169
  t218 := Tryz.underlying198
  a218 := Tryz.isAgg198
  z218 := Tryz.sizeOf198
  v218 := Tryz.zeroValue198
  t222 := Tryz.underlying202
  a222 := Tryz.isAgg202
  z222 := Tryz.sizeOf202
  v222 := Tryz.zeroValue202
  t228 := Tryz.underlying208
  a228 := Tryz.isAgg208
  z228 := Tryz.sizeOf208
  v228 := Tryz.zeroValue208
  t229 := Tryz.underlying209
  a229 := Tryz.isAgg209
  z229 := Tryz.sizeOf209
  v229 := Tryz.zeroValue209 }
def laysNm220_ren : Go.Shelf.Ren := ⟨fun | 20 => 36 | n => n, fun | 22 => 30 | 3 => 3 | 4 => 4 | 0 => 0 | n => n, fun | n => n⟩
theorem laysNm220 : Go.Proofs.Lays2.n20 Tryz.prog laysNm220_ren := {
  mixed := by kernel_rfl
  f20 := Tryz.func36.trans (congrArg some (by kernel_rfl))
  t0 := Tryz.underlying0
  a0 := Tryz.isAgg0
  z0 := Tryz.sizeOf0
  v0 := Tryz.zeroValue0
  t3 := Tryz.underlying3
  a3 := Tryz.isAgg3
  z3 := Tryz.sizeOf3
  v3 := Tryz.zeroValue3
  t4 := Tryz.underlying4
  a4 := Tryz.isAgg4
  z4 := Tryz.sizeOf4
  v4 := Tryz.zeroValue4
  t22 := Tryz.underlying30
  a22 := Tryz.isAgg30
  z22 := Tryz.sizeOf30
  v22 := Tryz.zeroValue30
  i3 := by kernel_rfl }

def leI (x y : Int) : Bool := decide (x ≤ y)
theorem below_put {B : Nat} {w : World} {g q : Nat} {d : Array Int} {os : Array Obj} (hg : B ≤ g) (hB : B ≤ w.heap.size) : Below B w (grow (putRow (Value.int .i64) (Sort.ahead w q) g 0 d) os) :=
  ⟨rfl, rfl, rfl, by simp [putRow, mapBlock, Sort.ahead], fun k hk => by
    rw [heap_grow_old _ _ (by simp [putRow, mapBlock, Sort.ahead]; omega)]
    simp [putRow, mapBlock, Sort.ahead, Array.getElem?_modify, show g ≠ k by omega]⟩
theorem comp_le (l : List Int) : (Lib.compact l).length ≤ l.length := by
  unfold Lib.compact Lib.compactUpTo
  rw [List.length_map]
  exact Nat.le_trans (List.length_filter_le _ _) (by simp)
theorem sortI_any (B g cap : Nat) (l : List Int) (w : World) (hH : Holds (Value.int .i64) w g 0 l.toArray) (hg : g < w.heap.size) (hB : B ≤ g) (hl : l.length ≤ 100000) :
    Calls Tryz.prog 35 #[.slice (some ⟨g, 0, none⟩) l.length cap] w (fun e w' => e = .returned (.tuple #[]) ∧ Below B w w' ∧ Holds (Value.int .i64) w' g 0 (l.mergeSort leI).toArray ∧ g < w'.heap.size) :=
  (Any.slices_Sort_int lays189 g 0 cap l w hH hg (by omega)).mono fun e w' ⟨he, n, os, hw⟩ => by
    subst hw
    exact ⟨he, below_put hB (by omega), holds_grow _ _ os g 0 _ (by simpa [putRow, mapBlock, Sort.ahead] using hg) (holds_putRow _ _ g 0 _ _ (holds_ahead _ w n g 0 _ hH) (by simp [leI])), by simp [putRow, mapBlock, Sort.ahead]; omega⟩
theorem sortI_none (a : Option Addr) (cap : Nat) (w : World) : Calls Tryz.prog 35 #[.slice a 0 cap] w (fun e w' => e = .returned (.tuple #[]) ∧ w = w') :=
  (Any.slices_Sort_int_none lays189 a cap w).mono fun e w' ⟨he, hw⟩ => ⟨he, hw.symm⟩
theorem compactI_any (B g cap : Nat) (l : List Int) (w : World) (hH : Holds (Value.int .i64) w g 0 l.toArray) (hg : g < w.heap.size) (hB : B ≤ g) (hl : l.length ≤ 100000) (hc : l.length ≤ cap) :
    Calls Tryz.prog 36 #[.slice (some ⟨g, 0, none⟩) l.length cap] w (fun e w' => e = .returned (.slice (some ⟨g, 0, none⟩) (Lib.compact l).length cap) ∧ Below B w w' ∧ Cells w' w'.heap.size (some ⟨g, 0, none⟩) (intCells (Lib.compact l))) :=
  (Any.slices_Compact_int laysNm220 g 0 cap l w hH (by omega) hc).mono fun e w' ⟨he, q, hw⟩ => by
    subst hw
    have hle := comp_le l
    have hh := holds_putRow (Value.int .i64) (Sort.ahead w q) g 0 l.toArray (Lib.compact l ++ List.replicate (l.length - (Lib.compact l).length) 0).toArray (holds_ahead _ w q g 0 _ hH) (by simp; omega)
    have hb := below_put (B := B) (w := w) (g := g) (q := q) (d := (Lib.compact l ++ List.replicate (l.length - (Lib.compact l).length) 0).toArray) (os := #[]) hB (by omega)
    rw [grow_empty] at hb
    refine ⟨he, hb, fun _ => ⟨g, 0, rfl, by simpa [putRow, mapBlock, Sort.ahead] using hg, fun j u hj => ?_⟩⟩
    have hjl : j < (Lib.compact l).length := by
      have := (List.getElem?_eq_some_iff.1 hj).1
      simpa [intCells] using this
    have h1 := (hh j (by simp; omega)).1
    rw [h1]
    have h2 : (intCells (Lib.compact l))[j]? = some (.int .i64 (Lib.compact l)[j]) := by simp [intCells, hjl]
    rw [h2] at hj
    injection hj with hj
    rw [← hj]
    congr 2
    rw [getElem!_pos _ j (by simp; omega)]
    simp [hjl]
theorem compactI_none (a : Option Addr) (cap : Nat) (w : World) : Calls Tryz.prog 36 #[.slice a 0 cap] w (fun e w' => e = .returned (.slice a 0 cap) ∧ w = w') :=
  (Any.slices_Compact_int_empty laysNm220 a cap w).mono fun e w' ⟨he, hw⟩ => ⟨he, hw.symm⟩
end Go.Proofs.YtelcofkjpkdjiaaGreat
/-
  Which faces can be the outer one, as forest.Outers reckons (plain). Written by an AI agent.
-/
namespace Go.Proofs.YtelcofkjpkdjiaaGreat
open Go.RowKit

def badK (tb : Bool) (ci : Nat) (fr : Int) : Bool := !tb || (decide (1 < ci) || (decide (ci = 0) && decide (0 ≤ fr)))
def freeF (tb : Nat → Bool) (ci : Nat → Nat) : Nat → Option Int
  | 0 => some (-1)
  | j + 1 => match freeF tb ci j with
    | none => none
    | some fr => if badK (tb j) (ci j) fr = true then none else if ci j = 0 then some (j : Int) else some fr
section
variable {tb : Nat → Bool} {ci : Nat → Nat}
theorem freeF_bad {j : Nat} {fr : Int} (h : freeF tb ci j = some fr) (hb : badK (tb j) (ci j) fr = true) : freeF tb ci (j + 1) = none := by
  unfold freeF
  rw [h]
  exact if_pos hb
theorem freeF_ok {j : Nat} {fr : Int} (h : freeF tb ci j = some fr) (hb : badK (tb j) (ci j) fr = false) : freeF tb ci (j + 1) = some (if ci j = 0 then (j : Int) else fr) := by
  rw [freeF, h]
  show (if badK (tb j) (ci j) fr = true then none else if ci j = 0 then some (j : Int) else some fr) = _
  rw [if_neg (by rw [hb]; simp)]
  split <;> rfl
theorem freeF_none {j : Nat} (h : freeF tb ci j = none) : ∀ {m : Nat}, j ≤ m → freeF tb ci m = none
  | 0, hm => by have : j = 0 := by omega
                subst this
                exact h
  | m + 1, hm => by
    by_cases e : j = m + 1
    · subst e; exact h
    · rw [freeF, freeF_none h (show j ≤ m by omega)]
theorem freeF_lt : ∀ {m : Nat} {fr : Int}, freeF tb ci m = some fr → -1 ≤ fr ∧ fr < m
  | 0, fr, h => by
    simp [freeF] at h
    omega
  | m + 1, fr, h => by
    cases hf : freeF tb ci m with
    | none => rw [freeF, hf] at h; cases h
    | some f0 =>
      have ih := freeF_lt hf
      by_cases hb : badK (tb m) (ci m) f0 = true
      · rw [freeF_bad hf hb] at h; cases h
      · rw [freeF_ok hf (by simpa using hb)] at h
        injection h with h
        split at h <;> omega
end
/-- the faces, among those told, at the vertex asked for -/
def selQ (s : Int) (fs : List Int) (Q : List Quad) : List Int := (Q.filter fun q => decide ((q.2.1 : Int) = s) && decide (0 ≤ idxF fs (q.2.2.1 : Nat))).map fun q => ((q.2.2.1 : Nat) : Int)
theorem selQ_succ {s : Int} {fs : List Int} {Q : List Quad} {i : Nat} (hi : i < Q.length) : selQ s fs (Q.take (i + 1)) = selQ s fs (Q.take i) ++ if (decide ((Q[i].2.1 : Int) = s) && decide (0 ≤ idxF fs (Q[i].2.2.1 : Nat))) = true then [((Q[i].2.2.1 : Nat) : Int)] else [] := by
  unfold selQ
  rw [List.take_succ_eq_append_getElem hi, List.filter_append, List.map_append]
  congr 1
  by_cases h : (decide ((Q[i].2.1 : Int) = s) && decide (0 ≤ idxF fs (Q[i].2.2.1 : Nat))) = true
  · rw [if_pos h]; simp [h]
  · rw [if_neg h]; simp [h]
theorem selQ_length (s : Int) (fs : List Int) (Q : List Quad) : (selQ s fs Q).length ≤ Q.length := by
  unfold selQ
  rw [List.length_map]
  exact List.length_filter_le _ _
/-- which part is a tree; how many of its vertices have edges -/
def treeK (ro : Nat → Nat) (H : List Quad) (F N k : Nat) : Bool := ((cA ro H k : Nat) : Int) == (((rlB ro F N (2 * k)).length : Nat) : Int) + (((rlB ro F N (2 * k + 1)).length : Nat) : Int) - 1
def innK (es : List (Int × Int)) (ro : Nat → Nat) (F N k : Nat) : Nat := keepN (bareX es) (rlB ro F N (2 * k + 1)) (rlB ro F N (2 * k + 1)).length
def outL (es : List (Int × Int)) (ro : Nat → Nat) (F N : Nat) (Q : List Quad) : List Int := match freeF (treeK ro (Q.filter hiQ) F N) (innK es ro F N) (pos ro F) with
  | none => []
  | some fr => if fr < 0 then [] else Lib.compact ((selQ ((bareVI N es Prod.snd).getD 0 0) (rlB ro F N (2 * fr.toNat)) Q).mergeSort leI)
def OutersQ (L : List Int) (w : World) (e : Ending) (w' : World) : Prop := ∃ A c, e = .returned (.slice A L.length c) ∧ Below w.heap.size w w' ∧ Cells w' w'.heap.size A (intCells L)
end Go.Proofs.YtelcofkjpkdjiaaGreat
/-
  forest.Outers: the faces at the source, told rising, each once. (Printed by outsgen.py.) Written by an AI agent.
-/
namespace Go.Proofs.YtelcofkjpkdjiaaGreat
open Go.RowKit

theorem PartM.part {w : World} {B m g cap : Nat} {rl : Nat → List Int} {an : Nat → Nat} {rv : Nat → Value} (h : PartM w B (.slice (some ⟨g, 0, none⟩) m cap) m rl an rv) {k j : Nat} (hk : k < m) (hj : j < 2) :
    ∃ A c, w.cell? ⟨g, 3 * k + j, none⟩ = some (.slice A (rl (2 * k + j)).length c) ∧ Cells w w.heap.size A (intCells (rl (2 * k + j))) := by
  have ho := h.row (i := 2 * k + j) (by omega)
  have hc := h.cell hk hj
  obtain ⟨A, c, e⟩ := own_slice ho
  rw [e] at hc ho
  exact ⟨A, c, hc, Cells.of_own ho⟩
set_option maxRecDepth 100000 in
set_option maxHeartbeats 4000000 in
theorem outersB (N cap ccap m cp fr gp B F : Nat) (A C : Option Addr) (es : List (Int × Int)) (rs : List (List Int)) (ro : Nat → Nat) (H : List Quad) (rv : Nat → Value) (src : Int) (w wc : World) (hS : SG w wc (N : Int) A cap es C rs) (hP : PartM wc B (.slice (some ⟨gp, 0, none⟩) m cp) m (rlB ro F N) (cA ro H) rv) (hfr : fr < m) (hr1 : rs.length ≤ 1000) (hr2 : ∀ l ∈ rs, l.length ≤ 1000) (L : List Int) (hL : L = Lib.compact ((selQ src (rlB ro F N (2 * fr)) (angR (N : Int) es rs)).mergeSort leI)) (hQl : (angR (N : Int) es rs).length ≤ 1000) (hFl : (rlB ro F N (2 * fr)).length ≤ 1000) (u0 u3 u6 u8 u9 u10 u12 u13 u14 u15 u16 u17 u18 u19 u20 u21 u22 u23 u24 u25 u26 u27 u28 u29 u30 u31 u32 u33 u34 u35 u36 u37 u38 u39 u40 u41 u42 u43 u44 u45 u46 u47 u48 u49 u50 u51 u52 u53 u54 u55 u56 u57 u58 u59 u60 u61 u62 u63 u64 u65 u66 u67 u68 u69 u70 u71 u72 u73 u74 u75 u76 u77 u78 u79 u80 u81 u82 u83 u84 u85 u86 u87 u88 u89 u90 u91 u92 : Value) (K : Act → World → Prop) (hK : ∀ a0 w0, Code.wp Tryz.prog (sndC (restC 7 ((Tryz.f11.body).getD .skip))) (bodyPost Tryz.prog Tryz.f11 (OutersQ L w)) a0 w0 → K a0 w0) (K4 : Act → World → Prop) (hK4 : ∀ a0 w0, Code.wp Tryz.prog (sndC (fstC (restC 7 ((Tryz.f11.body).getD .skip)))) (Exit.then K (bodyPost Tryz.prog Tryz.f11 (OutersQ L w))) a0 w0 → K4 a0 w0) : Code.wp Tryz.prog (fstC (fstC (restC 7 ((Tryz.f11.body).getD .skip)))) (Exit.then K4 (Exit.then K (bodyPost Tryz.prog Tryz.f11 (OutersQ L w)))) ⟨#[u0, .slice C rs.length ccap, .pointer (some ⟨w.heap.size, 0, none⟩), u3, .slice none 0 0, .slice (some ⟨gp, 0, none⟩) m cp, u6, .int .i64 (fr : Nat), u8, u9, u10, .int .i64 src, u12, u13, u14, u15, u16, u17, u18, u19, u20, u21, u22, u23, u24, u25, u26, u27, u28, u29, u30, u31, u32, u33, u34, u35, u36, u37, u38, u39, u40, u41, u42, u43, u44, u45, u46, u47, u48, u49, u50, u51, u52, u53, u54, u55, u56, u57, u58, u59, u60, u61, u62, u63, u64, u65, u66, u67, u68, u69, u70, u71, u72, u73, u74, u75, u76, u77, u78, u79, u80, u81, u82, u83, u84, u85, u86, u87, u88, u89, u90, u91, u92], []⟩ wc := by
  conv => arg 2; whnf
  conv at hK => intro a0 w0; arg 1; arg 2; whnf
  conv at hK4 => intro a0 w0; arg 1; arg 2; whnf
  have HS := Lib.hid hS
  have HP := Lib.hid hP
  have HR := Lib.hid (And.intro hr1 hr2)
  have HL := Lib.hid hL
  have g0 := HS.out.g0
  have g1 := HS.out.g1
  clear hS hP hr1 hr2 hL
  go_wp2_with fail
  refine (angs_any (N : Int) A C cap ccap es rs wc HS.out.es HS.out.rs HR.out.1 HR.out.2).mono ?_
  rintro e w2 ⟨A5, c5, rfl, hb2, hc2, _⟩
  have HP2 := Lib.hid (HP.out.below hb2 (Nat.le_refl _))
  have HBW2 := Lib.hid (HS.out.next hb2).below
  have HC2 := Lib.hid hc2
  clear hb2 hc2 g0 g1
  obtain ⟨Q, hQ⟩ : ∃ Q, Q = angR (N : Int) es rs := ⟨_, rfl⟩
  rw [← hQ] at HC2 HL hQl
  rw [← hQ]
  obtain ⟨fl, hfl⟩ : ∃ fl, fl = rlB ro F N (2 * fr) := ⟨_, rfl⟩
  rw [← hfl] at HL hFl
  have HFE := Lib.hid hfl
  clear hQ hfl
  go_wp2_with fail
  go_loopg [4, 65] Q.length (fun k s4 s65 wr => ∃ i : Nat, s65 = .int .i64 i ∧ i ≤ Q.length ∧ k = Q.length - i ∧ wr.ownsRow w2.heap.size 3 1 s4 (selQ src fl (Q.take i)).length (intCells (selQ src fl (Q.take i))) ∧ Below w2.heap.size w2 wr)
  case atStart => exact ⟨0, rfl, Nat.zero_le _, rfl, World.ownsRow_nil _ _ _ _, Below.refl _ _⟩
  case round =>
    obtain ⟨i, rfl, hi, hk, ho, hb⟩ := hrel
    have Hk := Lib.hid hk
    have HO := Lib.hid ho
    have HB := Lib.hid hb
    clear hk ho hb
    by_cases hlt : i < Q.length
    · have hlt' : (i : Int) < Q.length := by omega
      obtain ⟨bq, oq, rfl, hbq, hc⟩ := (HC2.out.below HB.out).quads (by omega)
      obtain ⟨q0, q1, q2, q3⟩ := hc i hlt
      have HST := Lib.hid (selQ_succ (s := src) (fs := fl) hlt)
      obtain ⟨qx, hqx⟩ : ∃ x, x = Q[i] := ⟨_, rfl⟩
      rw [← hqx] at q0 q1 q2 q3 HST
      clear hc hqx
      obtain ⟨qa, qb, qf, qd⟩ := qx
      simp only at q0 q1 q2 q3 HST
      have HAB := Lib.hid ((Below.refl wr.heap.size wr).alloc (Nat.le_refl _) (.cells #[.int .i64 (qa : Nat), .int .i64 (qb : Nat), .int .i64 (qf : Nat), .int .i64 (qd : Nat)] 68))
      have HBA := Lib.hid (Blk.new wr 68 #[.int .i64 (qa : Nat), .int .i64 (qb : Nat), .int .i64 (qf : Nat), .int .i64 (qd : Nat)])
      obtain ⟨gA, hgA⟩ : ∃ gA, gA = wr.heap.size := ⟨_, rfl⟩
      go_upto_region 19 with fail
      generalize wr.alloc (.cells #[.int .i64 (qa : Nat), .int .i64 (qb : Nat), .int .i64 (qf : Nat), .int .i64 (qd : Nat)] 68) = w6 at *
      have HO6 := Lib.hid (own_below HO.out HAB.out (Nat.le_refl _))
      have HB6 := Lib.hid (HB.out.trans (HAB.out.mono HB.out.size))
      have HP6 := Lib.hid ((HP2.out.below HB.out (Nat.le_refl _)).below HAB.out (Nat.le_refl _))
      rw [← hgA] at HBA
      rw [← hgA]
      clear q0 q1 q2 q3 HO HB HAB hgA
      have a1 := HBA.out.cell 1
      have a2 := HBA.out.cell 2
      simp only [List.getElem?_toArray, List.getElem?_cons_zero, List.getElem?_cons_succ] at a1 a2
      obtain ⟨Af, cf, zf, hcf⟩ := HP6.out.part (k := fr) (j := 0) hfr (by omega)
      rw [Nat.add_zero, Nat.add_zero, ← HFE.out] at zf
      rw [Nat.add_zero, ← HFE.out] at hcf
      rw [Nat.mul_comm 3 fr] at zf
      have hfr' : (fr : Int) < m := by omega
      have HCT := Lib.hid (fun k => containsI_any Af cf fl (qf : Nat) (w6.drewN k) ((hcf.below (below_drewN (Below.refl w6.heap.size w6) k)).more (below_drewN (Below.refl w6.heap.size w6) k).size) (by omega))
      obtain ⟨ix, hix⟩ : ∃ ix, ix = idxF fl (qf : Nat) := ⟨_, rfl⟩
      rw [← hix] at HCT HST
      clear hcf hix
      by_cases h1 : (qb : Int) = src
      · have hq1 : ((qb : Int) == src) = true := by rw [h1]; simp
        by_cases h2 : 0 ≤ ix
        · have HS2 := Lib.hid (show selQ src fl (Q.take (i + 1)) = selQ src fl (Q.take i) ++ [((qf : Nat) : Int)] by rw [HST.out, if_pos (by rw [decide_eq_true h1, decide_eq_true h2]; rfl)])
          have hd2 : decide (ix ≥ 0) = true := decide_eq_true h2
          rw [hd2] at HCT
          clear h1 h2 hd2
          go_quiet ((go_at_call_of 34 (Value.int .i64 (qf : Nat)); exact quiet_left (HCT.out _)))
          have hbn := below_drewN (Below.refl w6.heap.size w6) nq
          have how := own_below HO6.out hbn (Nat.le_refl _)
          have HB7 := Lib.hid (HB6.out.trans (hbn.mono HB6.out.size))
          have HBA7 := Lib.hid (HBA.out.below hbn HBA.out.lt)
          have hsz7 : w2.heap.size ≤ (w6.drewN nq).heap.size := HB7.out.size
          clear hbn a1 a2 zf HO6 HP6
          generalize w6.drewN nq = w7 at *
          have a2 := HBA7.out.cell 2
          simp only [List.getElem?_toArray, List.getElem?_cons_zero, List.getElem?_cons_succ] at a2
          have hle : (selQ src fl (Q.take i)).length ≤ i := Nat.le_trans (selQ_length _ _ _) (by simp; omega)
          obtain ⟨ln, hln⟩ : ∃ ln, ln = (selQ src fl (Q.take i)).length := ⟨_, rfl⟩
          rw [← hln] at how hle
          have HLN := Lib.hid hln
          clear hln
          go_wp2_with (at_builtin; refine wp_app elemInt rfl _ _ rfl w2.heap.size u4 ln _ rfl w7.heap.size [.int .i64 ((qf : Nat) : Int)] rfl rfl how rfl rfl ?a2 ?a3 ?a4 ?_)
          case a2 => omega
          case a3 => omega
          case a4 => exact hsz7
          intro v1 w8 ho hg hd
          have HO8 := Lib.hid (show w8.ownsRow w2.heap.size 3 1 v1 (selQ src fl (Q.take (i + 1))).length (intCells (selQ src fl (Q.take (i + 1)))) by
            rw [HS2.out, List.length_append, ← HLN.out]
            simpa [intCells] using ho)
          have HB8 := Lib.hid (HB7.out.trans ((Evo.of_grown (T := [3]) (B := w2.heap.size) how hg (by simp) (Nat.le_refl _)).below hsz7))
          clear ho hg hd how a2
          go_wp2_with fail
          go_roundg (Q.length - (i + 1))
          case measure => rw [Hk.out]; omega
          case rel => exact ⟨i + 1, by go_num, by omega, rfl, HO8.out, HB8.out⟩
        · have HS2 := Lib.hid (show selQ src fl (Q.take (i + 1)) = selQ src fl (Q.take i) by rw [HST.out, if_neg (by rw [decide_eq_false h2]; simp), List.append_nil])
          have hd2 : decide (ix ≥ 0) = false := decide_eq_false h2
          rw [hd2] at HCT
          clear h1 h2 hd2
          go_quiet ((go_at_call_of 34 (Value.int .i64 (qf : Nat)); exact quiet_left (HCT.out _)))
          have hbn := below_drewN (Below.refl w6.heap.size w6) nq
          have HO7 := Lib.hid (own_below HO6.out hbn (Nat.le_refl _))
          have HB7 := Lib.hid (HB6.out.trans (hbn.mono HB6.out.size))
          clear hbn
          go_wp2_with fail
          go_roundg (Q.length - (i + 1))
          case measure => rw [Hk.out]; omega
          case rel => exact ⟨i + 1, by go_num, by omega, rfl, by rw [HS2.out]; exact HO7.out, HB7.out⟩
      · have hq1 : ((qb : Int) == src) = false := by rw [beq_eq_false_iff_ne]; exact h1
        have HS2 := Lib.hid (show selQ src fl (Q.take (i + 1)) = selQ src fl (Q.take i) by rw [HST.out, if_neg (by rw [decide_eq_false h1]; simp), List.append_nil])
        clear h1
        go_quiet (fail)
        have hbn := below_drewN (Below.refl w6.heap.size w6) nq
        have HO7 := Lib.hid (own_below HO6.out hbn (Nat.le_refl _))
        have HB7 := Lib.hid (HB6.out.trans (hbn.mono HB6.out.size))
        clear hbn
        go_wp2_with fail
        go_roundg (Q.length - (i + 1))
        case measure => rw [Hk.out]; omega
        case rel => exact ⟨i + 1, by go_num, by omega, rfl, by rw [HS2.out]; exact HO7.out, HB7.out⟩
    · have hie : i = Q.length := by omega
      have hlt' : ¬ (i : Int) < Q.length := by omega
      have HOF := Lib.hid (show wr.ownsRow w2.heap.size 3 1 u4 (selQ src fl Q).length (intCells (selQ src fl Q)) by
        have := HO.out
        rw [hie, List.take_length] at this
        exact this)
      have hsl : (selQ src fl Q).length ≤ 1000 := Nat.le_trans (selQ_length _ _ _) hQl
      obtain ⟨S, hS⟩ : ∃ S, S = selQ src fl Q := ⟨_, rfl⟩
      rw [← hS] at HOF HL hsl
      clear hie hlt hi hS HO
      rcases Nat.eq_zero_or_pos S.length with h0 | hpos
      · obtain ⟨A4, c4, rfl⟩ := own_slice HOF.out
        have HLE := Lib.hid (show L.length = 0 ∧ intCells L = [] by
          have : S = [] := List.length_eq_zero_iff.1 h0
          rw [HL.out, this]
          have hc : Lib.compact (([] : List Int).mergeSort leI) = [] := by simp [Lib.compact, Lib.compactUpTo]
          rw [hc]
          exact ⟨rfl, rfl⟩)
        have HZ := Lib.hid h0
        clear h0 HOF HL hsl
        have hz : ∀ c, Value.slice A4 S.length c = Value.slice A4 0 c := fun c => by rw [HZ.out]
        rw [hz]
        clear hz
        go_wp2_with fail
        refine (sortI_none A4 c4 wr).mono ?_
        rintro e w9 ⟨rfl, rfl⟩
        go_wp2_with fail
        refine (compactI_none A4 c4 wr).mono ?_
        rintro e w9 ⟨rfl, rfl⟩
        go_wp2_with fail
        go_ret
        refine ⟨A4, c4, by rw [HLE.out.1]; rfl, HBW2.out.trans (HB.out.mono HBW2.out.size), ?_⟩
        rw [HLE.out.2]
        exact fun h => absurd h (by simp)
      · obtain ⟨gs, cs, R, rfl, hgs, hblk, _, hcs, _, _⟩ := own_blk HOF.out hpos
        have HHO := Lib.hid (show Sort.Holds (Value.int .i64) wr gs 0 S.toArray from fun j hj => by
          have hj2 : j < S.length := by simpa using hj
          rw [Nat.zero_add]
          refine ⟨?_, hblk.frozen j⟩
          rw [hblk.intR hj2, getElem!_pos _ j hj, List.getD_eq_getElem?_getD, List.getElem?_eq_getElem hj2]
          simp)
        have HGS := Lib.hid (And.intro hgs hblk.lt)
        have HLM := Lib.hid (show (S.mergeSort leI).length = S.length from List.length_mergeSort S)
        clear hblk hgs hpos HOF
        go_wp2_with fail
        refine (sortI_any w2.heap.size gs cs S wr HHO.out HGS.out.2 HGS.out.1 (by omega)).mono ?_
        rintro e w9 ⟨rfl, hb9, hh9, hg9⟩
        have HC := Lib.hid (compactI_any w2.heap.size gs cs (S.mergeSort leI) w9 hh9 hg9 HGS.out.1 (by rw [HLM.out]; omega) (by rw [HLM.out]; omega))
        rw [HLM.out, ← HL.out] at HC
        have HB9 := Lib.hid (HB.out.trans hb9)
        clear hb9 hh9 hg9 hcs
        go_wp2_with fail
        refine HC.out.mono ?_
        rintro e w10 ⟨rfl, hb10, hc10⟩
        have HB10 := Lib.hid (HBW2.out.trans ((HB9.out.trans hb10).mono HBW2.out.size))
        have HC10 := Lib.hid hc10
        clear hb10 hc10 HC
        go_wp2_with fail
        go_ret
        exact ⟨_, _, rfl, HB10.out, HC10.out⟩
end Go.Proofs.YtelcofkjpkdjiaaGreat
/-
  forest.Outers: its parts looked at, one by one. (Printed by outsgen.py.) Written by an AI agent.
-/
namespace Go.Proofs.YtelcofkjpkdjiaaGreat
open Go.RowKit

theorem outL_none {es : List (Int × Int)} {ro : Nat → Nat} {F N : Nat} {Q : List Quad} (h : freeF (treeK ro (Q.filter hiQ) F N) (innK es ro F N) (pos ro F) = none) : outL es ro F N Q = [] := by
  unfold outL; rw [h]
theorem outL_neg {es : List (Int × Int)} {ro : Nat → Nat} {F N : Nat} {Q : List Quad} {fr : Int} (h : freeF (treeK ro (Q.filter hiQ) F N) (innK es ro F N) (pos ro F) = some fr) (hn : fr < 0) : outL es ro F N Q = [] := by
  unfold outL; rw [h]; exact if_pos hn
theorem outL_pos {es : List (Int × Int)} {ro : Nat → Nat} {F N : Nat} {Q : List Quad} {fr : Nat} (h : freeF (treeK ro (Q.filter hiQ) F N) (innK es ro F N) (pos ro F) = some (fr : Int)) : outL es ro F N Q = Lib.compact ((selQ ((bareVI N es Prod.snd).getD 0 0) (rlB ro F N (2 * fr)) Q).mergeSort leI) := by
  unfold outL
  rw [h]
  show (if (fr : Int) < 0 then [] else _) = _
  rw [if_neg (by omega), Int.toNat_natCast]
theorem rlV_nat {ro : Nat → Nat} {F x k i : Nat} (hi : i < (rlV ro F x k).length) : ∃ y : Nat, y < x ∧ (rlV ro F x k)[i] = (y : Int) := by
  have hm := List.getElem_mem hi
  unfold rlV at hm
  obtain ⟨y, hy, e⟩ := List.mem_map.1 hm
  exact ⟨y, List.mem_range.1 (List.mem_filter.1 hy).1, e.symm⟩
theorem rlB_odd (ro : Nat → Nat) (F N k : Nat) : rlB ro F N (2 * k + 1) = rlV ro F N k := by
  unfold rlB
  rw [if_neg (by omega), show (2 * k + 1) / 2 = k by omega]
theorem rlB_even (ro : Nat → Nat) (F N k : Nat) : rlB ro F N (2 * k) = rlF ro F k := by
  unfold rlB
  rw [if_pos (by omega), show 2 * k / 2 = k by omega]
set_option maxRecDepth 100000 in
set_option maxHeartbeats 4000000 in
theorem outersA (N cap ccap m cp B F gc gv : Nat) (A C Ap : Option Addr) (es : List (Int × Int)) (rs : List (List Int)) (ro : Nat → Nat) (H : List Quad) (hH : H = (angR (N : Int) es rs).filter hiQ) (rv : Nat → Value) (w wc : World) (hS : SG w wc (N : Int) A cap es C rs) (hP : PartM wc B (.slice Ap m cp) m (rlB ro F N) (cA ro H) rv) (hm : m = pos ro F) (hc : wc.cell? ⟨gc, 0, none⟩ = some (.pointer (some ⟨gv, 0, none⟩))) (hgc : gc < wc.heap.size) (hv : ViewAt wc gv N es) (hr1 : rs.length ≤ 1000) (hr2 : ∀ l ∈ rs, l.length ≤ 1000) (hN : N ≤ 64) (hF : F ≤ 1000) (hes : es.length ≤ 1000) (hsrc : 0 < (bareVI N es Prod.snd).length) (L : List Int) (hL : L = outL es ro F N (angR (N : Int) es rs)) (hQl : (angR (N : Int) es rs).length ≤ 1000) (u0 u3 u8 u9 u10 u11 u12 u13 u14 u15 u16 u17 u18 u19 u20 u21 u22 u23 u24 u25 u26 u27 u28 u29 u30 u31 u32 u33 u34 u35 u36 u37 u38 u39 u40 u41 u42 u43 u44 u45 u46 u47 u48 u49 u50 u51 u52 u53 u54 u55 u56 u57 u58 u59 u60 u61 u62 u63 u64 u65 u66 u67 u68 u69 u70 u71 u72 u73 u74 u75 u76 u77 u78 u79 u80 u81 u82 u83 u84 u85 u86 u87 u88 u89 u90 u91 u92 : Value) (K : Act → World → Prop) (hK : ∀ a0 w0, Code.wp Tryz.prog (sndC (restC 4 ((Tryz.f11.body).getD .skip))) (bodyPost Tryz.prog Tryz.f11 (OutersQ L w)) a0 w0 → K a0 w0) (K4 : Act → World → Prop) (hK4 : ∀ a0 w0, Code.wp Tryz.prog (sndC (fstC (restC 4 ((Tryz.f11.body).getD .skip)))) (Exit.then K (bodyPost Tryz.prog Tryz.f11 (OutersQ L w))) a0 w0 → K4 a0 w0) : Code.wp Tryz.prog (fstC (fstC (restC 4 ((Tryz.f11.body).getD .skip)))) (Exit.then K4 (Exit.then K (bodyPost Tryz.prog Tryz.f11 (OutersQ L w)))) ⟨#[u0, .slice C rs.length ccap, .pointer (some ⟨w.heap.size, 0, none⟩), u3, .slice none 0 0, .slice Ap m cp, .pointer (some ⟨gc, 0, none⟩), .int .i64 (-1), u8, u9, u10, u11, u12, u13, u14, u15, u16, u17, u18, u19, u20, u21, u22, u23, u24, u25, u26, u27, u28, u29, u30, u31, u32, u33, u34, u35, u36, u37, u38, u39, u40, u41, u42, u43, u44, u45, u46, u47, u48, u49, u50, u51, u52, u53, u54, u55, u56, u57, u58, u59, u60, u61, u62, u63, u64, u65, u66, u67, u68, u69, u70, u71, u72, u73, u74, u75, u76, u77, u78, u79, u80, u81, u82, u83, u84, u85, u86, u87, u88, u89, u90, u91, u92], []⟩ wc := by
  conv => arg 2; whnf
  conv at hK => intro a0 w0; arg 1; arg 2; whnf
  conv at hK4 => intro a0 w0; arg 1; arg 2; whnf
  have HHE := Lib.hid hH
  have HS := Lib.hid hS
  have HP := Lib.hid hP
  have HMM := Lib.hid hm
  have HC := Lib.hid (And.intro hc hgc)
  have HV := Lib.hid hv
  have HR := Lib.hid (And.intro hr1 hr2)
  have HL := Lib.hid hL
  have HSRC := Lib.hid hsrc
  have HPF := Lib.hid (show m ≤ F by rw [hm]; exact pos_le F)
  have hmF : m ≤ 1000 := by have := HPF.out; omega
  clear hH hS hP hm hc hgc hv hr1 hr2 hL hsrc
  go_wp2_with fail
  go_loopg [4, 7, 21] m (fun k s4 s7 s21 wr => ∃ (j : Nat) (fr : Int), s4 = .slice none 0 0 ∧ s7 = .int .i64 fr ∧ s21 = .int .i64 j ∧ j ≤ m ∧ k = m - j ∧ freeF (treeK ro H F N) (innK es ro F N) j = some fr ∧ Below wc.heap.size wc wr)
  case atStart => exact ⟨0, -1, rfl, rfl, rfl, Nat.zero_le _, rfl, rfl, Below.refl _ _⟩
  case round =>
    obtain ⟨j, fr, rfl, rfl, rfl, hj, hk, hfr, hb⟩ := hrel
    have Hk := Lib.hid hk
    have HFR := Lib.hid hfr
    have HB := Lib.hid hb
    clear hk hfr hb
    have hbd := freeF_lt HFR.out
    by_cases hlt : j < m
    · have hlt' : (j : Int) < m := by omega
      obtain ⟨gp, cp2, hvp, _⟩ := HP.out.form (by omega)
      injection hvp with hv1 _ hv2
      subst hv1 hv2
      have HP1 := Lib.hid (HP.out.below HB.out (Nat.le_refl _))
      obtain ⟨A1, c1, z0, _⟩ := HP1.out.part (k := j) (j := 0) hlt (by omega)
      obtain ⟨A2, c2, z1, hc2⟩ := HP1.out.part (k := j) (j := 1) hlt (by omega)
      have z2 := HP1.out.cellN hlt
      rw [Nat.add_zero, Nat.add_zero] at z0
      rw [Nat.mul_comm 3 j] at z0 z1 z2
      have HTK := Lib.hid (show treeK ro H F N j = (((cA ro H j : Nat) : Int) == (((rlB ro F N (2 * j)).length : Nat) : Int) + (((rlB ro F N (2 * j + 1)).length : Nat) : Int) - 1) from rfl)
      have HIK := Lib.hid (show innK es ro F N j = keepN (bareX es) (rlB ro F N (2 * j + 1)) (rlB ro F N (2 * j + 1)).length from rfl)
      have HLN := Lib.hid (show ∀ i (hi : i < (rlB ro F N (2 * j + 1)).length), ∃ y : Nat, y < N ∧ (rlB ro F N (2 * j + 1))[i] = (y : Int) by
        rw [rlB_odd]
        exact fun i hi => rlV_nat hi)
      have hl0 : (rlB ro F N (2 * j)).length ≤ 1000 := by rw [rlB_even]; exact Nat.le_trans (rlF_length _ _) hF
      have hl1 : (rlB ro F N (2 * j + 1)).length ≤ 1000 := by rw [rlB_odd]; exact Nat.le_trans (rlV_length _ _ _) (by omega)
      obtain ⟨l0, hl0e⟩ : ∃ l, l = (rlB ro F N (2 * j)).length := ⟨_, rfl⟩
      obtain ⟨lv, hlv⟩ : ∃ l, l = rlB ro F N (2 * j + 1) := ⟨_, rfl⟩
      obtain ⟨ca, hca⟩ : ∃ c, c = cA ro H j := ⟨_, rfl⟩
      rw [← hl0e] at z0 hl0 HTK
      rw [← hlv] at z1 hl1 HTK HIK HLN hc2
      rw [← hca] at z2 HTK
      clear hl0e hlv hca
      have HC2 := Lib.hid hc2
      have HAB := Lib.hid ((Below.refl wr.heap.size wr).alloc (Nat.le_refl _) (.cells #[.slice A1 l0 c1, .slice A2 lv.length c2, .int .i64 (ca : Nat)] 55))
      have HBA := Lib.hid (Blk.new wr 55 #[.slice A1 l0 c1, .slice A2 lv.length c2, .int .i64 (ca : Nat)])
      obtain ⟨gA, hgA⟩ : ∃ gA, gA = wr.heap.size := ⟨_, rfl⟩
      clear hc2
      go_upto_region 7 with fail
      generalize wr.alloc (.cells #[.slice A1 l0 c1, .slice A2 lv.length c2, .int .i64 (ca : Nat)] 55) = w6 at *
      have HC6 := Lib.hid ((HC2.out.below HAB.out).more HAB.out.size)
      have HB6 := Lib.hid (HB.out.trans (HAB.out.mono HB.out.size))
      rw [← hgA] at HBA
      rw [← hgA]
      clear z0 z1 z2 HB HAB hgA HC2 HP1
      have b1 := HBA.out.cell 1
      simp only [List.getElem?_toArray, List.getElem?_cons_zero, List.getElem?_cons_succ] at b1
      go_wp2_with fail
      refine (clone_any A2 c2 lv w6 HC6.out hl1).mono ?_
      rintro e w7 ⟨v7, rfl, hb7, ho7⟩
      have HB7 := Lib.hid (HB6.out.trans (hb7.mono HB6.out.size))
      have HBA7 := Lib.hid (HBA.out.below hb7 HBA.out.lt)
      have HO7 := Lib.hid ho7
      have hs7 := hb7.size
      clear hb7 ho7 b1
      go_wp2_with fail
      refine (delI_any w6.heap.size v7 lv 29 #[.pointer (some ⟨gc, 0, none⟩)] (bareX es) w7 hl1 HO7.out hs7 callFunc_outs1 (fun i hi w' hb => by
        obtain ⟨y, hy, e⟩ := HLN.out i hi
        have hbw := HB7.out.trans (hb.mono HB6.out.size)
        have := outs1_any gc gv N y es w' ((hbw.cell (p := ⟨gc, 0, none⟩) HC.out.2).trans HC.out.1) (HV.out.below hbw (Nat.le_refl _)) hy hes
        rw [e]
        exact this)).mono ?_
      rintro e w8 ⟨A8, c8, rfl, hb8⟩
      rw [← HIK.out]
      have HB8 := Lib.hid (HB7.out.trans (hb8.mono HB6.out.size))
      have HBA8 := Lib.hid (HBA7.out.below hb8 HBA.out.lt)
      clear hb8 HBA7 HO7 HC6 hs7
      have b0 := HBA8.out.cell 0
      have b1 := HBA8.out.cell 1
      have b2 := HBA8.out.cell 2
      simp only [List.getElem?_toArray, List.getElem?_cons_zero, List.getElem?_cons_succ] at b0 b1 b2
      have HCB := Lib.hid (show innK es ro F N j ≤ 1000 by rw [HIK.out]; exact Nat.le_trans (keepN_le _ _ _) hl1)
      have HBAD := Lib.hid (fun hb => freeF_bad HFR.out hb)
      have HOK := Lib.hid (fun hb => freeF_ok HFR.out hb)
      have HNIL := Lib.hid (show freeF (treeK ro H F N) (innK es ro F N) (j + 1) = none → L.length = 0 ∧ intCells L = [] from fun h => by
        rw [HL.out, outL_none (by rw [← HHE.out, ← HMM.out]; exact freeF_none h (by omega))]
        exact ⟨rfl, rfl⟩)
      obtain ⟨ci, hci⟩ : ∃ c, c = innK es ro F N j := ⟨_, rfl⟩
      rw [← hci] at HCB HBAD HOK
      rw [← hci]
      have hcib := HCB.out
      clear hci HIK
      go_wp2_with fail
      refine (tree_any A1 A2 l0 lv.length c1 c2 ca w8 (by omega) (by omega)).mono ?_
      rintro e w9 ⟨rfl, hb9⟩
      rw [← HTK.out]
      have HB9 := Lib.hid (HB8.out.trans (hb9.mono HB8.out.size))
      obtain ⟨tv, htv⟩ : ∃ t, t = treeK ro H F N j := ⟨_, rfl⟩
      rw [← htv] at HBAD HOK
      rw [← htv]
      clear hb9 htv HTK b0 b1 b2 HBA8 HBA
      cases tv with
      | false =>
        have HZ := Lib.hid (HNIL.out (HBAD.out (by unfold badK; rfl)))
        go_wp2_with fail
        go_ret
        refine ⟨none, 0, by rw [HZ.out.1]; rfl, HS.out.below.trans (HB9.out.mono (Nat.le_of_lt HS.out.lt)), ?_⟩
        rw [HZ.out.2]
        exact fun h => absurd h (by simp)
      | true =>
        by_cases h1 : 1 < ci
        · have h1' : (1 : Int) < ci := by omega
          have HZ := Lib.hid (HNIL.out (HBAD.out (by unfold badK; rw [decide_eq_true h1]; rfl)))
          clear h1
          go_wp2_with fail
          go_ret
          refine ⟨none, 0, by rw [HZ.out.1]; rfl, HS.out.below.trans (HB9.out.mono (Nat.le_of_lt HS.out.lt)), ?_⟩
          rw [HZ.out.2]
          exact fun h => absurd h (by simp)
        · have h1' : ¬ (1 : Int) < ci := by omega
          by_cases h2 : ci = 0
          · have h2' : ((ci : Int) == 0) = true := by rw [h2]; rfl
            by_cases h3 : 0 ≤ fr
            · have HZ := Lib.hid (HNIL.out (HBAD.out (by unfold badK; rw [decide_eq_true h2, decide_eq_true h3]; simp)))
              clear h1 h2
              go_wp2_with fail
              go_ret
              refine ⟨none, 0, by rw [HZ.out.1]; rfl, HS.out.below.trans (HB9.out.mono (Nat.le_of_lt HS.out.lt)), ?_⟩
              rw [HZ.out.2]
              exact fun h => absurd h (by simp)
            · have HN := Lib.hid (show freeF (treeK ro H F N) (innK es ro F N) (j + 1) = some (j : Int) by
                rw [HOK.out (by unfold badK; rw [decide_eq_false h1, decide_eq_false h3]; simp), if_pos h2])
              clear h1 h2
              go_wp2_with fail
              go_roundg (m - (j + 1))
              case measure => rw [Hk.out]; omega
              case rel => exact ⟨j + 1, j, rfl, rfl, by go_num, by omega, rfl, HN.out, HB9.out⟩
          · have h2' : ((ci : Int) == 0) = false := by rw [beq_eq_false_iff_ne]; omega
            have HN := Lib.hid (show freeF (treeK ro H F N) (innK es ro F N) (j + 1) = some fr by
              rw [HOK.out (by unfold badK; rw [decide_eq_false h1, decide_eq_false h2]; simp), if_neg h2])
            clear h1 h2
            go_wp2_with fail
            go_roundg (m - (j + 1))
            case measure => rw [Hk.out]; omega
            case rel => exact ⟨j + 1, fr, rfl, rfl, by go_num, by omega, rfl, HN.out, HB9.out⟩
    · have hje : j = m := by omega
      subst hje
      have hlt' : ¬ (j : Int) < j := by omega
      by_cases h0 : fr < 0
      · have HZ := Lib.hid (show L.length = 0 ∧ intCells L = [] by
          rw [HL.out, outL_neg (by rw [← HHE.out, ← HMM.out]; exact HFR.out) h0]
          exact ⟨rfl, rfl⟩)
        clear hlt hj
        go_wp2_with fail
        go_ret
        refine ⟨none, 0, by rw [HZ.out.1]; rfl, HS.out.below.trans (HB.out.mono (Nat.le_of_lt HS.out.lt)), ?_⟩
        rw [HZ.out.2]
        exact fun h => absurd h (by simp)
      · obtain ⟨f, rfl⟩ : ∃ f : Nat, fr = (f : Int) := ⟨fr.toNat, by omega⟩
        have hfm : f < j := by omega
        have HLP := Lib.hid (show L = Lib.compact ((selQ ((bareVI N es Prod.snd).getD 0 0) (rlB ro F N (2 * f)) (angR (N : Int) es rs)).mergeSort leI) by
          rw [HL.out]
          exact outL_pos (by rw [← HHE.out, ← HMM.out]; exact HFR.out))
        obtain ⟨gp, cp2, hvp, _⟩ := HP.out.form (by omega)
        injection hvp with hv1 _ hv2
        subst hv1 hv2
        have zc := (HB.out.cell (p := ⟨gc, 0, none⟩) HC.out.2).trans HC.out.1
        have HV1 := Lib.hid (HV.out.below HB.out (Nat.le_refl _))
        clear hlt hj h0 hbd
        go_wp2_with fail
        refine (sources_any gv N es wr HV1.out (by omega) hes).mono ?_
        rintro e w9 ⟨v9, rfl, hb9, ho9⟩
        obtain ⟨A9, c9, rfl⟩ := own_slice ho9
        obtain ⟨b9, o9, rfl, hlt9, hcc9⟩ := (Cells.of_own ho9).ints HSRC.out
        have z9 := hcc9 0 HSRC.out
        have HSV := Lib.hid (show (bareVI N es Prod.snd).getD 0 0 = (bareVI N es Prod.snd)[0]'HSRC.out by rw [List.getD_eq_getElem?_getD, List.getElem?_eq_getElem HSRC.out]; rfl)
        rw [← HSV.out] at z9
        have hs0 : (0 : Int) < (bareVI N es Prod.snd).length := by have := HSRC.out; omega
        have HB9 := Lib.hid (HB.out.trans (hb9.mono HB.out.size))
        have S9 := Lib.hid (HS.out.next HB9.out)
        have HP9 := Lib.hid (HP.out.below HB9.out (Nat.le_refl _))
        clear hb9 ho9 hcc9 zc HV1 HSV
        generalize (bareVI N es Prod.snd).length = ns at *
        obtain ⟨src, hsv⟩ : ∃ s, s = (bareVI N es Prod.snd).getD 0 0 := ⟨_, rfl⟩
        rw [← hsv] at z9 HLP
        clear hsv
        rw [Nat.add_zero] at z9
        go_upto_region 16 with fail
        exact outersB N cap ccap j cp f gp B F A C es rs ro H rv src w w9 S9.out HP9.out hfm HR.out.1 HR.out.2 L HLP.out hQl (by rw [rlB_even]; exact Nat.le_trans (rlF_length _ _) hF) _ _ _ _ _ _ _ _ _ _ _ _ _ _ _ _ _ _ _ _ _ _ _ _ _ _ _ _ _ _ _ _ _ _ _ _ _ _ _ _ _ _ _ _ _ _ _ _ _ _ _ _ _ _ _ _ _ _ _ _ _ _ _ _ _ _ _ _ _ _ _ _ _ _ _ _ _ _ _ _ _ _ _ _ _ _ _ _ (by assumption) _ (by assumption)
end Go.Proofs.YtelcofkjpkdjiaaGreat
/-
  How many parts the web has: the counts (plain law). Written by an AI agent.
-/
namespace Go.Proofs.YtelcofkjpkdjiaaGreat
open Go.RowKit

def hasHigh (es : List (Int × Int)) (rs : List (List Int)) (x : Nat) : Prop := ∃ h, h < 2 * es.length ∧ vtx es h = x ∧ angK es rs h = 2
section
variable {n : Int} {es : List (Int × Int)} {rs : List (List Int)}
theorem high_odd {x : Nat} (h : hasHigh es rs x) : hasOdd es x := by
  obtain ⟨k, hk, hv, hh⟩ := h
  exact ⟨k, hk, hv, ((kindF_high _ _).1 hh).1⟩
/-- where all edges end, all angles are High -/
theorem sink_high (hR : RightP n es rs) {x : Nat} (ho : hasOdd es x) (hne : ¬ hasEven es x) : hasHigh es rs x := by
  obtain ⟨k, hk, hv, he⟩ := ho
  refine ⟨k, hk, hv, (kindF_high _ _).2 ⟨he, ?_⟩⟩
  obtain ⟨h1, h2⟩ := vtx_sig hR hk
  cases hs : ev (sig es rs k) with
  | false => rfl
  | true => exact absurd ⟨sig es rs k, h1, h2.trans hv, hs⟩ hne
theorem iso_zero (hR : RightP n es rs) (h1 : cls (Q es es.length) rs.length = 1) (he : 0 < es.length) : iso rs = 0 := by
  unfold iso
  rw [List.countP_eq_zero]
  intro x hx
  have hx := List.mem_range.1 hx
  rw [decide_eq_true_eq]
  intro h0
  have ht := touch (right_inN hR) h1 he hx
  have : ∃ k, k < 2 * es.length ∧ vtx es k = x := by
    rcases ht with ⟨k, hk, hv, _⟩ | ⟨k, hk, hv, _⟩ <;> exact ⟨k, hk, hv⟩
  obtain ⟨k, hk, hv⟩ := this
  obtain ⟨y, i, hy, hi, _, hvy⟩ := hR.pos hk
  have : y = x := by rw [← hvy, hv]
  subst this
  rw [List.getD_eq_getElem?_getD, List.getElem?_eq_getElem hy] at h0
  simp at h0
  rw [h0] at hi
  simp at hi
theorem faces_euler (h : askA n es rs = true) (he : 0 < es.length) : rs.length + (facesOf n es rs).length = es.length + 2 := by
  have hR := ask_right h
  have h1 := ask_one h
  have h2 := gen_spec hR (right_inN hR)
  have h3 := iso_zero hR h1 he
  have h4 : gen n es rs = 0 := by
    unfold askA at h
    simp only [Bool.and_eq_true, decide_eq_true_eq] at h
    exact h.2.1
  rw [h1, h3, h4] at h2
  omega
theorem src_one {N : Nat} (hG : GoodP N es) : (bareV N es Prod.snd).length = 1 := by
  have h1 := hG.src
  rw [Int.toNat_natCast] at h1
  have hin := may_inN hG.may
  obtain ⟨s, hs, _⟩ := good_conn hG
  have ho := hG.ord
  rw [Int.toNat_natCast] at ho
  obtain ⟨L, hL⟩ := rank_of_ord hin ho
  -- of least rank
  obtain ⟨m, _, ⟨x, hx, rfl⟩, hmin⟩ := least_of (P := fun k => ∃ x, x < N ∧ L x = k) ⟨s, hs, rfl⟩
  have : x ∈ bareV N es Prod.snd := mem_bareV.2 ⟨hx, fun i hi e => by
    have hm := getD_mem hi
    have hb := hin _ hm
    have hr := hL _ hm
    rw [e, Int.toNat_natCast] at hr
    exact hmin _ hr ⟨_, by omega, rfl⟩⟩
  have := List.length_pos_of_mem this
  omega
noncomputable def innerN (es : List (Int × Int)) (rs : List (List Int)) (N : Nat) : Nat := (List.range N).countP fun x => tst (hasHigh es rs x ∧ hasEven es x)
noncomputable def webV (es : List (Int × Int)) (rs : List (List Int)) (N : Nat) : Nat := (List.range N).countP fun x => tst (hasHigh es rs x)
/-- faces and vertices of the web, less its angles: the inner vertices and one -/
theorem count_law (h : faskB n es rs = true) (hb : bimB rs = true) (he : 0 < es.length) : (facesOf n es rs).length + webV es rs rs.length = (List.range (2 * es.length)).countP (fun h => decide (angK es rs h = 2)) + innerN es rs rs.length + 1 := by
  have ha := fask_ask h
  have hR := ask_right ha
  have hin := right_inN hR
  have hG := fask_good h
  rw [show n = (rs.length : Int) from hR.len.symm] at hG
  have h1 := faces_euler ha he
  have h2 := high_count hR hin ((bim_iff hR).1 hb)
  have h3 := ends_count hin (ask_one ha) he
  have h4 := src_one hG
  have h5 : webV es rs rs.length = innerN es rs rs.length + (bareV rs.length es Prod.fst).length := by
    unfold webV innerN
    rw [snk_count hin, countP_split _ (fun x => tst (hasHigh es rs x)) (fun x => tst (hasEven es x))]
    congr 1
    · refine count_congr fun x _ => ?_
      rw [Bool.eq_iff_iff, Bool.and_eq_true, tst_iff, tst_iff, tst_iff]
    · refine count_congr fun x hx => ?_
      rw [Bool.eq_iff_iff, Bool.and_eq_true, tst_iff, tst_iff, Bool.not_eq_true', tst_not]
      constructor
      · exact fun h => h.2
      · intro hne
        rcases touch hin (ask_one ha) he hx with ho | ho
        · exact ⟨sink_high hR ho hne, hne⟩
        · exact absurd ho hne
  unfold endsL at h3
  rw [List.length_append, h4] at h3
  omega
end
end Go.Proofs.YtelcofkjpkdjiaaGreat
/-
  forest.Outers, whole. (Printed by outsgen.py.) Written by an AI agent.
-/
namespace Go.Proofs.YtelcofkjpkdjiaaGreat
open Go.RowKit

noncomputable def roR (n : Int) (es : List (Int × Int)) (rs : List (List Int)) : Nat → Nat := roH (facesOf n es rs).length ((angR n es rs).filter hiQ)
noncomputable def outR (n : Int) (es : List (Int × Int)) (rs : List (List Int)) : List Int := if faskB n es rs = true then outL es (roR n es rs) (facesOf n es rs).length rs.length (angR n es rs) else []
set_option maxRecDepth 100000 in
set_option maxHeartbeats 4000000 in
theorem fOuters_any (n : Int) (A C : Option Addr) (cap ccap : Nat) (es : List (Int × Int)) (rs : List (List Int)) (w : World) (hes : Cells w w.heap.size A (edgeCells es)) (hrs : RowsAt w w.heap.size C rs) (hr1 : rs.length ≤ 1000) (hr2 : ∀ l ∈ rs, l.length ≤ 1000) (hcap : es.length ≤ cap) :
    Calls Tryz.prog 11 #[.agg #[.int .i64 n, .slice A es.length cap], .slice C rs.length ccap] w (OutersQ (outR n es rs) w) := by
  have S1 := Lib.hid (SG.start n cap hes hrs)
  have HR2 := Lib.hid hr2
  clear hes hrs hr2
  cases hf : faskB n es rs with
  | false =>
    have HF := Lib.hid hf
    have HL := Lib.hid (show outR n es rs = [] by unfold outR; rw [hf]; rfl)
    clear hf
    go_enter Tryz.func11, Tryz.ntmps11
    go_upto_region 1 with fail
    generalize w.alloc (.cells #[.int .i64 n, .slice A es.length cap] 24) = w1 at *
    have g0 := S1.out.g0
    have g1 := S1.out.g1
    go_wp2_with fail
    refine (fParts_any n A C cap ccap es rs w1 S1.out.es S1.out.rs hr1 HR2.out hcap).mono ?_
    rintro e w2 ⟨v, rfl, hb2, hv, _⟩
    obtain rfl := hv HF.out
    have S2 := Lib.hid (S1.out.next hb2)
    have g0 := S2.out.g0
    have g1 := S2.out.g1
    clear hb2 S1
    go_wp2_with fail
    refine (view_any n A cap es w2 S2.out.es).mono ?_
    rintro e w3 ⟨gv, rfl, hb3, _⟩
    have S3 := Lib.hid (S2.out.next hb3)
    have hb4 := (Below.refl w3.heap.size w3).alloc (Nat.le_refl _) (.cells #[.pointer (some ⟨gv, 0, none⟩)] 58)
    have S4 := Lib.hid (S3.out.next hb4)
    clear hb3 hb4 S2 S3 g0 g1
    go_upto_region 4 with fail
    generalize w3.alloc (.cells #[.pointer (some ⟨gv, 0, none⟩)] 58) = w4 at *
    go_wp2_with fail
    go_loopg [7, 21] 0 (fun k s7 s21 wr => s7 = .int .i64 (-1) ∧ s21 = .int .i64 0 ∧ w4 = wr)
    case atStart => exact ⟨rfl, rfl, rfl⟩
    case round =>
      obtain ⟨rfl, rfl, rfl⟩ := hrel
      go_wp2_with fail
      go_ret
      rw [HL.out]
      exact ⟨none, 0, rfl, S4.out.below, fun h => absurd h (by simp [intCells])⟩
  | true =>
    have hA := fask_ask hf
    have hP := ask_right hA
    have hn : n = (rs.length : Int) := hP.len.symm
    subst hn
    have hm := may_parts hP.may
    have hfl := faces_le hP
    have HF := Lib.hid hf
    have HM := Lib.hid hP.may
    have HL := Lib.hid (show outR (rs.length : Int) es rs = outL es (roH (facesOf (rs.length : Int) es rs).length ((angR (rs.length : Int) es rs).filter hiQ)) (facesOf (rs.length : Int) es rs).length rs.length (angR (rs.length : Int) es rs) by unfold outR roR; rw [if_pos hf])
    have HB := Lib.hid (show rs.length ≤ 64 ∧ (facesOf (rs.length : Int) es rs).length ≤ 1000 ∧ es.length ≤ 1000 ∧ (angR (rs.length : Int) es rs).length ≤ 1000 by
      rw [angR_length hA]
      omega)
    have HSR := Lib.hid (show 0 < (bareVI rs.length es Prod.snd).length by
      unfold bareVI
      rw [List.length_map, src_one (fask_good hf)]
      omega)
    clear hm hfl hA hP hf
    go_enter Tryz.func11, Tryz.ntmps11
    go_upto_region 1 with fail
    generalize w.alloc (.cells #[.int .i64 (rs.length : Int), .slice A es.length cap] 24) = w1 at *
    have g0 := S1.out.g0
    have g1 := S1.out.g1
    go_wp2_with fail
    refine (fParts_any (rs.length : Int) A C cap ccap es rs w1 S1.out.es S1.out.rs hr1 HR2.out hcap).mono ?_
    rintro e w2 ⟨v, rfl, hb2, _, hv⟩
    obtain ⟨rv, hpm⟩ := hv HF.out
    obtain ⟨Ap, cp, rfl⟩ := own_slice hpm.own
    have HPM := Lib.hid hpm
    have S2 := Lib.hid (S1.out.next hb2)
    have g0 := S2.out.g0
    have g1 := S2.out.g1
    clear hb2 S1 hpm hv
    go_wp2_with fail
    refine (view_any (rs.length : Int) A cap es w2 S2.out.es).mono ?_
    rintro e w3 ⟨gv, rfl, hb3, hvw⟩
    rw [show vN (rs.length : Int) es = rs.length by rw [vN, if_pos HM.out, Int.toNat_natCast], show vE (rs.length : Int) es = es by rw [vE, if_pos HM.out]] at hvw
    have S3 := Lib.hid (S2.out.next hb3)
    have hb4 := (Below.refl w3.heap.size w3).alloc (Nat.le_refl _) (.cells #[.pointer (some ⟨gv, 0, none⟩)] 58)
    have S4 := Lib.hid (S3.out.next hb4)
    have HV4 := Lib.hid (hvw.below hb4 (Nat.le_refl _))
    have HC4 := Lib.hid (Blk.new w3 58 #[.pointer (some ⟨gv, 0, none⟩)])
    have HP4 := Lib.hid ((HPM.out.below hb3 (Nat.le_refl _)).below hb4 (Nat.le_refl _))
    clear hb3 hb4 S2 S3 g0 g1 hvw HPM
    go_upto_region 4 with fail
    exact outersA rs.length cap ccap _ cp _ (facesOf (rs.length : Int) es rs).length w3.heap.size gv A C Ap es rs _ _ rfl rv w _ S4.out HP4.out rfl (HC4.out.cell 0) HC4.out.lt HV4.out hr1 HR2.out HB.out.1 HB.out.2.1 HB.out.2.2.1 HSR.out _ HL.out HB.out.2.2.2 _ _ _ _ _ _ _ _ _ _ _ _ _ _ _ _ _ _ _ _ _ _ _ _ _ _ _ _ _ _ _ _ _ _ _ _ _ _ _ _ _ _ _ _ _ _ _ _ _ _ _ _ _ _ _ _ _ _ _ _ _ _ _ _ _ _ _ _ _ _ _ _ _ _ _ _ _ _ _ _ _ _ _ _ _ _ _ _ (by assumption) _ (by assumption)
end Go.Proofs.YtelcofkjpkdjiaaGreat
