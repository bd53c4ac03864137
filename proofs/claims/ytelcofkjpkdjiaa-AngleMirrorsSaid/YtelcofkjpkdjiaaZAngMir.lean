import Derived.Test.YtelcofkjpkdjiaaZAsg
import Derived.Test.YtelcofkjpkdjiaaZMir
/-
  Law AngleMirrors: walked. Written by an AI agent.
-/
namespace Go.Proofs.Ytelcofkjpkdjiaa
open Go.RowKit

def FlagPost (b : Bool) (w : World) (e : Ending) (w' : World) : Prop := ∃ (f : Int) (v : Value), e = .returned (.tuple #[.int .i64 f, v, .bool b]) ∧ Below w.heap.size w w'
theorem ass_flag {r : Option (Nat × List Int)} {n : Nat} {w w' : World} {e : Ending} (h : AssPost r n w e w') : FlagPost r.isSome w e w' := by
  obtain ⟨hb, h⟩ := h
  match r, h with
  | none, h => exact ⟨0, _, h, hb⟩
  | some (f, G), ⟨g, h, _⟩ => exact ⟨f, _, h, hb⟩
theorem flag_any (n : Int) (A C : Option Addr) (cap ccap : Nat) (es : List (Int × Int)) (rs : List (List Int)) (w : World) (hes : Cells w w.heap.size A (edgeCells es)) (hrs : RowsAt w w.heap.size C rs) (hr1 : rs.length ≤ 1000) (hr2 : ∀ l ∈ rs, l.length ≤ 1000) :
    Calls Try.prog 16 #[.agg #[.int .i64 n, .slice A es.length cap], .slice C rs.length ccap] w (FlagPost (assignR n es rs).isSome w) :=
  (assign_any n A C cap ccap es rs w hes hrs hr1 hr2).mono fun _ _ h => ass_flag h
theorem edge_take {es : List (Int × Int)} {i : Nat} (hi : i < es.length) : edgeCells ((flipE es).take (i + 1)) = edgeCells ((flipE es).take i) ++ [.int .i64 es[i].2, .int .i64 es[i].1] := by
  rw [List.take_succ_eq_append_getElem (by rw [flipE_length]; exact hi)]
  simp [edgeCells, flipE]
theorem flipR_take {rs : List (List Int)} {i : Nat} (hi : i < rs.length) : flipR (rs.take (i + 1)) = flipR (rs.take i) ++ [flipL rs[i]] := by
  rw [List.take_succ_eq_append_getElem hi]
  unfold flipR
  rw [List.map_append]
  rfl
theorem flipL_take {l : List Int} {i d : Nat} (hi : i < l.length) (hd : l[i] = (d : Int)) : flipL (l.take (i + 1)) = flipL (l.take i) ++ [((ot d : Nat) : Int)] := by
  rw [List.take_succ_eq_append_getElem hi]
  simp [flipL, hd]
theorem flipL_le {rs : List (List Int)} (h : ∀ l ∈ rs, l.length ≤ 1000) : ∀ l ∈ flipR rs, l.length ≤ 1000 := fun l hl => by
  unfold flipR at hl
  obtain ⟨a, ha, rfl⟩ := List.mem_map.1 hl
  rw [flipL_length]
  exact h a ha
theorem mir_le {rs : List (List Int)} (h : ∀ l ∈ rs, l.length ≤ 1000) : ∀ l ∈ mir rs, l.length ≤ 1000 := fun l hl => by
  unfold mir at hl
  obtain ⟨a, ha, rfl⟩ := List.mem_map.1 hl
  rw [List.length_reverse]
  exact h a ha
set_option maxRecDepth 20000 in
set_option maxHeartbeats 8000000 in
theorem angMir_any (n : Int) (A C : Option Addr) (cap ccap : Nat) (es : List (Int × Int)) (rs : List (List Int)) (w : World) (hes : Cells w w.heap.size A (edgeCells es)) (hrs : RowsAt w w.heap.size C rs) :
    Calls Try.prog 6 #[.agg #[.int .i64 n, .slice A es.length cap], .slice C rs.length ccap] w (fun e w' => e = .returned (.bool true) ∧ Below w.heap.size w w') := by
  have S1 := Lib.hid (SG.start n cap hes hrs)
  clear hes hrs
  go_enter Try.func6, Try.ntmps6
  go_upto_region 1 with fail
  generalize w.alloc (.cells #[.int .i64 n, .slice A es.length cap] 24) = w1 at *
  go_wp2_with fail
  refine (speaks6_any w1).mono ?_
  rintro e w2 ⟨rfl, hb2⟩
  have S2 := Lib.hid (S1.out.next hb2)
  have g0 := S2.out.g0
  have g1 := S2.out.g1
  clear hb2 S1
  go_wp2_with fail
  refine (great2_any n A C cap ccap es rs 40 w2 S2.out.rs).mono ?_
  rintro e w3 ⟨b, rfl, hb3, hgr⟩
  have S3 := Lib.hid (S2.out.next hb3)
  clear hb3 S2 g0 g1
  have g0 := S3.out.g0
  have g1 := S3.out.g1
  cases b with
  | true =>
    clear hgr
    go_wp2_with fail
    go_ret
    exact ⟨rfl, S3.out.below⟩
  | false =>
    obtain ⟨h1, h2, h3⟩ := hgr rfl
    have hr1 : rs.length ≤ 1000 := by omega
    have HR2 := Lib.hid (show ∀ l ∈ rs, l.length ≤ 1000 from fun l hl => by have := h3 l hl; omega)
    clear hgr h3
    have hodd := odd_any n A C cap ccap es rs w3 S3.out.es S3.out.rs hr1 HR2.out
    go_wp2_with fail
    refine hodd.mono ?_
    rintro e w4 ⟨rfl, hb4⟩
    have S4 := Lib.hid (S3.out.next hb4)
    clear hb4 g0 g1 hodd
    have g0 := S4.out.g0
    have g1 := S4.out.g1
    cases ha : askA n es rs with
    | false =>
      clear ha
      go_wp2_with fail
      go_ret
      exact ⟨rfl, S4.out.below⟩
    | true =>
      have HA := Lib.hid ha
      have HP := Lib.hid (ask_right ha)
      have HBM := Lib.hid (show (askA n es rs && bimB rs) = bimB rs by rw [ha]; rfl)
      have HBX := Lib.hid (show (askA n (flipE es) (flipR rs) && bimB (flipR rs)) = bimB rs by rw [ask_flip ha, bim_flip (ask_right ha)]; rfl)
      have HFM := Lib.hid (assign_mir ha)
      have HFX := Lib.hid (assign_flip ha)
      clear ha
      have hfl := flag_any n A C cap ccap es rs w4 S4.out.es S4.out.rs hr1 HR2.out
      have HMI := Lib.hid (fun W (h1 : Cells W W.heap.size A (edgeCells es)) C' c' (h2 : RowsAt W W.heap.size C' (mir rs)) => by
        have h3 := flag_any n A C' cap c' es (mir rs) W h1 h2 (by rw [mir_length]; exact hr1) (mir_le HR2.out)
        rw [mir_length, HFM.out] at h3
        exact h3)
      have HXI := Lib.hid (fun W A' cA (h1 : Cells W W.heap.size A' (edgeCells (flipE es))) C' c' (h2 : RowsAt W W.heap.size C' (flipR rs)) => by
        have h3 := flag_any n A' C' cA c' (flipE es) (flipR rs) W h1 h2 (by rw [flipR_length]; exact hr1) (flipL_le HR2.out)
        rw [flipR_length, flipE_length, HFX.out] at h3
        exact h3)
      have HXB := Lib.hid (fun W A' cA (h1 : Cells W W.heap.size A' (edgeCells (flipE es))) C' c' (h2 : RowsAt W W.heap.size C' (flipR rs)) => by
        have h3 := bimo_any n A' C' cA c' (flipE es) (flipR rs) W h1 h2 (by rw [flipR_length]; exact hr1) (flipL_le HR2.out)
        rw [flipR_length, flipE_length, HBX.out] at h3
        exact h3)
      have HBI := Lib.hid (fun W (h1 : Cells W W.heap.size A (edgeCells es)) (h2 : RowsAt W W.heap.size C rs) => by
        have h3 := bimo_any n A C cap ccap es rs W h1 h2 hr1 HR2.out
        rw [HBM.out] at h3
        exact h3)
      obtain ⟨t, ht⟩ : ∃ t, t = (assignR n es rs).isSome := ⟨_, rfl⟩
      rw [← ht] at hfl HMI HXI
      obtain ⟨bm, hbm⟩ : ∃ bm, bm = bimB rs := ⟨_, rfl⟩
      rw [← hbm] at HXB HBI
      clear ht HFM HFX HBM HBX hbm
      go_wp2_with fail
      refine hfl.mono ?_
      rintro e w5 ⟨f5, v5, rfl, hb5⟩
      have S5 := Lib.hid (S4.out.next hb5)
      clear hfl hb5 g0 g1
      have g0 := S5.out.g0
      have g1 := S5.out.g1
      have hl5 := S5.out.lt
      have KS := Lib.hid (show ∀ w', Below w5.heap.size w5 w' → w'.cell? ⟨w.heap.size, 0, none⟩ = some (.int .i64 n) ∧ w'.cell? ⟨w.heap.size, 1, none⟩ = some (.slice A es.length cap) from fun w' h => ⟨(h.cell (p := ⟨w.heap.size, 0, none⟩) hl5).trans g0, (h.cell (p := ⟨w.heap.size, 1, none⟩) hl5).trans g1⟩)
      go_upto_region 6 with fail
      go_region_held3 (fun w' => w'.cell? ⟨w.heap.size, 0, none⟩ = some (.int .i64 n) ∧ w'.cell? ⟨w.heap.size, 1, none⟩ = some (.slice A es.length cap))
        (first | exact ⟨g0, g1⟩ | exact KS.out _ hb67 | exact KS.out _ hb6)
        (first
          | (go_at_call 21; refine (mirror_any C ccap rs _ (by exact S5.out.rs) hr1 HR2.out).mono ?_; rintro e w6 ⟨A6, c6, rfl, hb6', hc6⟩; have hb6 := below_undrew hb6'; clear hb6')
          | (go_at_call 16; refine (HMI.out _ (by exact (S5.out.next hb6).es) _ _ hc6.at_).mono ?_; rintro e w7 ⟨f7, v7, rfl, hb7⟩; have hb67 := hb6.trans (hb7.mono hb6.size)))
      have S7 := Lib.hid (S5.out.next hb67)
      clear hb6 hb7 hb67 hc6 g0 g1 KS hl5
      have g0 := S7.out.g0
      have g1 := S7.out.g1
      have HX8 := Lib.hid (Blk.new w7 24 #[.int .i64 n, .slice none 0 0])
      have hb8 := (Below.refl w7.heap.size w7).alloc (Nat.le_refl _) (.cells #[.int .i64 n, .slice none 0 0] 24)
      have hz8 := World.size_alloc w7 (.cells #[.int .i64 n, .slice none 0 0] 24)
      have HB78 := Lib.hid hb8
      clear hb8
      go_upto_region 8 with fail
      obtain ⟨gx, hgx⟩ : ∃ gx, gx = w7.heap.size := ⟨_, rfl⟩
      rw [← hgx] at HX8 hz8 HB78
      rw [← hgx]
      generalize w7.alloc (.cells #[.int .i64 n, .slice none 0 0] 24) = w8 at *
      have HGX := Lib.hid hgx
      have HO8 := Lib.hid (World.ownsRow_nil w8 gx 48 2)
      have HWX := Lib.hid (show w.heap.size < gx by rw [hgx]; exact S7.out.lt)
      have S8 := Lib.hid (S7.out.next (by rw [← hgx]; exact HB78.out))
      clear hgx g0 g1
      have g0 := S8.out.g0
      have g1 := S8.out.g1
      go_wp2_with fail
      go_loopg [54] es.length (fun k s54 wr => ∃ (i : Nat) (v : Value), s54 = .int .i64 i ∧ i ≤ es.length ∧ k = es.length - i ∧ Below gx w7 wr ∧ Blk wr gx 24 #[.int .i64 n, v] ∧ wr.ownsRow gx 48 2 v i (edgeCells ((flipE es).take i)))
      case atStart => exact ⟨0, .slice none 0 0, rfl, Nat.zero_le _, rfl, HB78.out, HX8.out, HO8.out⟩
      case round =>
        obtain ⟨i, vx, rfl, hi, hk, hb, hbx, hox⟩ := hrel
        have Hk := Lib.hid hk
        have HB := Lib.hid hb
        have HX := Lib.hid hbx
        have HOX := Lib.hid hox
        obtain ⟨AX, cX, rfl⟩ := own_slice hox
        have S9 := Lib.hid (S7.out.next (w' := wr) (by rw [← HGX.out]; exact hb))
        have hgl := hbx.lt
        clear hk hb hbx hox
        by_cases hil : i < es.length
        · have hil' : (i : Int) < es.length := by omega
          obtain ⟨be, oe, rfl, hbe, hce⟩ := S9.out.es.edges (by omega)
          obtain ⟨d0, d1⟩ := hce i hil
          have HT := Lib.hid (edge_take hil)
          obtain ⟨p, hp⟩ : ∃ p, p = es[i].1 := ⟨_, rfl⟩
          obtain ⟨q, hq⟩ : ∃ q, q = es[i].2 := ⟨_, rfl⟩
          rw [← hp] at d0 HT
          rw [← hq] at d1 HT
          have HE4 := Lib.hid (Blk.new wr 48 #[.int .i64 p, .int .i64 q])
          have hb4 := (Below.refl wr.heap.size wr).alloc (Nat.le_refl _) (.cells #[.int .i64 p, .int .i64 q] 48)
          have HB4 := Lib.hid (HB.out.trans (hb4.mono (Nat.le_of_lt hgl)))
          have HX4 := Lib.hid (HX.out.below hb4 hgl)
          have HO4 := Lib.hid (own_below HOX.out hb4 (Nat.le_refl _))
          have hz4 := World.size_alloc wr (.cells #[.int .i64 p, .int .i64 q] 48)
          clear hb4 hce hp hq
          go_upto_region 11 with fail
          obtain ⟨gE, hgE⟩ : ∃ gE, gE = wr.heap.size := ⟨_, rfl⟩
          rw [← hgE] at HE4 hz4 hgl
          rw [← hgE]
          generalize wr.alloc (.cells #[.int .i64 p, .int .i64 q] 48) = w9 at *
          have e0 := HE4.out.cell 0
          have e1 := HE4.out.cell 1
          have x1 := HX4.out.cell 1
          simp only [List.getElem?_toArray, List.getElem?_cons_zero, List.getElem?_cons_succ] at e0 e1 x1
          have hzg : gx ≤ w9.heap.size := by omega
          clear d0 d1 hgE
          go_wp2_with (at_builtin; refine wp_app elemEdge rfl _ _ rfl gx (.slice AX i cX) _ _ rfl w9.heap.size [.int .i64 q, .int .i64 p] ?hx rfl HO4.out rfl rfl ?x2 ?x3 ?x4 ?_)
          case hx =>
            simp only [Act.eval]
            simp
          case x2 => omega
          case x3 => omega
          try (case x4 => omega)
          intro v10 w10 ho10 hg10 hb10
          obtain ⟨A10, c10, rfl⟩ := own_slice ho10
          have hnb : some gx ≠ (Value.slice AX i cX).ownBlock := fun e => by
            rcases own_other HO4.out HX4.out (by decide) with h | h
            · rw [h] at e; cases e
            · exact h e.symm
          have HX10 := Lib.hid (HX4.out.grown hg10 hnb)
          have HB10 := Lib.hid (below_app HB4.out HO4.out hg10 hzg (Nat.le_refl _))
          have hx10 := HX10.out.cell 1
          have hf10 := HX10.out.frozen 1
          simp only [List.getElem?_toArray, List.getElem?_cons_zero, List.getElem?_cons_succ] at hx10
          have hX11 := HX10.out.set_ 1 (.slice A10 (i + 1) c10)
          have HX11 := Lib.hid (show Blk (w10.setCell ⟨gx, 1, none⟩ (.slice A10 (i + 1) c10)) gx 24 #[.int .i64 n, .slice A10 (i + 1) c10] from hX11)
          have HO11 := Lib.hid (show (w10.setCell ⟨gx, 1, none⟩ (.slice A10 (i + 1) c10)).ownsRow gx 48 2 (.slice A10 (i + 1) c10) (i + 1) (edgeCells ((flipE es).take (i + 1))) by rw [HT.out]; exact own_set ho10 HX10.out (by decide) _ _)
          have HB11 := Lib.hid (HB10.out.setCell (p := ⟨gx, 1, none⟩) (Nat.le_refl gx) (.slice A10 (i + 1) c10))
          clear ho10 hg10 hb10 hnb hX11 e0 e1 x1
          go_wp2_with fail
          go_roundg (es.length - (i + 1))
          case measure => rw [Hk.out]; omega
          case rel => exact ⟨i + 1, .slice A10 (i + 1) c10, by go_num, by omega, rfl, HB11.out, HX11.out, HO11.out⟩
        · have hie : i = es.length := by omega
          subst hie
          have HES := Lib.hid (show Cells wr wr.heap.size AX (edgeCells (flipE es)) by
            have h := Cells.of_own HOX.out
            rw [List.take_of_length_le (by rw [flipE_length]; exact Nat.le_refl _)] at h
            exact h)
          have hil' : ¬ (es.length : Int) < es.length := by omega
          clear HOX HO8 HX8 hil
          clear g0 g1
          have HO12 := Lib.hid (show FacesOwn (wr.alloc (.cells #[] 37)) wr.heap.size (.slice (some ⟨wr.heap.size, 0, none⟩) 0 0) (flipR (rs.take 0)) from ⟨[], own_of_blk (xs := []) (Blk.new wr 37 #[]) (Nat.le_refl _) rfl (Nat.zero_le _), fun i hi => absurd hi (by simp [flipR])⟩)
          have hb12 := (Below.refl wr.heap.size wr).alloc (Nat.le_refl _) (.cells #[] 37)
          have hz12 := World.size_alloc wr (.cells #[] 37)
          have HB12 := Lib.hid hb12
          clear hb12
          go_upto_region 14 with fail
          obtain ⟨w11, rfl⟩ : ∃ y, y = wr := ⟨_, rfl⟩
          obtain ⟨gT, hgT⟩ : ∃ gT, gT = w11.heap.size := ⟨_, rfl⟩
          rw [← hgT] at HO12 hz12 HB12 hgl
          rw [← hgT]
          generalize w11.alloc (.cells #[] 37) = w12 at *
          have HGT := Lib.hid hgT
          clear hgT
          go_wp2_with fail
          go_loopg [14, 72] rs.length (fun k s14 s72 wr => ∃ i : Nat, s72 = .int .i64 i ∧ i ≤ rs.length ∧ k = rs.length - i ∧ Below gT w11 wr ∧ FacesOwn wr gT s14 (flipR (rs.take i)))
          case atStart => exact ⟨0, rfl, Nat.zero_le _, rfl, HB12.out, HO12.out⟩
          case round =>
            obtain ⟨i, rfl, hi, hk, hb, hown⟩ := hrel
            have Hk := Lib.hid hk
            have HB := Lib.hid hb
            have hzw : gT ≤ wr.heap.size := by have := hb.size; have := HGT.out; omega
            have SR := Lib.hid (S9.out.next (w' := wr) (by rw [← HGT.out]; exact hb))
            clear hk hb
            by_cases hlt : i < rs.length
            · have hlt' : (i : Int) < rs.length := by omega
              obtain ⟨b2, o2, rfl, hb2, hc2⟩ := SR.out.rs (by omega)
              obtain ⟨Ai, ci, e0, hCi⟩ := hc2 i hlt
              have HCI := Lib.hid hCi
              have HLL := Lib.hid (HR2.out _ (List.getElem_mem hlt))
              have HT := Lib.hid (flipR_take hlt)
              have HNT := Lib.hid (fun j (hj : j < rs[i].length) => HP.out.nat hlt hj)
              have HFT := Lib.hid (fun j (d : Nat) (hj : j < rs[i].length) (hd : rs[i][j] = (d : Int)) => flipL_take hj hd)
              have hem : es.length ≤ 128 := (may_parts HP.out.may).2.2
              obtain ⟨sl, ho, h2⟩ := hown
              have hml : (flipR (rs.take i)).length = i := by rw [flipR_length, List.length_take]; omega
              rw [hml] at ho
              have HML := Lib.hid hml
              have HO := Lib.hid ho
              have H2 := Lib.hid h2
              clear hc2 ho h2 hml hCi
              generalize rs[i] = l at *
              have HM := Lib.hid (show (wr.alloc (.cells #[] 3)).ownsRow wr.heap.size 3 1 (.slice (some ⟨wr.heap.size, 0, none⟩) 0 0) 0 (intCells (flipL (l.take 0))) from own_of_blk (xs := []) (Blk.new wr 3 #[]) (Nat.le_refl _) rfl (Nat.zero_le _))
              have HBM := Lib.hid ((Below.refl wr.heap.size wr).alloc (Nat.le_refl _) (.cells #[] 3))
              have hzm := World.size_alloc wr (.cells #[] 3)
              go_upto_region 18 with fail
              obtain ⟨gM, hgM⟩ : ∃ gM, gM = wr.heap.size := ⟨_, rfl⟩
              rw [← hgM] at HM HBM hzm hzw
              rw [← hgM]
              generalize wr.alloc (.cells #[] 3) = w13 at *
              have HGM := Lib.hid hgM
              obtain ⟨wi, hwi⟩ : ∃ y, y = wr := ⟨_, rfl⟩
              subst hwi
              clear hgM e0
              go_wp2_with fail
              go_loopg [17, 79] l.length (fun k s17 s79 wr => ∃ j : Nat, s79 = .int .i64 j ∧ j ≤ l.length ∧ k = l.length - j ∧ Below gM wi wr ∧ wr.ownsRow gM 3 1 s17 j (intCells (flipL (l.take j))))
              case atStart => exact ⟨0, rfl, Nat.zero_le _, rfl, HBM.out, HM.out⟩
              case round =>
                obtain ⟨j, rfl, hj, hk2, hb, hown⟩ := hrel
                have Hk2 := Lib.hid hk2
                have HBJ := Lib.hid hb
                have HOJ := Lib.hid hown
                obtain ⟨AM, cM, rfl⟩ := own_slice hown
                have hzj : gM ≤ wr.heap.size := by have := hb.size; have := HGM.out; omega
                clear hk2 hb hown
                by_cases hjl : j < l.length
                · have hjl' : (j : Int) < l.length := by omega
                  obtain ⟨bl, ol, rfl, hbl, hcl⟩ := (HCI.out.below (by rw [← HGM.out]; exact HBJ.out)).ints (by omega)
                  have d0 := hcl j hjl
                  obtain ⟨d, hd, hdl, _⟩ := HNT.out j hjl
                  have HF2 := Lib.hid (HFT.out j d hjl hd)
                  rw [hd] at d0
                  have hxo : bits .xor .i64 (d : Int) 1 = ((ot d : Nat) : Int) := bits_xor1 (by omega)
                  have hll := HLL.out
                  clear hcl hd
                  go_wp2_with (at_builtin; go_loud (refine wp_app elemInt rfl _ _ rfl gM (.slice AM j cM) _ _ rfl wr.heap.size [.int .i64 ((ot d : Nat) : Int)] rfl rfl HOJ.out rfl rfl ?x2 ?x3 ?x4 ?_))
                  case x2 => omega
                  case x3 => omega
                  try (case x4 => omega)
                  intro v14 w14 ho14 hg14 hb14
                  have HBX := Lib.hid (below_app HBJ.out HOJ.out hg14 hzj (Nat.le_refl _))
                  have HOX := Lib.hid (show w14.ownsRow gM 3 1 v14 (j + 1) (intCells (flipL (l.take (j + 1)))) by
                    rw [HF2.out]
                    simpa [intCells] using ho14)
                  clear ho14 hg14 hb14
                  go_wp2_with fail
                  go_roundg (l.length - (j + 1))
                  case measure => rw [Hk2.out]; omega
                  case rel => exact ⟨j + 1, by go_num, by omega, rfl, HBX.out, HOX.out⟩
                · have hje : j = l.length := by omega
                  have HOF := Lib.hid (show wr.ownsRow gM 3 1 (.slice AM j cM) (flipL l).length (intCells (flipL l)) by
                    have h := HOJ.out
                    rw [hje, List.take_length] at h
                    rw [hje, flipL_length]
                    exact h)
                  have how := own_below HO.out HBJ.out (by rw [HGM.out]; exact Nat.le_refl _)
                  have HB6 := Lib.hid (HB.out.trans (HBJ.out.mono hzw))
                  have hjl' : ¬ (j : Int) < l.length := by omega
                  have hll := HLL.out
                  have hgz : gT ≤ wr.heap.size := by omega
                  have hje2 : (flipL l).length = j := by rw [flipL_length]; omega
                  have HJE := Lib.hid hje2
                  clear HOJ hje hje2
                  go_wp2_with (at_builtin; refine wp_app elemRot rfl _ _ rfl gT u14 _ _ rfl wr.heap.size [.slice AM j cM] rfl rfl how rfl rfl ?h7 ?h8 ?h9 ?_)
                  case h7 => omega
                  case h8 => omega
                  try (case h9 => omega)
                  intro v' w' hown' hg' _
                  have hb' := below_app HB6.out how hg' hgz (Nat.le_refl _)
                  have hR' := FacesOwn.push (F := flipR (rs.take i)) (f := flipL l) (A := AM) (c := cM) (by rw [HML.out]; exact how) (fun k hk => by
                    obtain ⟨Aj, cj, hs, hoj⟩ := H2.out k hk
                    exact ⟨Aj, cj, hs, own_below hoj HBJ.out (by rw [HGM.out]; exact Nat.le_refl _)⟩) (by
                    have h := own_mono HOF.out hzw
                    rw [HJE.out] at h ⊢
                    exact h) hg' (by rw [HML.out, HJE.out]; exact hown')
                  rw [← HT.out] at hR'
                  have HX2 := Lib.hid (And.intro hb' hR')
                  clear hb' hR' how hown' hg'
                  go_wp2_with fail
                  go_roundg (rs.length - (i + 1))
                  case measure => rw [Hk.out]; omega
                  case rel => exact ⟨i + 1, by go_num, by omega, rfl, HX2.out.1, HX2.out.2⟩
            · have hie : i = rs.length := by omega
              have HF := Lib.hid (show FacesOwn wr gT u14 (flipR rs) by rw [hie, List.take_length] at hown; exact hown)
              have hlt' : ¬ (i : Int) < rs.length := by omega
              clear hown hie
              obtain ⟨AT, cT, e, hR⟩ := HF.out.rowsC
              rw [flipR_length] at e
              subst e
              have HRT := Lib.hid hR
              have HX2 := Lib.hid (HX.out.below HB.out hgl)
              have HES2 := Lib.hid ((HES.out.below (by rw [← HGT.out]; exact HB.out)).more (by rw [← HGT.out]; exact hzw))
              clear hR
              have x0 := HX2.out.cell 0
              have x1 := HX2.out.cell 1
              simp only [List.getElem?_toArray, List.getElem?_cons_zero, List.getElem?_cons_succ] at x0 x1
              have hxi := HXI.out wr AX cX HES2.out AT cT HRT.out.at_
              go_wp2_with fail
              refine hxi.mono ?_
              rintro e w15 ⟨f15, v15, rfl, hb15⟩
              have S15 := Lib.hid (SR.out.next hb15)
              have HX15 := Lib.hid (HX2.out.below hb15 HX2.out.lt)
              have HES15 := Lib.hid ((HES2.out.below hb15).more hb15.size)
              have HRT15 := Lib.hid ((HRT.out.at_.below hb15).more hb15.size)
              clear hxi hb15 x0 x1
              have g0 := S15.out.g0
              have g1 := S15.out.g1
              have x0 := HX15.out.cell 0
              have x1 := HX15.out.cell 1
              simp only [List.getElem?_toArray, List.getElem?_cons_zero, List.getElem?_cons_succ] at x0 x1
              have hl15 := S15.out.lt
              have hx15 := HX15.out.lt
              have htt : (t == t) = true := by simp
              have hbb : (bm == bm) = true := by simp
              have KS := Lib.hid (show ∀ w', Below w15.heap.size w15 w' → (w'.cell? ⟨w.heap.size, 0, none⟩ = some (.int .i64 n) ∧ w'.cell? ⟨w.heap.size, 1, none⟩ = some (.slice A es.length cap)) ∧ (w'.cell? ⟨gx, 0, none⟩ = some (.int .i64 n) ∧ w'.cell? ⟨gx, 1, none⟩ = some (.slice AX es.length cX)) from fun w' h => ⟨⟨(h.cell (p := ⟨w.heap.size, 0, none⟩) hl15).trans g0, (h.cell (p := ⟨w.heap.size, 1, none⟩) hl15).trans g1⟩, ⟨(h.cell (p := ⟨gx, 0, none⟩) hx15).trans x0, (h.cell (p := ⟨gx, 1, none⟩) hx15).trans x1⟩⟩)
              clear KS
              go_upto_region 26 with fail
              refine R3.wp_region_i w15.heap.size [[]] [0, 0, 0, 0, 0, 0, 0, 0, 0, 0, 0, 0, 0, 0, 0, 0, 0, 0]
                [([], .val (.bool t)), ([], .val (.bool t)), ([0, 1], .val (.bool true)), ([2], .val (.bool true)), ([3], .val (.bool t)), ([3], .val (.bool t)), ([3, 4, 5], .val (.bool true)), ([3, 6], .val (.bool true)), ([7], .val (.bool true)), ([8], .val (.agg #[.int .i64 n, .slice A es.length cap])), ([8], .val (.slice C rs.length ccap)), ([8, 9, 10], .val (.bool bm)), ([8], .val (.agg #[.int .i64 n, .slice AX es.length cX])), ([8], .val (.slice AT rs.length cT)), ([8, 12, 13], .val (.bool bm)), ([8, 11, 14], .val (.bool true)), ([8, 15], .val (.bool true)), ([16], .val (.bool true))] [17] (by kernel_rfl) (by kernel_rfl) (fun us => ?_) ?_
              · refine R3.pgo_pure _ rfl rfl (fun wv hw hu => ⟨.bool t, ?_, rfl⟩) ?_
                · have tok := True.intro
                  clear hw hu
                  go_simp
                refine R3.pgo_pure _ rfl rfl (fun wv hw hu => ⟨.bool t, ?_, rfl⟩) ?_
                · have tok := True.intro
                  clear hw hu
                  go_simp
                refine R3.pgo_pure _ rfl rfl (fun wv hw hu => ⟨.bool true, ?_, rfl⟩) ?_
                · have tok := True.intro
                  have h0 : us 0 = .bool t := hu.1
                  have h1 : us 1 = .bool t := hu.2.1
                  clear hw hu
                  go_simp
                refine R3.pgo_pure _ rfl rfl (fun wv hw hu => ⟨.bool true, ?_, rfl⟩) ?_
                · have tok := True.intro
                  have h2 : us 2 = .bool true := hu.1
                  clear hw hu
                  go_simp
                refine pgo_gval _ 3 104 true rfl rfl rfl (by simp [put_size]) (fun wv hu => by
                    have hg : us 3 = .bool true := hu.1
                    exact (by repeat (first | (with_reducible exact (put_eval_same _ _ _ (by simp [put_size])).trans hg) | (with_reducible refine put_eval _ _ _ _ _ (by decide) ?_)))) (fun wv hw hu => ⟨.bool t, wv, ?_, Evo.refl _ _ _, rfl⟩) ?_
                · have tok := True.intro
                  have h3 : us 3 = .bool true := hu.1
                  clear hw hu
                  go_simp
                refine pgo_gval _ 3 104 true rfl rfl rfl (by simp [put_size]) (fun wv hu => by
                    have hg : us 3 = .bool true := hu.1
                    exact (by repeat (first | (with_reducible exact (put_eval_same _ _ _ (by simp [put_size])).trans hg) | (with_reducible refine put_eval _ _ _ _ _ (by decide) ?_)))) (fun wv hw hu => ⟨.bool t, wv, ?_, Evo.refl _ _ _, rfl⟩) ?_
                · have tok := True.intro
                  have h3 : us 3 = .bool true := hu.1
                  clear hw hu
                  go_simp
                refine pgo_gval _ 3 104 true rfl rfl rfl (by simp [put_size]) (fun wv hu => by
                    have hg : us 3 = .bool true := hu.1
                    exact (by repeat (first | (with_reducible exact (put_eval_same _ _ _ (by simp [put_size])).trans hg) | (with_reducible refine put_eval _ _ _ _ _ (by decide) ?_)))) (fun wv hw hu => ⟨.bool true, wv, ?_, Evo.refl _ _ _, rfl⟩) ?_
                · have tok := True.intro
                  have h3 : us 3 = .bool true := hu.1
                  have h4 : us 4 = .bool t := hu.2.1
                  have h5 : us 5 = .bool t := hu.2.2.1
                  clear hw hu
                  go_simp
                refine R3.pgo_pure _ rfl rfl (fun wv hw hu => ⟨.bool true, ?_, rfl⟩) ?_
                · have tok := True.intro
                  have h3 : us 3 = .bool true := hu.1
                  have h6 : us 6 = .bool true := hu.2.1
                  clear hw hu
                  go_simp
                refine R3.pgo_pure _ rfl rfl (fun wv hw hu => ⟨.bool true, ?_, rfl⟩) ?_
                · have tok := True.intro
                  have h7 : us 7 = .bool true := hu.1
                  clear hw hu
                  go_simp
                refine pgo_gval _ 8 109 true rfl rfl rfl (by simp [put_size]) (fun wv hu => by
                    have hg : us 8 = .bool true := hu.1
                    exact (by repeat (first | (with_reducible exact (put_eval_same _ _ _ (by simp [put_size])).trans hg) | (with_reducible refine put_eval _ _ _ _ _ (by decide) ?_)))) (fun wv hw hu => ⟨.agg #[.int .i64 n, .slice A es.length cap], wv, ?_, Evo.refl _ _ _, rfl⟩) ?_
                · have tok := True.intro
                  have h8 : us 8 = .bool true := hu.1
                  have zy0 := ((evo_nil (by kernel_rfl) hw).cell (p := ⟨w.heap.size, 0, none⟩) hl15).trans g0
                  have zy1 := ((evo_nil (by kernel_rfl) hw).cell (p := ⟨w.heap.size, 1, none⟩) hl15).trans g1
                  clear hw hu
                  go_simp
                refine pgo_gval _ 8 109 true rfl rfl rfl (by simp [put_size]) (fun wv hu => by
                    have hg : us 8 = .bool true := hu.1
                    exact (by repeat (first | (with_reducible exact (put_eval_same _ _ _ (by simp [put_size])).trans hg) | (with_reducible refine put_eval _ _ _ _ _ (by decide) ?_)))) (fun wv hw hu => ⟨.slice C rs.length ccap, wv, ?_, Evo.refl _ _ _, rfl⟩) ?_
                · have tok := True.intro
                  have h8 : us 8 = .bool true := hu.1
                  clear hw hu
                  go_simp
                refine pgo_gcall _ 8 109 true rfl rfl rfl (by simp [put_size]) (fun wv hu => by
                    have hg : us 8 = .bool true := hu.1
                    exact (by repeat (first | (with_reducible exact (put_eval_same _ _ _ (by simp [put_size])).trans hg) | (with_reducible refine put_eval _ _ _ _ _ (by decide) ?_)))) 12 #[.agg #[.int .i64 n, .slice A es.length cap], .slice C rs.length ccap] (fun wv hw hu => ⟨?_, ?_⟩) ?_
                · have tok := True.intro
                  have h8 : us 8 = .bool true := hu.1
                  have h9 : us 9 = .agg #[.int .i64 n, .slice A es.length cap] := hu.2.1
                  have h10 : us 10 = .slice C rs.length ccap := hu.2.2.1
                  clear hw hu
                  go_simp
                · have hbl := evo_nil (by kernel_rfl) hw
                  refine (HBI.out wv ((S15.out.es.drew.below hbl).more hbl.size) ((S15.out.rs.below (below_undrew hbl)).more hbl.size)).mono ?_
                  rintro e w16 ⟨rfl, hb16⟩
                  exact ⟨_, rfl, Evo.of_below hb16, rfl⟩
                refine pgo_gval _ 8 109 true rfl rfl rfl (by simp [put_size]) (fun wv hu => by
                    have hg : us 8 = .bool true := hu.1
                    exact (by repeat (first | (with_reducible exact (put_eval_same _ _ _ (by simp [put_size])).trans hg) | (with_reducible refine put_eval _ _ _ _ _ (by decide) ?_)))) (fun wv hw hu => ⟨.agg #[.int .i64 n, .slice AX es.length cX], wv, ?_, Evo.refl _ _ _, rfl⟩) ?_
                · have tok := True.intro
                  have h8 : us 8 = .bool true := hu.1
                  have zy0 := ((evo_nil (by kernel_rfl) hw).cell (p := ⟨gx, 0, none⟩) hx15).trans x0
                  have zy1 := ((evo_nil (by kernel_rfl) hw).cell (p := ⟨gx, 1, none⟩) hx15).trans x1
                  clear hw hu
                  go_simp
                refine pgo_gval _ 8 109 true rfl rfl rfl (by simp [put_size]) (fun wv hu => by
                    have hg : us 8 = .bool true := hu.1
                    exact (by repeat (first | (with_reducible exact (put_eval_same _ _ _ (by simp [put_size])).trans hg) | (with_reducible refine put_eval _ _ _ _ _ (by decide) ?_)))) (fun wv hw hu => ⟨.slice AT rs.length cT, wv, ?_, Evo.refl _ _ _, rfl⟩) ?_
                · have tok := True.intro
                  have h8 : us 8 = .bool true := hu.1
                  clear hw hu
                  go_simp
                refine pgo_gcall _ 8 109 true rfl rfl rfl (by simp [put_size]) (fun wv hu => by
                    have hg : us 8 = .bool true := hu.1
                    exact (by repeat (first | (with_reducible exact (put_eval_same _ _ _ (by simp [put_size])).trans hg) | (with_reducible refine put_eval _ _ _ _ _ (by decide) ?_)))) 12 #[.agg #[.int .i64 n, .slice AX es.length cX], .slice AT rs.length cT] (fun wv hw hu => ⟨?_, ?_⟩) ?_
                · have tok := True.intro
                  have h8 : us 8 = .bool true := hu.1
                  have h12 : us 12 = .agg #[.int .i64 n, .slice AX es.length cX] := hu.2.1
                  have h13 : us 13 = .slice AT rs.length cT := hu.2.2.1
                  clear hw hu
                  go_simp
                · have hbl := evo_nil (by kernel_rfl) hw
                  refine (HXB.out wv AX cX ((HES15.out.drew.below hbl).more hbl.size) AT cT ((HRT15.out.below (below_undrew hbl)).more hbl.size)).mono ?_
                  rintro e w16 ⟨rfl, hb16⟩
                  exact ⟨_, rfl, Evo.of_below hb16, rfl⟩
                refine pgo_gval _ 8 109 true rfl rfl rfl (by simp [put_size]) (fun wv hu => by
                    have hg : us 8 = .bool true := hu.1
                    exact (by repeat (first | (with_reducible exact (put_eval_same _ _ _ (by simp [put_size])).trans hg) | (with_reducible refine put_eval _ _ _ _ _ (by decide) ?_)))) (fun wv hw hu => ⟨.bool true, wv, ?_, Evo.refl _ _ _, rfl⟩) ?_
                · have tok := True.intro
                  have h8 : us 8 = .bool true := hu.1
                  have h11 : us 11 = .bool bm := hu.2.1
                  have h14 : us 14 = .bool bm := hu.2.2.1
                  clear hw hu
                  go_simp
                refine R3.pgo_pure _ rfl rfl (fun wv hw hu => ⟨.bool true, ?_, rfl⟩) ?_
                · have tok := True.intro
                  have h8 : us 8 = .bool true := hu.1
                  have h15 : us 15 = .bool true := hu.2.1
                  clear hw hu
                  go_simp
                refine R3.pgo_pure _ rfl rfl (fun wv hw hu => ⟨.bool true, ?_, rfl⟩) ?_
                · have tok := True.intro
                  have h16 : us 16 = .bool true := hu.1
                  clear hw hu
                  go_simp
                trivial
              · intro us w17 hw hu
                have h17 : us 17 = .bool true := hu.1
                have S17 := Lib.hid (S15.out.next (below_undrew (hw.below (Nat.le_refl _))))
                clear hw hu
                simp only [lexL]
                go_simp
                go_wp2_with fail
                go_ret
                exact ⟨rfl, S17.out.below⟩
end Go.Proofs.Ytelcofkjpkdjiaa
