/-
  Law RotationMirrors: the lists begun elsewhere. Printed by wip/mirgen.py. Written by an AI agent.
-/
import Derived.Test.YthdifhfmgmmljaaMirC
namespace Go.Proofs.Ythdifhfmgmmljaa
open Go.RowKit

theorem mask8 (a : Int) : 0 ≤ bits .and .i64 a 255 ∧ bits .and .i64 a 255 ≤ 255 := by
  show 0 ≤ IntKind.i64.wrap ((BitVec.ofInt 64 a &&& BitVec.ofInt 64 255).toNat : Int) ∧ IntKind.i64.wrap ((BitVec.ofInt 64 a &&& BitVec.ofInt 64 255).toNat : Int) ≤ 255
  have h : (BitVec.ofInt 64 a &&& BitVec.ofInt 64 255).toNat ≤ 255 := by
    rw [BitVec.toNat_and]
    exact Nat.le_trans Nat.and_le_right (by decide)
  rw [IntKind.wrap_i64]
  omega
theorem other_take {rs : List (List Int)} {t i : Nat} (h : i < rs.length) : otherL (rs.take (i + 1)) t = otherL (rs.take i) t ++ [turnL rs[i] t rs[i].length] := by
  unfold otherL
  rw [List.take_succ_eq_append_getElem h, List.map_append]
  rfl

set_option maxRecDepth 100000 in
set_option maxHeartbeats 4000000 in
theorem mirB (n turn : Int) (A C M : Option Addr) (cap ccap cm gb : Nat) (es : List (Int × Int)) (rs : List (List Int)) (w wc : World) (g0 : wc.cell? ⟨gb, 0, none⟩ = some (.int .i64 n)) (g1 : wc.cell? ⟨gb, 1, none⟩ = some (.slice A es.length cap)) (gl : gb < wc.heap.size) (hes : Cells wc wc.heap.size A (edgeCells es)) (hrs : RowsC wc wc.heap.size C rs) (hm : RowsAt wc wc.heap.size M (mir rs)) (hB : Below w.heap.size w wc) (he : es.length ≤ 60) (hr1 : rs.length ≤ 70) (hr2 : ∀ l ∈ rs, l.length ≤ 200) (u0 u6 u24 u25 u26 u27 u28 u29 u30 u31 u32 u33 u34 u35 u36 u37 u38 u39 u40 u41 u42 : Value) (K : Act → World → Prop) (hK : ∀ a0 w0, Code.wp Try.prog (sndC (restC 5 ((Try.f9.body).getD .skip))) (bodyPost Try.prog Try.f9 (fun e w' => e = .returned (.bool true) ∧ Below w.heap.size w w')) a0 w0 → K a0 w0) : Code.wp Try.prog (fstC (restC 5 ((Try.f9.body).getD .skip))) (Exit.then K (bodyPost Try.prog Try.f9 (fun e w' => e = .returned (.bool true) ∧ Below w.heap.size w w'))) ⟨#[u0, .slice C rs.length ccap, .int .i64 turn, .pointer (some ⟨gb, 0, none⟩), undef, undef, u6, .slice M rs.length cm, undef, undef, undef, undef, undef, undef, undef, undef, undef, undef, undef, undef, undef, undef, undef, undef, u24, u25, u26, u27, u28, u29, u30, u31, u32, u33, u34, u35, u36, u37, u38, u39, u40, u41, u42, undef, undef, undef, undef, undef, undef, undef, undef, undef, undef, undef, undef, undef, undef, undef, undef, undef, undef, undef, undef, undef, undef, undef, undef, undef, undef, undef, undef, undef, undef, undef, undef, undef, undef, undef, undef, undef, undef, undef, undef, undef, undef, undef, undef, undef, undef, undef, undef, undef, undef, undef, undef, undef, undef, undef, undef, undef, undef, undef, undef, undef, undef, undef, undef, undef, undef, undef, undef, undef, undef, undef, undef, undef, undef, undef, undef, undef, undef, undef, undef, undef, undef, undef, undef, undef, undef, undef, undef, undef, undef, undef, undef, undef, undef, undef, undef, undef, undef, undef, undef, undef, undef, undef, undef, undef, undef, undef, undef, undef, undef, undef, undef, undef, undef, undef, undef, undef, undef, undef, undef, undef, undef, undef, undef, undef, undef, undef, undef, undef, undef, undef, undef, undef, undef, undef, undef, undef, undef, undef, undef, undef, undef, undef, undef, undef, undef], []⟩ wc := by
  refine wp_mono (Q := Exit.then (fun a0 w0 => Code.wp Try.prog (sndC (restC 5 ((Try.f9.body).getD .skip))) (bodyPost Try.prog Try.f9 (fun e w' => e = .returned (.bool true) ∧ Below w.heap.size w w')) a0 w0) (bodyPost Try.prog Try.f9 (fun e w' => e = .returned (.bool true) ∧ Below w.heap.size w w'))) ?_ (then_k hK)
  clear hK
  conv => arg 2; whnf
  conv => arg 3; arg 1; ext a w; arg 2; whnf
  refine then_open fun K2 hK2 => ?_
  have HES := Lib.hid hes
  have HRS := Lib.hid hrs
  have HM := Lib.hid hm
  have HB := Lib.hid hB
  have Hr2 := Lib.hid hr2
  have hml : (mir rs).length = rs.length := mir_length
  have Hml := Lib.hid hml
  have HK := Lib.hid (fun (wv : World) (h : Below wc.heap.size wc wv) => And.intro ((h.cell (p := ⟨gb, 0, none⟩) gl).trans g0) ((h.cell (p := ⟨gb, 1, none⟩) gl).trans g1))
  obtain ⟨m0, m1⟩ := mask8 turn
  obtain ⟨t, ht⟩ := Int.eq_ofNat_of_zero_le m0
  have ht : bits .and .i64 turn 255 = (t : Int) := ht
  have ht255 : t ≤ 255 := by omega
  have Ht := Lib.hid ht
  clear ht
  clear hes hrs hm hB hr2 hml m0 m1
  have hF0 : FacesOwn (wc.alloc (.cells #[] 27)) wc.heap.size (.slice (some ⟨wc.heap.size, 0, none⟩) 0 0) (otherL (rs.take 0) t) :=
    ⟨[], blk_own (R := #[]) (Nat.le_refl _) (by simpa using Blk.new wc 27 #[]) (by simp) (Nat.le_refl _) (by unfold maxLen; omega) (by simp), fun i hi => absurd hi (by simp [otherL])⟩
  go_wp2_with fail
  go_loopg [8, 46] rs.length (fun k s8 s46 wr => ∃ i : Nat, s46 = .int .i64 i ∧ i ≤ rs.length ∧ k = rs.length - i ∧ Below wc.heap.size wc wr ∧ FacesOwn wr wc.heap.size s8 (otherL (rs.take i) t))
  case atStart => exact ⟨0, rfl, Nat.zero_le _, rfl, (Below.refl _ _).alloc (Nat.le_refl _) _, hF0⟩
  case round =>
    clear hF0
    obtain ⟨i, rfl, hi, hk, kr, hown⟩ := hrel
    have Hk := Lib.hid hk
    have HKr := Lib.hid kr
    have hsw := kr.size
    clear hk kr
    by_cases hlt : i < rs.length
    · have hlt' : (i : Int) < rs.length := by omega
      obtain ⟨b2, o2, rfl, hb2, hc2⟩ := HRS.out (by omega)
      obtain ⟨bM, oM, rfl, hbM, hcM⟩ := HM.out (by rw [Hml.out]; omega)
      obtain ⟨Ai, ci, e0, hCi, _⟩ := hc2 i hlt
      obtain ⟨Mi, di, e1, hMi⟩ := hcM i (by rw [Hml.out]; exact hlt)
      rw [mir_at hlt] at hMi e1
      rw [List.length_reverse] at e1
      have e0 := (HKr.out.cell (p := ⟨b2, o2 + i, none⟩) hb2).trans e0
      have e1 := (HKr.out.cell (p := ⟨bM, oM + i, none⟩) hbM).trans e1
      have HCi := Lib.hid ((hCi.below HKr.out).more hsw)
      have HMi := Lib.hid ((hMi.below HKr.out).more hsw)
      have hll := Hr2.out _ (List.getElem_mem hlt)
      have HT := Lib.hid (other_take (t := t) hlt)
      obtain ⟨sl, ho, h2⟩ := hown
      have hol : (otherL (rs.take i) t).length = i := by simp [otherL]; omega
      rw [hol] at ho
      have HML := Lib.hid hol
      have HO := Lib.hid ho
      have H2 := Lib.hid h2
      have hbM' := hbM
      clear hc2 hcM hCi hMi ho h2 hol
      generalize rs[i] = l at *
      have hll' : ((l.length : Int) != (l.length : Int)) = false := by simp
      obtain ⟨wo, rfl⟩ : ∃ q, q = wr := ⟨_, rfl⟩
      go_wp2_with fail
      go_loopg [61] l.length (fun k s61 wq => ∃ j m : Nat, s61 = .int .i64 j ∧ j ≤ l.length ∧ k = l.length - j ∧ wq = wo.drewN m)
      case atStart => exact ⟨0, 0, rfl, Nat.zero_le _, rfl, rfl⟩
      case round =>
        obtain ⟨j, m, rfl, hj, hk, hwr⟩ := hrel
        have Hk2 := Lib.hid hk
        have Hwr := Lib.hid hwr
        clear hk
        by_cases hjl : j < l.length
        · have hjl' : (j : Int) < l.length := by omega
          obtain ⟨p, hp⟩ : ∃ p, p = l.length - 1 - j := ⟨_, rfl⟩
          have hpp : (l.length : Int) - 1 - j = (p : Int) := by omega
          have hpl : p < l.length := by omega
          have hpl' : (p : Int) < l.length := by omega
          obtain ⟨bl, ol, rfl, hbl, hcl⟩ := HCi.out.ints (by omega)
          obtain ⟨bm, om, rfl, hbm, hcm⟩ := HMi.out.ints (by rw [List.length_reverse]; omega)
          have y0 := hcl p hpl
          have y1 := hcm j (by rw [List.length_reverse]; exact hjl)
          have hrv : l.reverse[j]'(by rw [List.length_reverse]; exact hjl) = l[p] := by
            rw [List.getElem_reverse]
            congr 1
            exact hp.symm
          rw [hrv] at y1
          have z0 : wr.cell? ⟨b2, o2 + i, none⟩ = some (.slice (some ⟨bl, ol, none⟩) l.length ci) := by rw [hwr]; exact e0
          have z1 : wr.cell? ⟨bM, oM + i, none⟩ = some (.slice (some ⟨bm, om, none⟩) l.length di) := by rw [hwr]; exact e1
          have y0 : wr.cell? ⟨bl, ol + p, none⟩ = some (.int .i64 l[p]) := by rw [hwr]; exact y0
          have y1 : wr.cell? ⟨bm, om + j, none⟩ = some (.int .i64 l[p]) := by rw [hwr]; exact y1
          clear hcl hcm hrv hwr hp
          generalize l[p] = v at *
          have hvv : ((v : Int) != (v : Int)) = false := by simp
          have hmr : (mir rs).length = rs.length := Hml.out
          go_wp2_with fail
          go_quiet (fail)
          go_wp2_with fail
          go_roundg (l.length - (j + 1))
          case measure => rw [Hk2.out]; omega
          case rel => exact ⟨j + 1, m + nq, by go_num, by omega, rfl, by rw [Hwr.out]; simp⟩
        · have hjl' : ¬ (j : Int) < l.length := by omega
          have HCr := Lib.hid (show Cells wr wo.heap.size Ai (intCells l) by rw [hwr]; exact HCi.out.drewN m)
          have HOr := Lib.hid (show wr.ownsRow wc.heap.size 27 1 u8 i sl by rw [hwr]; exact HO.out)
          have H2r := Lib.hid (show ∀ q (h : q < (otherL (rs.take i) t).length), ∃ Ai ci, sl[q]? = some (.slice Ai (otherL (rs.take i) t)[q].length ci) ∧ wr.ownsRow wc.heap.size 3 1 (.slice Ai (otherL (rs.take i) t)[q].length ci) (otherL (rs.take i) t)[q].length (intCells (otherL (rs.take i) t)[q]) by rw [hwr]; exact H2.out)
          have HKrr := Lib.hid (show Below wc.heap.size wc wr by rw [hwr]; exact below_drewN HKr.out m)
          have hszr : wo.heap.size = wr.heap.size := by rw [hwr]; rfl
          have hswr : wc.heap.size ≤ wr.heap.size := by omega
          rw [hszr] at HCr
          have ho0 : (wr.alloc (.cells #[] 3)).ownsRow wr.heap.size 3 1 (.slice (some ⟨wr.heap.size, 0, none⟩) 0 0) 0 (intCells (turnL l t 0)) :=
            blk_own (R := #[]) (Nat.le_refl _) (by simpa [turnL, intCells] using Blk.new wr 3 #[]) (by simp [turnL, intCells]) (Nat.le_refl _) (by unfold maxLen; omega) (by simp [turnL, intCells])
          clear hwr e0 e1 HO H2 HCi HMi hszr
          obtain ⟨wp, rfl⟩ : ∃ q, q = wr := ⟨_, rfl⟩
          go_wp2_with fail
          go_loopg [12, 84] l.length (fun k s12 s84 wq => ∃ j : Nat, s84 = .int .i64 j ∧ j ≤ l.length ∧ k = l.length - j ∧ Below wp.heap.size wp wq ∧ wq.ownsRow wp.heap.size 3 1 s12 j (intCells (turnL l t j)))
          case atStart => exact ⟨0, rfl, Nat.zero_le _, rfl, (Below.refl _ _).alloc (Nat.le_refl _) _, ho0⟩
          case round =>
            clear ho0
            obtain ⟨j, rfl, hj, hk, kq, hoq⟩ := hrel
            have Hk3 := Lib.hid hk
            have HKq := Lib.hid kq
            have hsq := kq.size
            clear hk kq
            by_cases hjl : j < l.length
            · have hjl' : (j : Int) < l.length := by omega
              obtain ⟨q, hq⟩ : ∃ q, q = (j + t) % l.length := ⟨_, rfl⟩
              have hql : q < l.length := by rw [hq]; exact Nat.mod_lt _ (by omega)
              have hql' : (q : Int) < l.length := by omega
              have hqm : Int.tmod ((j : Int) + t) l.length = (q : Int) := by rw [Int.tmod_eq_emod_of_nonneg (by omega), hq]; simp
              have ht' := Ht.out
              obtain ⟨bl, ol, rfl, hbl, hcl⟩ := HCr.out.ints (by omega)
              have y0 := (HKq.out.cell (p := ⟨bl, ol + q, none⟩) hbl).trans (hcl q hql)
              have HTS := Lib.hid (show turnL l t (j + 1) = turnL l t j ++ [l[q]] by rw [turnL_succ, ← hq, List.getD_eq_getElem?_getD, List.getElem?_eq_getElem hql]; rfl)
              have hlz : (l.length : Int) ≠ 0 := by omega
              clear hcl hq
              generalize l[q] = v at *
              go_wp2_with (at_builtin; refine wp_app elemInt rfl _ _ rfl wp.heap.size u12 _ _ rfl wr.heap.size [.int .i64 v] rfl rfl hoq rfl rfl ?h7 ?h8 ?h9 ?_)
              case h7 => omega
              case h8 => omega
              try (case h9 => omega)
              intro v' w' hown' hg' _
              have HX := Lib.hid (And.intro (below_app HKq.out hoq hg' hsq (Nat.le_refl _)) (show w'.ownsRow wp.heap.size 3 1 v' (j + 1) (intCells (turnL l t (j + 1))) by rw [HTS.out]; simpa [intCells] using hown'))
              clear hown' hg' hoq
              go_wp2_with fail
              go_roundg (l.length - (j + 1))
              case measure => rw [Hk3.out]; omega
              case rel => exact ⟨j + 1, by go_num, by omega, rfl, HX.out.1, HX.out.2⟩
            · have hje : j = l.length := by omega
              have hjl' : ¬ (j : Int) < l.length := by omega
              rw [hje] at hoq
              obtain ⟨A5, c5, rfl⟩ := own_slice hoq
              have ho6 := own_below HOr.out HKq.out (Nat.le_refl _)
              have HQ := Lib.hid hoq
              have hsw6 : wc.heap.size ≤ wr.heap.size := Nat.le_trans hswr hsq
              have HB6 := Lib.hid (HKrr.out.trans (HKq.out.mono hswr))
              clear hoq hje hjl
              go_wp2_with (at_builtin; refine wp_app elemRot rfl _ _ rfl wc.heap.size u8 _ _ rfl wr.heap.size [.slice A5 l.length c5] rfl rfl ho6 rfl rfl ?h7 ?h8 ?h9 ?_)
              case h7 => omega
              case h8 => omega
              try (case h9 => omega)
              intro v' w' hown' hg' _
              have hb' := below_app HB6.out ho6 hg' hsw6 (Nat.le_refl _)
              have hR' := FacesOwn.push (F := otherL (rs.take i) t) (f := turnL l t l.length) (A := A5) (c := c5) (by rw [HML.out]; exact ho6) (fun q hq => by
                obtain ⟨Aj, cj, hs, hoj⟩ := H2r.out q hq
                exact ⟨Aj, cj, hs, own_below hoj HKq.out (Nat.le_refl _)⟩) (by rw [turnL_length]; exact own_mono HQ.out hswr) hg' (by rw [HML.out, turnL_length]; exact hown')
              rw [← HT.out] at hR'
              have HX := Lib.hid (And.intro hb' hR')
              clear hb' hR' ho6 hown' hg'
              go_wp2_with fail
              go_roundg (rs.length - (i + 1))
              case measure => rw [Hk.out]; omega
              case rel => exact ⟨i + 1, by go_num, by omega, rfl, HX.out.1, HX.out.2⟩
    · have hie : i = rs.length := by omega
      have hlt' : ¬ (i : Int) < rs.length := by omega
      have HF := Lib.hid (show FacesOwn wr wc.heap.size u8 (otherL rs t) by rw [hie, List.take_length] at hown; exact hown)
      clear hown hie
      have hol : (otherL rs t).length = rs.length := by simp [otherL]
      have Hol := Lib.hid hol
      obtain ⟨Ao, co, hu8, hRo⟩ := HF.out.rowsC
      rw [hol] at hu8
      subst hu8
      obtain ⟨sl, ho, h2⟩ := HF.out
      rw [hol] at ho
      have HO := Lib.hid ho
      have H2 := Lib.hid h2
      have Hr3 := Lib.hid (show ∀ l ∈ rs, l.length ≤ 1000 from fun l hl => by have := Hr2.out l hl; omega)
      have Hr4 := Lib.hid (show ∀ l ∈ otherL rs t, l.length ≤ 1000 from fun l hl => by
        obtain ⟨r, hr, rfl⟩ := List.mem_map.1 hl
        rw [turnL_length]
        exact Hr3.out r hr)
      have HS1 := Lib.hid (sameR_any C Ao ccap co rs (otherL rs t) wr ((HRS.out.below HKr.out).more hsw) hRo (by omega) (by omega) Hr3.out (fun _ => Hr4.out))
      rw [hol, same_other] at HS1
      clear hol hRo ho h2
      go_wp2_with fail
      refine HS1.out.mono ?_
      rintro e w5 ⟨rfl, hb5⟩
      have hz5 := hb5.size
      have hba : Below w5.heap.size w5 ((w5.alloc (.cells #[.int .i64 1] 3)).alloc (.cells #[.slice (some ⟨w5.heap.size, 0, none⟩) 1 1] 27)) := ((Below.refl _ _).alloc (Nat.le_refl _) _).alloc (by simp) _
      have how := own_below HO.out (hb5.trans (hba.mono hz5)) (Nat.le_refl _)
      have hbk : Blk ((w5.alloc (.cells #[.int .i64 1] 3)).alloc (.cells #[.slice (some ⟨w5.heap.size, 0, none⟩) 1 1] 27)) w5.heap.size 3 #[.int .i64 1] := (Blk.new w5 _ _).alloc _
      have hbs : Blk ((w5.alloc (.cells #[.int .i64 1] 3)).alloc (.cells #[.slice (some ⟨w5.heap.size, 0, none⟩) 1 1] 27)) (w5.heap.size + 1) 27 #[.slice (some ⟨w5.heap.size, 0, none⟩) 1 1] := by
        have := Blk.new (w5.alloc (.cells #[.int .i64 1] 3)) 27 #[.slice (some ⟨w5.heap.size, 0, none⟩) 1 1]
        simpa using this
      have hz6 : ((w5.alloc (.cells #[.int .i64 1] 3)).alloc (.cells #[.slice (some ⟨w5.heap.size, 0, none⟩) 1 1] 27)).heap.size = w5.heap.size + 2 := by simp
      have ho1 := blk_own (base := wc.heap.size) (size := 1) (n := 1) (cap := 1) (xs := [.int .i64 1]) (R := #[]) (Nat.le_trans hsw hz5) (by simpa using hbk) (by simp) (Nat.le_refl _) (by unfold maxLen; omega) (by simp)
      have hcs : Cells ((w5.alloc (.cells #[.int .i64 1] 3)).alloc (.cells #[.slice (some ⟨w5.heap.size, 0, none⟩) 1 1] 27)) (w5.heap.size + 1 + 1) (some ⟨w5.heap.size + 1, 0, none⟩) [.slice (some ⟨w5.heap.size, 0, none⟩) 1 1] := Cells.of_blk (R := #[]) (by simpa using hbs)
      have HB6 := Lib.hid (HKr.out.trans ((hb5.trans (hba.mono hz5)).mono hsw))
      have H26 := Lib.hid (hb5.trans (hba.mono hz5))
      have HO1 := Lib.hid ho1
      have hsw6 : wc.heap.size ≤ ((w5.alloc (.cells #[.int .i64 1] 3)).alloc (.cells #[.slice (some ⟨w5.heap.size, 0, none⟩) 1 1] 27)).heap.size := by omega
      clear hb5 hba hbk hbs ho1
      go_wp2_with (at_builtin; (refine BigFrame.wpList_want rfl (fun K hK => wpo_app_any elemRot _ _ rfl rfl how rfl hcs rfl rfl (by omega) (by omega) hsw6 fun v' w' hown' hg' _ => hK _ _ ?_)))
      have hb' := below_app HB6.out how hg' hsw6 (Nat.le_refl _)
      have hR' := FacesOwn.push (F := otherL rs t) (f := [1]) (A := some ⟨w5.heap.size, 0, none⟩) (c := 1) (by rw [Hol.out]; exact how) (fun q hq => by
        obtain ⟨Aj, cj, hs, hoj⟩ := H2.out q hq
        exact ⟨Aj, cj, hs, own_below hoj H26.out (Nat.le_refl _)⟩) HO1.out hg' (by rw [Hol.out]; exact hown')
      obtain ⟨A7, c7, hv7, hR7⟩ := hR'.rowsC
      rw [List.length_append, Hol.out, List.length_singleton] at hv7
      subst hv7
      have HB7 := Lib.hid hb'
      have HS2 := Lib.hid (sameR_any C A7 ccap c7 rs (otherL rs t ++ [[1]]) w' ((HRS.out.below hb').more hb'.size) hR7 (by omega) (by rw [List.length_append, Hol.out, List.length_singleton]; omega) Hr3.out (fun h => absurd h (by rw [List.length_append, Hol.out, List.length_singleton]; omega)))
      rw [List.length_append, Hol.out, List.length_singleton, same_more] at HS2
      clear hb' hR' hR7 hown' hg' how hcs hz6
      refine HS2.out.mono ?_
      rintro e w8 ⟨rfl, hb8⟩
      have hk8 := HB7.out.trans (hb8.mono HB7.out.size)
      obtain ⟨g0, g1⟩ := HK.out _ hk8
      have HK8 := Lib.hid hk8
      clear hb8 hk8 HB7 HS2
      go_wp2_with fail
      refine (refRight_any n A C cap ccap es rs w8 ((HES.out.below HK8.out).more HK8.out.size) ((HRS.out.at_.below HK8.out).more HK8.out.size) (by omega) Hr3.out).mono ?_
      rintro e w9 ⟨rfl, hb9⟩
      have hk9 := HK8.out.trans (hb9.mono HK8.out.size)
      obtain ⟨g0, g1⟩ := HK.out _ hk9
      have HK9 := Lib.hid hk9
      have HW9 := Lib.hid (HB.out.trans (hk9.mono HB.out.size))
      clear hb9 hk9
      cases hR : rightB n es rs with
      | false =>
        clear hR
        go_wp2_with fail
        go_ret
        exact ⟨rfl, HW9.out⟩
      | true =>
        have HP := Lib.hid (right_iff.1 hR)
        clear hR
        go_upto_region 32 with fail
        exact mirC n A C M cap ccap cm gb es rs w w9 g0 g1 (Nat.lt_of_lt_of_le gl HK9.out.size) ((HES.out.below HK9.out).more HK9.out.size) ((HRS.out.at_.below HK9.out).more HK9.out.size) ((HM.out.below HK9.out).more HK9.out.size) HW9.out HP.out he hr1 Hr2.out _ _ _ _ _ _ _ _ _ _ _ _ _ _ _ _ _ _ _ _ _ _ _ _ _ _ _ _ _ _ _ _ _ _ _ _ _ _ _ _ _ _ _ _ _ _ _ _ _ _ _ _ _ _ _ _ _ _ _ _ _ _ _ _ _ _ _ _ _ _ _ _ _ _ _ _ _ _ _ _ _ _ _ _ _ _ _ _ _ _ _ _ _ _ _ _ _ _ _ _ _ _ _ _ _ _ _ _ (by assumption)
end Go.Proofs.Ythdifhfmgmmljaa
