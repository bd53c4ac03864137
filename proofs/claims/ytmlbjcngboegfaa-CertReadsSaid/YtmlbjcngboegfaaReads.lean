/-
  Law CertReads: walked. Printed by wip/C/readsgen.py. Written by an AI agent.
-/
import Derived.Test.YtmlbjcngboegfaaBytes
import Derived.Test.YtmlbjcngboegfaaRdD
namespace Go.Proofs.Ytmlbjcngboegfaa
open Go.RowKit

theorem listO_le {α : Type} {e : α → Option (List Int)} {l : List α} {p : List Int} (h : listO e l = some p) : l.length ≤ 128 ∧ ∃ q, goO e l = some q := by
  unfold listO at h
  split at h
  · cases h
  · cases hg : goO e l with
    | none => rw [hg] at h; cases h
    | some q => exact ⟨by omega, q, rfl⟩
theorem goO_mem {α : Type} {e : α → Option (List Int)} : ∀ {l : List α} {p : List Int}, goO e l = some p → ∀ x ∈ l, ∃ a, e x = some a
  | [], _, _, x, hx => by cases hx
  | y :: r, p, h, x, hx => by
    rw [goO] at h
    cases ha : e y with
    | none => rw [ha] at h; cases h
    | some a =>
      cases hr : goO e r with
      | none => rw [ha, hr] at h; cases h
      | some q =>
        rcases List.mem_cons.1 hx with rfl | hx
        · exact ⟨a, ha⟩
        · exact goO_mem hr x hx
theorem rows_le {α : Type} {e : α → Option (List Int)} {l : List (List α)} {p : List Int} (h : listO (listO e) l = some p) : l.length ≤ 128 ∧ ∀ r ∈ l, r.length ≤ 3000 := by
  obtain ⟨h1, q, h2⟩ := listO_le h
  refine ⟨h1, fun r hr => ?_⟩
  obtain ⟨a, ha⟩ := goO_mem h2 r hr
  have := (listO_le ha).1
  omega
theorem bind_some {o p : Option (List Int)} {r : List Int} (h : (o.bind fun a => p.map (a ++ ·)) = some r) : (∃ a, o = some a) ∧ ∃ b, p = some b := by
  cases o with
  | none => cases h
  | some a =>
    cases p with
    | none => cases h
    | some b => exact ⟨⟨a, rfl⟩, b, rfl⟩
theorem sm_of_enc {x : Crt} {b : List Int} (h : encF x = some b) : CrtSm x := by
  have h := (refE_encF x).trans h
  unfold refE at h
  split at h
  · cases h
  rename_i hbad
  have hbad : refBad x = false := by simpa using hbad
  obtain ⟨⟨o1, o2, o3, o4, o5, o6⟩, hk⟩ := (owns_bad x).1 hbad
  cases hi : refI x with
  | none => rw [hi] at h; cases h
  | some i =>
    clear h hbad
    unfold refI at hi
    have nil : ∀ {α : Type} {l : List (List α)}, l.length = 0 → ∀ r ∈ l, r.length ≤ 3000 := fun h r hr => by
      have := List.length_pos_of_mem hr; omega
    by_cases k1 : x.k = 1
    · rw [if_pos k1] at hi
      obtain ⟨⟨a, ha⟩, c, hc⟩ := bind_some hi
      have l1 := (listO_le ha).1
      obtain ⟨l2, l3⟩ := rows_le hc
      exact ⟨⟨by omega, by omega, by omega, by omega, by omega, by omega, by omega, by omega, by omega, by omega⟩, l3, nil (by omega), nil (by omega)⟩
    rw [if_neg k1] at hi
    by_cases k2 : x.k = 2
    · rw [if_pos k2] at hi
      obtain ⟨⟨a, ha⟩, c, hc⟩ := bind_some hi
      obtain ⟨l2, l3⟩ := rows_le ha
      exact ⟨⟨by omega, by omega, by omega, by omega, by omega, by omega, by omega, by omega, by omega, by omega⟩, nil (by omega), l3, nil (by omega)⟩
    rw [if_neg k2] at hi
    by_cases k3 : x.k = 3
    · rw [if_pos k3] at hi
      obtain ⟨⟨a, ha⟩, c, hc⟩ := bind_some hi
      have l1 := (listO_le ha).1
      obtain ⟨l2, l3⟩ := rows_le hc
      exact ⟨⟨by omega, by omega, by omega, by omega, by omega, by omega, by omega, by omega, by omega, by omega⟩, nil (by omega), nil (by omega), l3⟩
    rw [if_neg k3] at hi
    by_cases k4 : x.k = 4
    · rw [if_pos k4] at hi
      have l : ∀ l ∈ [x.b0, x.b1, x.b2, x.b3], l.length ≤ 128 := fun l hl => by
        obtain ⟨a, ha⟩ := goO_mem hi l hl
        exact (listO_le ha).1
      have l0 := l x.b0 (by simp)
      have l1 := l x.b1 (by simp)
      have l2 := l x.b2 (by simp)
      have l3 := l x.b3 (by simp)
      exact ⟨⟨by omega, by omega, by omega, by omega, by omega, by omega, by omega, by omega, by omega, by omega⟩, nil (by omega), nil (by omega), nil (by omega)⟩
    rw [if_neg k4] at hi
    have l1 := (listO_le hi).1
    exact ⟨⟨by omega, by omega, by omega, by omega, by omega, by omega, by omega, by omega, by omega, by omega⟩, nil (by omega), nil (by omega), nil (by omega)⟩
theorem sm_bare : CrtSm (bare 0) := ⟨⟨by decide, by decide, by decide, by decide, by decide, by decide, by decide, by decide, by decide, by decide⟩, fun l hl => (by cases hl), fun l hl => (by cases hl), fun l hl => (by cases hl)⟩
theorem is_bare (w : World) (B : Nat) : CrtIs w B CV0 (bare 0) := ⟨Cells.nil, TblAt.nil, TblAt.nil, Cells.nil, TblAt.nil, Cells.nil, Cells.nil, Cells.nil, Cells.nil, Cells.nil⟩

set_option maxRecDepth 20000 in
set_option maxHeartbeats 4000000 in
theorem reads_any (M : Option Addr) (b : List Int) (c : Nat) (w : World) (h : Cells w w.heap.size M (byteCells b)) (hb : Bytes b) :
    Calls Try.prog 4 #[.slice M b.length c] w (fun e w' => e = .returned (.bool true) ∧ Below w.heap.size w w') := by
  have HM := Lib.hid h
  have Hb := Lib.hid hb
  clear h hb
  go_enter Try.func4, Try.ntmps4
  go_wp2_with fail
  refine (speaks_any _).mono ?_
  rintro e w1 ⟨rfl, hb1⟩
  have HB1 := Lib.hid hb1
  have HM1 := Lib.hid (HM.out.below hb1)
  have hz1 := hb1.size
  clear hb1
  by_cases hl : 3000 < b.length
  · have hl' : (3000 : Int) < b.length := by omega
    go_wp2_with fail
    go_ret
    exact ⟨rfl, HB1.out⟩
  have hl' : ¬ (3000 : Int) < b.length := by omega
  have hown0 : (w1.alloc (.cells #[] 5)).ownsRow w1.heap.size 5 1 (.slice (some ⟨w1.heap.size, 0, none⟩) 0 0) 0 [] := own_of_blk (xs := []) (blk_new' _ _ _ _ rfl) (Nat.le_refl _) rfl (by omega)
  have hb2 : Below w1.heap.size w1 (w1.alloc (.cells #[] 5)) := (Below.refl _ _).alloc (Nat.le_refl _) _
  have HM2 := Lib.hid ((HM1.out.more hz1).below hb2)
  have HB2 := Lib.hid (HB1.out.trans (hb2.mono hz1))
  have hz2 := hb2.size
  clear hb2
  go_wp2_with (at_builtin; refine wp_app_any elemByte rfl _ _ rfl rfl hown0 rfl HM2.out (show (byteCells b).length = b.length * 1 by simp [byteCells]) (bytes_one b) ?h2 ?h3 ?h4 ?_)
  case h2 => omega
  case h3 => omega
  case h4 => exact hz2
  intro v3 w3 hown3 hg3 _
  have hb3 := below_app (Below.refl w1.heap.size _) hown0 hg3 hz2 (Nat.le_refl _)
  have HM3 := Lib.hid (HM2.out.below hb3)
  have HB3 := Lib.hid (HB2.out.trans (hb3.mono hz1))
  have hz3 := Nat.le_trans hz2 hg3.size
  obtain ⟨A3, c3, rfl⟩ := own_slice hown3
  have HDD := Lib.hid (decode_any A3 b c3 w3 Hb.out (own_cap hown3) (Cells.of_own hown3) (by omega))
  clear hown0 hown3 hg3 hb3
  go_wp2_with fail
  try rw [Nat.zero_add]
  refine HDD.out.mono ?_
  rintro e w4 ⟨hb4, hn4, hs4⟩
  have HM4 := Lib.hid ((HM3.out.more hz3).below hb4)
  have HB4 := Lib.hid (HB3.out.trans (hb4.mono HB3.out.size))
  have hz4 := hb4.size
  clear hb4 HDD HM1 HM2 HM3
  have HQ := Lib.hid (refD_decF Hb.out)
  have hfail : True := True.intro
  cases hE : decF b with
  | none =>
    obtain rfl := hn4 hE
    have HN := Lib.hid (HQ.out.trans hE)
    clear hn4 hs4 hE
    unfold crtVal crtCells CV0 bare
    simp only [List.length_nil]
    have hb5 := (Below.refl w4.heap.size w4).alloc (Nat.le_refl _) (.cells #[.int .i64 0, .slice none 0 0, .slice none 0 0, .slice none 0 0, .int .i64 0, .slice none 0 0, .slice none 0 0, .slice none 0 0, .slice none 0 0, .slice none 0 0, .slice none 0 0, .slice none 0 0] 39)
    have HP5 := Lib.hid (Blk.new w4 39 #[.int .i64 0, .slice none 0 0, .slice none 0 0, .slice none 0 0, .int .i64 0, .slice none 0 0, .slice none 0 0, .slice none 0 0, .slice none 0 0, .slice none 0 0, .slice none 0 0, .slice none 0 0])
    have HM5 := Lib.hid ((HM4.out.more hz4).below hb5)
    have HB5 := Lib.hid (HB4.out.trans (hb5.mono HB4.out.size))
    have hz5 : (w4.alloc (.cells #[.int .i64 0, .slice none 0 0, .slice none 0 0, .slice none 0 0, .int .i64 0, .slice none 0 0, .slice none 0 0, .slice none 0 0, .slice none 0 0, .slice none 0 0, .slice none 0 0, .slice none 0 0] 39)).heap.size = w4.heap.size + 1 := by simp
    clear hb5
    go_wp2_with fail
    generalize w4.alloc (.cells #[.int .i64 0, .slice none 0 0, .slice none 0 0, .slice none 0 0, .int .i64 0, .slice none 0 0, .slice none 0 0, .slice none 0 0, .slice none 0 0, .slice none 0 0, .slice none 0 0, .slice none 0 0] 39) = w5 at *
    refine (refDecode_any M b c w5 (HM5.out.more (by omega)) Hb.out (by omega)).mono ?_
    rintro e w6 ⟨hb6, hn6, _⟩
    obtain rfl := hn6 HN.out
    have HP6 := Lib.hid (HP5.out.below hb6 (by omega))
    have HB6 := Lib.hid (HB5.out.trans (hb6.mono HB5.out.size))
    have hz6 := hb6.size
    clear hb6 hn6
    unfold crtVal crtCells CV0 bare
    simp only [List.length_nil]
    have hb7 := (Below.refl w6.heap.size w6).alloc (Nat.le_refl _) (.cells #[.int .i64 0, .slice none 0 0, .slice none 0 0, .slice none 0 0, .int .i64 0, .slice none 0 0, .slice none 0 0, .slice none 0 0, .slice none 0 0, .slice none 0 0, .slice none 0 0, .slice none 0 0] 32)
    have HP7 := Lib.hid (HP6.out.below hb7 (by omega))
    have HB7 := Lib.hid (HB6.out.trans (hb7.mono HB6.out.size))
    clear hb7
    go_upto_region 7 with fail
    generalize w6.alloc (.cells #[.int .i64 0, .slice none 0 0, .slice none 0 0, .slice none 0 0, .int .i64 0, .slice none 0 0, .slice none 0 0, .slice none 0 0, .slice none 0 0, .slice none 0 0, .slice none 0 0, .slice none 0 0] 32) = w7 at *
    go_wp2_with (refine wpl_load rfl _ _ rfl w4.heap.size rfl 39 #[.int .i64 0, .slice none 0 0, .slice none 0 0, .slice none 0 0, .int .i64 0, .slice none 0 0, .slice none 0 0, .slice none 0 0, .slice none 0 0, .slice none 0 0, .slice none 0 0, .slice none 0 0] _ HP7.out Try.underlying39 rfl (cert_info rfl) ?_)
    refine (told_any CV0 (bare 0) w7).mono ?_
    rintro e w8 ⟨rfl, hb8⟩
    have HB8 := Lib.hid (HB7.out.trans (hb8.mono HB7.out.size))
    clear hb8
    unfold crtVal crtCells CV0 bare
    simp only [List.length_nil]
    go_wp2_with fail
    refine (same_any CV0 CV0 (bare 0) (bare 0) w8 (is_bare _ _) (is_bare _ _) sm_bare).mono ?_
    rintro e w9 ⟨rfl, hb9⟩
    have HB9 := Lib.hid (HB8.out.trans (hb9.mono HB8.out.size))
    rw [decide_eq_true (rfl : bare 0 = bare 0)]
    clear hb9
    go_wp2_with fail
    go_ret
    exact ⟨rfl, HB9.out⟩
  | some x =>
  obtain ⟨V, rfl, hV4⟩ := hs4 x hE
  have HN := Lib.hid (HQ.out.trans hE)
  have HE := Lib.hid (enc_dec hE)
  have HSm := Lib.hid (sm_of_enc HE.out)
  have HV4 := Lib.hid hV4
  clear hn4 hs4 hE hV4
  unfold crtVal crtCells
  have hb5 := (Below.refl w4.heap.size w4).alloc (Nat.le_refl _) (.cells #[Value.int .i64 x.k, .slice V.a1 x.ord.length V.c1, .slice V.a2 x.outs.length V.c2, .slice V.a3 x.turn.length V.c3, .int .i64 x.outer, .slice V.a5 x.pts.length V.c5, .slice V.a6 x.lines.length V.c6, .slice V.a7 x.b0.length V.c7, .slice V.a8 x.b1.length V.c8, .slice V.a9 x.b2.length V.c9, .slice V.a10 x.b3.length V.c10, .slice V.a11 x.edges.length V.c11] 39)
  have HP5 := Lib.hid (Blk.new w4 39 #[Value.int .i64 x.k, .slice V.a1 x.ord.length V.c1, .slice V.a2 x.outs.length V.c2, .slice V.a3 x.turn.length V.c3, .int .i64 x.outer, .slice V.a5 x.pts.length V.c5, .slice V.a6 x.lines.length V.c6, .slice V.a7 x.b0.length V.c7, .slice V.a8 x.b1.length V.c8, .slice V.a9 x.b2.length V.c9, .slice V.a10 x.b3.length V.c10, .slice V.a11 x.edges.length V.c11])
  have HM5 := Lib.hid ((HM4.out.more hz4).below hb5)
  have HB5 := Lib.hid (HB4.out.trans (hb5.mono HB4.out.size))
  have HV5 := Lib.hid (HV4.out.below hb5)
  have hz5 : (w4.alloc (.cells #[Value.int .i64 x.k, .slice V.a1 x.ord.length V.c1, .slice V.a2 x.outs.length V.c2, .slice V.a3 x.turn.length V.c3, .int .i64 x.outer, .slice V.a5 x.pts.length V.c5, .slice V.a6 x.lines.length V.c6, .slice V.a7 x.b0.length V.c7, .slice V.a8 x.b1.length V.c8, .slice V.a9 x.b2.length V.c9, .slice V.a10 x.b3.length V.c10, .slice V.a11 x.edges.length V.c11] 39)).heap.size = w4.heap.size + 1 := by simp
  clear hb5 HV4 HM4
  go_wp2_with fail
  generalize hcells : #[Value.int .i64 x.k, .slice V.a1 x.ord.length V.c1, .slice V.a2 x.outs.length V.c2, .slice V.a3 x.turn.length V.c3, .int .i64 x.outer, .slice V.a5 x.pts.length V.c5, .slice V.a6 x.lines.length V.c6, .slice V.a7 x.b0.length V.c7, .slice V.a8 x.b1.length V.c8, .slice V.a9 x.b2.length V.c9, .slice V.a10 x.b3.length V.c10, .slice V.a11 x.edges.length V.c11] = cells at *
  have Hcells := Lib.hid (show crtCells V x = cells from hcells)
  clear hcells
  generalize w4.alloc (.cells cells 39) = w5 at *
  refine (refDecode_any M b c w5 (HM5.out.more (by omega)) Hb.out (by omega)).mono ?_
  rintro e w6 ⟨hb6, _, hs6⟩
  obtain ⟨U, rfl, hU6⟩ := hs6 x HN.out
  have HP6 := Lib.hid (HP5.out.below hb6 (by omega))
  have HB6 := Lib.hid (HB5.out.trans (hb6.mono HB5.out.size))
  have HV6 := Lib.hid ((HV5.out.more (show w4.heap.size ≤ w5.heap.size by omega)).below hb6)
  have HM6 := Lib.hid ((HM5.out.more (show w4.heap.size ≤ w5.heap.size by omega)).below hb6)
  have HU6 := Lib.hid hU6
  have hz6 := hb6.size
  clear hb6 hs6 hU6 HP5 HV5 HM5
  unfold crtVal crtCells
  have hb7 := (Below.refl w6.heap.size w6).alloc (Nat.le_refl _) (.cells #[Value.int .i64 x.k, .slice U.a1 x.ord.length U.c1, .slice U.a2 x.outs.length U.c2, .slice U.a3 x.turn.length U.c3, .int .i64 x.outer, .slice U.a5 x.pts.length U.c5, .slice U.a6 x.lines.length U.c6, .slice U.a7 x.b0.length U.c7, .slice U.a8 x.b1.length U.c8, .slice U.a9 x.b2.length U.c9, .slice U.a10 x.b3.length U.c10, .slice U.a11 x.edges.length U.c11] 32)
  have HR7 := Lib.hid (Blk.new w6 32 #[Value.int .i64 x.k, .slice U.a1 x.ord.length U.c1, .slice U.a2 x.outs.length U.c2, .slice U.a3 x.turn.length U.c3, .int .i64 x.outer, .slice U.a5 x.pts.length U.c5, .slice U.a6 x.lines.length U.c6, .slice U.a7 x.b0.length U.c7, .slice U.a8 x.b1.length U.c8, .slice U.a9 x.b2.length U.c9, .slice U.a10 x.b3.length U.c10, .slice U.a11 x.edges.length U.c11])
  have HP7 := Lib.hid (HP6.out.below hb7 (by omega))
  have HB7 := Lib.hid (HB6.out.trans (hb7.mono HB6.out.size))
  have HV7 := Lib.hid ((HV6.out.more hz6).below hb7)
  have HU7 := Lib.hid (HU6.out.below hb7)
  have HM7 := Lib.hid ((HM6.out.more hz6).below hb7)
  have hz7 : (w6.alloc (.cells #[Value.int .i64 x.k, .slice U.a1 x.ord.length U.c1, .slice U.a2 x.outs.length U.c2, .slice U.a3 x.turn.length U.c3, .int .i64 x.outer, .slice U.a5 x.pts.length U.c5, .slice U.a6 x.lines.length U.c6, .slice U.a7 x.b0.length U.c7, .slice U.a8 x.b1.length U.c8, .slice U.a9 x.b2.length U.c9, .slice U.a10 x.b3.length U.c10, .slice U.a11 x.edges.length U.c11] 32)).heap.size = w6.heap.size + 1 := by simp
  clear hb7 HP6 HV6 HU6 HM6
  go_upto_region 7 with fail
  generalize hcellsU : #[Value.int .i64 x.k, .slice U.a1 x.ord.length U.c1, .slice U.a2 x.outs.length U.c2, .slice U.a3 x.turn.length U.c3, .int .i64 x.outer, .slice U.a5 x.pts.length U.c5, .slice U.a6 x.lines.length U.c6, .slice U.a7 x.b0.length U.c7, .slice U.a8 x.b1.length U.c8, .slice U.a9 x.b2.length U.c9, .slice U.a10 x.b3.length U.c10, .slice U.a11 x.edges.length U.c11] = cellsU at *
  have HcellsU := Lib.hid (show crtCells U x = cellsU from hcellsU)
  clear hcellsU
  generalize w6.alloc (.cells cellsU 32) = w7 at *
  have hcs : cells.size = 12 := by rw [← Hcells.out]; rfl
  have Hcs := Lib.hid hcs
  clear hcs
  go_wp2_with (refine wpl_load rfl _ _ rfl w4.heap.size rfl 39 cells _ HP7.out Try.underlying39 rfl (cert_info Hcs.out) ?_)
  have HEn := Lib.hid (encode_any V x w7 (HV7.out.more (by omega)) HSm.out.le)
  unfold crtVal at HEn
  rw [Hcells.out] at HEn
  refine HEn.out.mono ?_
  rintro e w8 ⟨hb8, _, hs8⟩
  obtain ⟨A8, c8, rfl, _, hC8⟩ := hs8 b HE.out
  have HP8 := Lib.hid (HP7.out.below hb8 (by omega))
  have HR8 := Lib.hid (HR7.out.below hb8 (by omega))
  have HB8 := Lib.hid (HB7.out.trans (hb8.mono HB7.out.size))
  have HV8 := Lib.hid ((HV7.out.more (show w6.heap.size ≤ w7.heap.size by omega)).below hb8)
  have HU8 := Lib.hid ((HU7.out.more (show w6.heap.size ≤ w7.heap.size by omega)).below hb8)
  have HM8 := Lib.hid ((HM7.out.more (show w6.heap.size ≤ w7.heap.size by omega)).below hb8)
  have HC8 := Lib.hid hC8
  have hz8 := hb8.size
  clear hb8 hs8 hC8 HP7 HR7 HV7 HU7 HM7 HEn
  have Hz87 := Lib.hid (show w7.heap.size ≤ w8.drew.heap.size from hz8)
  obtain ⟨S, hS⟩ : ∃ S, S = strOfNums b := ⟨_, rfl⟩
  have HSS := Lib.hid hS
  clear hS hfail
  go_wp2_with fail
  refine R3.wp_region_i 0 [[]] [0, 0, 0, 0, 0, 0, 0, 0, 0, 0, 0, 0, 0, 0, 0, 0, 0, 0, 0, 0]
    [([], .val (.int .i64 0)), ([0], .val (.bool true)), ([1], .val (.bool true)), ([2], .val (.agg cells)), ([2, 3], .val (.agg cells)), ([2], .val (.agg cellsU)), ([2, 4, 5], .val (.bool (decide (x = x)))), ([2, 6], .val (.bool true)), ([7], .val (.bool true)), ([8], .val (.int .i64 0)), ([8, 9], .val (.bool true)), ([8, 10], .val (.bool true)), ([11], .val (.bool true)), ([12], .val (.slice A8 b.length c8)), ([12, 13], .val (.string S)), ([12], .val (.slice M b.length c)), ([12, 15], .val (.string S)), ([12, 14, 16], .val (.bool true)), ([12, 17], .val (.bool true)), ([18], .val (.bool true))] [19] (by kernel_rfl) (by kernel_rfl) (fun us => ?_) ?_
  · refine R3.pgo_pure _ rfl rfl (fun wv hw hu => ⟨.int .i64 0, ?_, rfl⟩) ?_
    · have tok := True.intro
      clear hw hu
      go_simp
    refine R3.pgo_pure _ rfl rfl (fun wv hw hu => ⟨.bool true, ?_, rfl⟩) ?_
    · have tok := True.intro
      have h0 : us 0 = .int .i64 0 := hu.1
      clear hw hu
      go_simp
    refine R3.pgo_pure _ rfl rfl (fun wv hw hu => ⟨.bool true, ?_, rfl⟩) ?_
    · have tok := True.intro
      have h1 : us 1 = .bool true := hu.1
      clear hw hu
      go_simp
    refine pgo_gval _ 2 43 true rfl rfl rfl (by simp [put_size]) (fun wv hu => by
        have hg : us 2 = .bool true := hu.1
        exact (by repeat (first | (with_reducible exact (put_eval_same _ _ _ (by simp [put_size])).trans hg) | (with_reducible refine put_eval _ _ _ _ _ (by decide) ?_)))) (fun wv hw hu => ⟨.agg cells, wv, ?_, Evo.refl _ _ _, rfl⟩) ?_
    · have tok := True.intro
      have h2 : us 2 = .bool true := hu.1
      have hbv := HP8.out.below (below_undrew (evo_nil (by kernel_rfl) hw)) HP8.out.lt
      exact run_load_row _ _ rfl w4.heap.size (by (repeat (with_reducible refine put_eval _ _ _ _ _ (by decide) ?_)); rfl) 39 cells _ hbv Try.underlying39 rfl (cert_info Hcs.out)
    refine pgo_gcall _ 2 43 true rfl rfl rfl (by simp [put_size]) (fun wv hu => by
        have hg : us 2 = .bool true := hu.1
        exact (by repeat (first | (with_reducible exact (put_eval_same _ _ _ (by simp [put_size])).trans hg) | (with_reducible refine put_eval _ _ _ _ _ (by decide) ?_)))) 14 #[.agg cells] (fun wv hw hu => ?_) ?_
    · have tok := True.intro
      have h2 : us 2 = .bool true := hu.1
      have h3 : us 3 = .agg cells := hu.2.1
      have hbv := evo_nil (by kernel_rfl) hw
      refine ⟨?_, (by rw [← Hcells.out]; exact (told_any V x wv).mono fun e w'' he => ⟨_, he.1, Evo.of_below he.2, rfl⟩)⟩
      clear hw hu hbv
      go_simp
    refine pgo_gval _ 2 43 true rfl rfl rfl (by simp [put_size]) (fun wv hu => by
        have hg : us 2 = .bool true := hu.1
        exact (by repeat (first | (with_reducible exact (put_eval_same _ _ _ (by simp [put_size])).trans hg) | (with_reducible refine put_eval _ _ _ _ _ (by decide) ?_)))) (fun wv hw hu => ⟨.agg cellsU, wv, ?_, Evo.refl _ _ _, rfl⟩) ?_
    · have tok := True.intro
      have h2 : us 2 = .bool true := hu.1
      have hbv := HR8.out.below (below_undrew (evo_nil (by kernel_rfl) hw)) HR8.out.lt
      exact run_load_row _ _ rfl w6.heap.size (by (repeat (with_reducible refine put_eval _ _ _ _ _ (by decide) ?_)); rfl) 32 cellsU _ hbv Try.underlying32 rfl (crt_info (by rw [← HcellsU.out]; rfl))
    refine pgo_gcall _ 2 43 true rfl rfl rfl (by simp [put_size]) (fun wv hu => by
        have hg : us 2 = .bool true := hu.1
        exact (by repeat (first | (with_reducible exact (put_eval_same _ _ _ (by simp [put_size])).trans hg) | (with_reducible refine put_eval _ _ _ _ _ (by decide) ?_)))) 13 #[.agg cells, .agg cellsU] (fun wv hw hu => ?_) ?_
    · have tok := True.intro
      have h2 : us 2 = .bool true := hu.1
      have h4 : us 4 = .agg cells := hu.2.1
      have h5 : us 5 = .agg cellsU := hu.2.2.1
      have hbv := evo_nil (by kernel_rfl) hw
      refine ⟨?_, (by rw [← Hcells.out, ← HcellsU.out]; exact (same_any V U x x wv ((HV8.out.below (below_undrew (hbv.mono Hz87.out))).more (Nat.le_trans Hz87.out hbv.size)) ((HU8.out.below (below_undrew (hbv.mono Hz87.out))).more (Nat.le_trans Hz87.out hbv.size)) HSm.out).mono fun e w'' he => ⟨_, he.1, Evo.of_below he.2, rfl⟩)⟩
      clear hw hu hbv
      go_simp
    refine R3.pgo_pure _ rfl rfl (fun wv hw hu => ⟨.bool true, ?_, rfl⟩) ?_
    · have tok := True.intro
      have h2 : us 2 = .bool true := hu.1
      have h6 : us 6 = .bool (decide (x = x)) := hu.2.1
      rw [decide_eq_true rfl] at h6
      clear hw hu
      go_simp
    refine R3.pgo_pure _ rfl rfl (fun wv hw hu => ⟨.bool true, ?_, rfl⟩) ?_
    · have tok := True.intro
      have h7 : us 7 = .bool true := hu.1
      clear hw hu
      go_simp
    refine pgo_gval _ 8 49 true rfl rfl rfl (by simp [put_size]) (fun wv hu => by
        have hg : us 8 = .bool true := hu.1
        exact (by repeat (first | (with_reducible exact (put_eval_same _ _ _ (by simp [put_size])).trans hg) | (with_reducible refine put_eval _ _ _ _ _ (by decide) ?_)))) (fun wv hw hu => ⟨.int .i64 0, wv, ?_, Evo.refl _ _ _, rfl⟩) ?_
    · have tok := True.intro
      have h8 : us 8 = .bool true := hu.1
      clear hw hu
      go_simp
    refine pgo_gval _ 8 49 true rfl rfl rfl (by simp [put_size]) (fun wv hu => by
        have hg : us 8 = .bool true := hu.1
        exact (by repeat (first | (with_reducible exact (put_eval_same _ _ _ (by simp [put_size])).trans hg) | (with_reducible refine put_eval _ _ _ _ _ (by decide) ?_)))) (fun wv hw hu => ⟨.bool true, wv, ?_, Evo.refl _ _ _, rfl⟩) ?_
    · have tok := True.intro
      have h8 : us 8 = .bool true := hu.1
      have h9 : us 9 = .int .i64 0 := hu.2.1
      clear hw hu
      go_simp
    refine R3.pgo_pure _ rfl rfl (fun wv hw hu => ⟨.bool true, ?_, rfl⟩) ?_
    · have tok := True.intro
      have h8 : us 8 = .bool true := hu.1
      have h10 : us 10 = .bool true := hu.2.1
      clear hw hu
      go_simp
    refine R3.pgo_pure _ rfl rfl (fun wv hw hu => ⟨.bool true, ?_, rfl⟩) ?_
    · have tok := True.intro
      have h11 : us 11 = .bool true := hu.1
      clear hw hu
      go_simp
    refine pgo_gval _ 12 53 true rfl rfl rfl (by simp [put_size]) (fun wv hu => by
        have hg : us 12 = .bool true := hu.1
        exact (by repeat (first | (with_reducible exact (put_eval_same _ _ _ (by simp [put_size])).trans hg) | (with_reducible refine put_eval _ _ _ _ _ (by decide) ?_)))) (fun wv hw hu => ⟨.slice A8 b.length c8, wv, ?_, Evo.refl _ _ _, rfl⟩) ?_
    · have tok := True.intro
      have h12 : us 12 = .bool true := hu.1
      clear hw hu
      go_simp
    refine pgo_gval _ 12 53 true rfl rfl rfl (by simp [put_size]) (fun wv hu => by
        have hg : us 12 = .bool true := hu.1
        exact (by repeat (first | (with_reducible exact (put_eval_same _ _ _ (by simp [put_size])).trans hg) | (with_reducible refine put_eval _ _ _ _ _ (by decide) ?_)))) (fun wv hw hu => ⟨.string S, wv, ?_, Evo.refl _ _ _, rfl⟩) ?_
    · have tok := True.intro
      have h12 : us 12 = .bool true := hu.1
      have h13 : us 13 = .slice A8 b.length c8 := hu.2.1
      have hcv := conv_bytes wv (HC8.out.below (below_undrew (evo_nil (by kernel_rfl) hw))) b.length c8 rfl
      rw [← HSS.out] at hcv
      clear hw hu
      go_simp
    refine pgo_gval _ 12 53 true rfl rfl rfl (by simp [put_size]) (fun wv hu => by
        have hg : us 12 = .bool true := hu.1
        exact (by repeat (first | (with_reducible exact (put_eval_same _ _ _ (by simp [put_size])).trans hg) | (with_reducible refine put_eval _ _ _ _ _ (by decide) ?_)))) (fun wv hw hu => ⟨.slice M b.length c, wv, ?_, Evo.refl _ _ _, rfl⟩) ?_
    · have tok := True.intro
      have h12 : us 12 = .bool true := hu.1
      clear hw hu
      go_simp
    refine pgo_gval _ 12 53 true rfl rfl rfl (by simp [put_size]) (fun wv hu => by
        have hg : us 12 = .bool true := hu.1
        exact (by repeat (first | (with_reducible exact (put_eval_same _ _ _ (by simp [put_size])).trans hg) | (with_reducible refine put_eval _ _ _ _ _ (by decide) ?_)))) (fun wv hw hu => ⟨.string S, wv, ?_, Evo.refl _ _ _, rfl⟩) ?_
    · have tok := True.intro
      have h12 : us 12 = .bool true := hu.1
      have h15 : us 15 = .slice M b.length c := hu.2.1
      have hcv := conv_bytes wv (HM8.out.below (below_undrew (evo_nil (by kernel_rfl) hw)|>.mono Hz87.out)) b.length c rfl
      rw [← HSS.out] at hcv
      clear hw hu
      go_simp
    refine pgo_gval _ 12 53 true rfl rfl rfl (by simp [put_size]) (fun wv hu => by
        have hg : us 12 = .bool true := hu.1
        exact (by repeat (first | (with_reducible exact (put_eval_same _ _ _ (by simp [put_size])).trans hg) | (with_reducible refine put_eval _ _ _ _ _ (by decide) ?_)))) (fun wv hw hu => ⟨.bool true, wv, ?_, Evo.refl _ _ _, rfl⟩) ?_
    · have tok := True.intro
      have h12 : us 12 = .bool true := hu.1
      have h14 : us 14 = .string S := hu.2.1
      have h16 : us 16 = .string S := hu.2.2.1
      clear hw hu
      go_simp
    refine R3.pgo_pure _ rfl rfl (fun wv hw hu => ⟨.bool true, ?_, rfl⟩) ?_
    · have tok := True.intro
      have h12 : us 12 = .bool true := hu.1
      have h17 : us 17 = .bool true := hu.2.1
      clear hw hu
      go_simp
    refine R3.pgo_pure _ rfl rfl (fun wv hw hu => ⟨.bool true, ?_, rfl⟩) ?_
    · have tok := True.intro
      have h18 : us 18 = .bool true := hu.1
      clear hw hu
      go_simp
    trivial
  · intro us w' hw hu
    have h19 : us 19 = .bool true := hu.1
    have hbl := HB8.out.trans (below_undrew ((evo_nil (by kernel_rfl) hw).mono HB8.out.size))
    have HBL := Lib.hid hbl
    clear hw hu hbl
    simp only [lexL]
    go_simp
    go_wp2_with fail
    go_ret
    exact ⟨rfl, HBL.out⟩
end Go.Proofs.Ytmlbjcngboegfaa
