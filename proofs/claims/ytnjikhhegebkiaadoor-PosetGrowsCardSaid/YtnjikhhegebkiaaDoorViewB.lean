/-
  graph.Of: the view in memory, from its making on. (Printed by viewgen.py.) Written by an AI agent.
-/
import Derived.Test.YtnjikhhegebkiaaDoorView
namespace Go.Proofs.YtnjikhhegebkiaaDoor
open Go.RowKit

/-- block gv is the view of a graph -/
def ViewAt (w : World) (gv n : Nat) (es : List (Int × Int)) : Prop := ∃ (A : Option Addr) (c go gi : Nat) (os is : List Value),
  Blk w gv 67 #[.int .i64 n, .slice A es.length c, .slice (some ⟨go, 0, none⟩) n n, .slice (some ⟨gi, 0, none⟩) n n] ∧ Cells w w.heap.size A (edgeCells es) ∧ os.length = n ∧ is.length = n ∧ Blk w go 31 os.toArray ∧ Blk w gi 31 is.toArray ∧ RowsW w 0 (os ++ is) (lsV n es es.length es.length)
theorem ViewAt.below {B : Nat} {w w' : World} {gv n : Nat} {es : List (Int × Int)} (h : ViewAt w gv n es) (hb : Below B w w') (hB : w.heap.size ≤ B) : ViewAt w' gv n es := by
  obtain ⟨A, c, go, gi, os, is, h1, h2, h3, h4, h5, h6, h7⟩ := h
  have hs := hb.size
  exact ⟨A, c, go, gi, os, is, h1.below hb (Nat.lt_of_lt_of_le h1.lt hB), (h2.keep fun p hp => hb.cell (Nat.lt_of_lt_of_le hp hB)).more hs, h3, h4, h5.below hb (Nat.lt_of_lt_of_le h5.lt hB), h6.below hb (Nat.lt_of_lt_of_le h6.lt hB), h7.below hb hB⟩
theorem RowsW.mono {base base' : Nat} {w : World} {vs : List Value} {ls : List (List Int)} (h : RowsW w base vs ls) (hb : base' ≤ base) : RowsW w base' vs ls := ⟨h.len, fun k h1 h2 => own_mono (h.own k h1 h2) hb, h.apart⟩
theorem below_drew' {B : Nat} {w w' : World} (h : Below B w w') : Below B w w'.drew := ⟨h.os, h.tape, h.output, h.size, h.block⟩
set_option maxRecDepth 20000 in
set_option maxHeartbeats 4000000 in
theorem view4 (n : Nat) (A : Option Addr) (cap gb gv go gi B0 : Nat) (es : List (Int × Int)) (w wc : World) (b1 : wc.cell? ⟨gb, 1, none⟩ = some (.slice A es.length cap)) (hgb : gb < B0) (hes : Cells wc B0 A (edgeCells es)) (hE : ∀ e ∈ es, 0 ≤ e.1 ∧ e.1 < (n : Int) ∧ 0 ≤ e.2 ∧ e.2 < (n : Int)) (hn : n ≤ 64) (hl : es.length ≤ 1000)
    (hB : Below w.heap.size w wc) (hB0 : w.heap.size ≤ B0) (hBw : B0 ≤ wc.heap.size) (hgv : B0 ≤ gv) (hgo : B0 ≤ go) (hgi : B0 ≤ gi) (hne : go ≠ gi) (hv : Blk wc gv 67 #[.int .i64 n, .slice A es.length cap, .slice (some ⟨go, 0, none⟩) n n, .slice (some ⟨gi, 0, none⟩) n n]) (ho : Blk wc go 31 (Array.replicate n (.slice none 0 0))) (hi : Blk wc gi 31 (Array.replicate n (.slice none 0 0)))
    (u0 u6 u7 u8 u9 u10 u11 u12 u13 u14 u15 u16 u17 u18 u19 u20 u21 u22 u23 u24 u25 u26 u30 u31 u32 u33 u34 u35 u36 u37 u38 u39 u40 u41 u42 u43 u44 u45 u46 u47 u48 u49 u50 u51 u52 u53 u54 u55 u56 u57 u58 u59 u60 u61 u62 u63 u64 u65 u66 u67 u68 u69 u70 u71 : Value) (K : Act → World → Prop) (hK : ∀ a0 w0, Code.wp Tryd.prog (sndC (restC 3 ((Tryd.f32.body).getD .skip))) (bodyPost Tryd.prog Tryd.f32 (fun e w' => ∃ gv, e = .returned (.pointer (some ⟨gv, 0, none⟩)) ∧ Below w.heap.size w w' ∧ ViewAt w' gv n es)) a0 w0 → K a0 w0) :
    Code.wp Tryd.prog (fstC (restC 3 ((Tryd.f32.body).getD .skip))) (Exit.then K (bodyPost Tryd.prog Tryd.f32 (fun e w' => ∃ gv, e = .returned (.pointer (some ⟨gv, 0, none⟩)) ∧ Below w.heap.size w w' ∧ ViewAt w' gv n es))) ⟨#[u0, .pointer (some ⟨gb, 0, none⟩), .pointer none, .pointer (some ⟨gv, 0, none⟩), undef, undef, u6, u7, u8, u9, u10, u11, u12, u13, u14, u15, u16, u17, u18, u19, u20, u21, u22, u23, u24, u25, u26, undef, undef, undef, u30, u31, u32, u33, u34, u35, u36, u37, u38, u39, u40, u41, u42, u43, u44, u45, u46, u47, u48, u49, u50, u51, u52, u53, u54, u55, u56, u57, u58, u59, u60, u61, u62, u63, u64, u65, u66, u67, u68, u69, u70, u71], []⟩ wc := by
  refine wp_mono (Q := Exit.then (fun a0 w0 => Code.wp Tryd.prog (sndC (restC 3 ((Tryd.f32.body).getD .skip))) (bodyPost Tryd.prog Tryd.f32 (fun e w' => ∃ gv, e = .returned (.pointer (some ⟨gv, 0, none⟩)) ∧ Below w.heap.size w w' ∧ ViewAt w' gv n es)) a0 w0) (bodyPost Tryd.prog Tryd.f32 (fun e w' => ∃ gv, e = .returned (.pointer (some ⟨gv, 0, none⟩)) ∧ Below w.heap.size w w' ∧ ViewAt w' gv n es))) ?_ (then_k hK)
  clear hK
  conv => arg 2; whnf
  conv => arg 3; arg 1; ext a w; arg 2; whnf
  refine then_open fun K2 hK2 => ?_
  have HES := Lib.hid hes
  have HE0 := Lib.hid hE
  have HB := Lib.hid hB
  have HV := Lib.hid hv
  have HO := Lib.hid ho
  have HI := Lib.hid hi
  have hgbw : gb < wc.heap.size := by omega
  have hgvw := hv.lt
  clear hes hE hB hv ho hi
  go_wp2_with fail
  refine (clone_edges A cap es wc (HES.out.more hBw) hl).mono ?_
  rintro e w4 ⟨v4, rfl, hb4, ho4⟩
  obtain ⟨A4, c4, rfl⟩ := own_slice ho4
  have hv4 := HV.out.below hb4 HV.out.lt
  have zv : w4.cell? ⟨gv, 1, none⟩ = some (.slice A es.length cap) := hv4.cell 1
  have fv := hv4.frozen 1
  have zb : w4.cell? ⟨gb, 1, none⟩ = some (.slice A es.length cap) := (hb4.cell (p := ⟨gb, 1, none⟩) hgbw).trans b1
  have hsz4 := hb4.size
  have HO4 := Lib.hid (HO.out.below hb4 HO.out.lt)
  have HI4 := Lib.hid (HI.out.below hb4 HI.out.lt)
  have HV4 := Lib.hid hv4
  have HA4 := Lib.hid ho4
  have HB4 := Lib.hid (HB.out.trans (hb4.mono HB.out.size))
  have HES4 := Lib.hid (HES.out.keep (w' := w4) fun p hp => hb4.cell (Nat.lt_of_lt_of_le hp hBw))
  have HV5 := Lib.hid (HV4.out.set_ 1 (.slice A4 es.length c4))
  have HO5 := Lib.hid (HO4.out.far (p := ⟨gv, 1, none⟩) (fun e : go = gv => by
    have h1 := HO4.out
    rw [e] at h1
    exact absurd (h1.symm.trans HV4.out) (by simp)) (.slice A4 es.length c4))
  have HI5 := Lib.hid (HI4.out.far (p := ⟨gv, 1, none⟩) (fun e : gi = gv => by
    have h1 := HI4.out
    rw [e] at h1
    exact absurd (h1.symm.trans HV4.out) (by simp)) (.slice A4 es.length c4))
  have HA5 := Lib.hid (own_evo HA4.out (Evo.set_ (B := B0) HV4.out (List.mem_singleton.2 rfl) hgv 1 (.slice A4 es.length c4)) (by decide))
  have HES5 := Lib.hid (HES4.out.setCell (p := ⟨gv, 1, none⟩) hgv (.slice A4 es.length c4))
  have hs5 := World.size_setCell w4 ⟨gv, 1, none⟩ (.slice A4 es.length c4)
  have HEV := Lib.hid (Evo.set_ (B := B0) HV4.out (List.mem_singleton.2 rfl) hgv 1 (.slice A4 es.length c4))
  clear hv4 hb4 ho4 b1
  go_wp2_with fail
  generalize w4.setCell ⟨gv, 1, none⟩ (.slice A4 es.length c4) = w5 at *
  go_loopg [29] es.length (fun k s29 wr => ∃ (i : Nat) (os is : List Value), s29 = .int .i64 i ∧ i ≤ es.length ∧ k = es.length - i ∧ os.length = n ∧ is.length = n ∧ Blk wr go 31 os.toArray ∧ Blk wr gi 31 is.toArray ∧ RowsW wr B0 (os ++ is) (lsV n es i i) ∧ Evo B0 [3, 31] w5 wr)
  case atStart => exact ⟨0, List.replicate n (.slice none 0 0), List.replicate n (.slice none 0 0), rfl, Nat.zero_le _, rfl, by simp, by simp, by simpa using HO5.out, by simpa using HI5.out, by rw [lsV_zero, List.replicate_append_replicate]; exact RowsW.nils _ _ _, Evo.refl _ _ _⟩
  case round =>
    obtain ⟨i, os, is, rfl, hi, hk, hol, hil, hgo', hgi', hr, hev⟩ := hrel
    by_cases hlt : i < es.length
    · obtain ⟨b, off, rfl, hbb, hcc⟩ := HES5.out.edges (by omega)
      obtain ⟨c0, c1⟩ := hcc i hlt
      have hB5 : B0 ≤ w5.heap.size := by omega
      have hbl := hev.below hB5
      have hszr := hev.size
      have c0' := (hbl.cell (p := ⟨b, off + i * 2, none⟩) hbb).trans c0
      have c1' := (hbl.cell (p := ⟨b, off + i * 2 + 1, none⟩) hbb).trans c1
      have hei := HE0.out es[i] (List.getElem_mem hlt)
      obtain ⟨t, ht⟩ : ∃ t : Nat, es[i].1 = t := ⟨es[i].1.toNat, by omega⟩
      obtain ⟨u, hu⟩ : ∃ u : Nat, es[i].2 = u := ⟨es[i].2.toNat, by omega⟩
      rw [ht] at c0'
      rw [hu] at c1'
      have htn : t < n := by omega
      have hun : u < n := by omega
      have htn' : (t : Int) < n := by omega
      have hun' : (u : Int) < n := by omega
      have hlt' : (i : Int) < es.length := by omega
      have Hk := Lib.hid hk
      have HV7 := Lib.hid ((HV5.out.evo hev (.inr (by decide))).alloc (.cells #[.int .i64 t, .int .i64 u] 40))
      have HG7 := Lib.hid (hgo'.alloc (.cells #[.int .i64 t, .int .i64 u] 40))
      have HI7 := Lib.hid (hgi'.alloc (.cells #[.int .i64 t, .int .i64 u] 40))
      have HR7 := Lib.hid (hr.evo (T := []) (Evo.of_below (B := B0) ((Below.refl _ _).alloc (Nat.le_refl _) (.cells #[.int .i64 t, .int .i64 u] 40))) (by simp))
      have HE7 := Lib.hid (Blk.new wr 40 #[.int .i64 t, .int .i64 u])
      have HEV7 := Lib.hid (hev.trans (Evo.of_below ((Below.refl _ _).alloc (Nat.le_refl _) (.cells #[.int .i64 t, .int .i64 u] 40))))
      have HT := Lib.hid ht
      have HU := Lib.hid hu
      clear hcc c0 c1 hbl hei ht hu hk hev hgo' hgi' hr
      go_upto_region 8 with fail
      generalize wr.alloc (.cells #[.int .i64 t, .int .i64 u] 40) = w7 at *
      obtain ⟨ov, hov⟩ : ∃ ov, ov = os[t]'(by omega) := ⟨_, rfl⟩
      have ht := HT.out
      have hu := HU.out
      have HOV := Lib.hid (show os.toArray[t]? = some ov by rw [hov]; simp [List.getElem?_eq_getElem (show t < os.length by omega)])
      have HIX := Lib.hid (show t < (os ++ is).length by simp; omega)
      have HOV2 := Lib.hid (show ∀ h : t < (os ++ is).length, (os ++ is)[t] = ov by intro h; rw [hov]; exact List.getElem_append_left (by omega))
      obtain ⟨el, hel⟩ : ∃ el, el = endsF es Prod.fst t i := ⟨_, rfl⟩
      have HEL := Lib.hid (show ∀ h : t < (lsV n es i i).length, (lsV n es i i)[t] = el by intro h; rw [hel]; exact lsV_at_fst (by omega) h)
      have HELn := Lib.hid (show el.length ≤ 1000 by have := endsF_length es Prod.fst t i; rw [← hel] at this; omega)
      have HLS := Lib.hid (show (lsV n es i i).set (t) (el ++ [(i : Int)]) = lsV n es (i + 1) i by rw [hel]; exact lsV_fst (by omega) (by rw [List.getD_eq_getElem?_getD, List.getElem?_eq_getElem hlt]; exact ht))
      clear hov hel
      have HV := HV7
      have HE := HE7
      have HGgo := HG7
      have HGgi := HI7
      have HR := HR7
      have HBL := Lib.hid (show B0 ≤ w7.heap.size from Nat.le_trans (show B0 ≤ w5.heap.size from hB5) HEV7.out.size)
      clear ht hu
      refine R3.wp_region_i B0 [[], [3], [31]] [0, 0, 0, 0, 0, 0, 0, 0, 0, 0, 0, 0, 0, 0, 0, 0, 1, 0, 2]
        [([], .val (.pointer (some ⟨gv, 0, none⟩))), ([0], .val (.pointer (some ⟨gv, 0, none⟩))), ([1], .val (.pointer (some ⟨gv, 2, none⟩))), ([2], .val (.slice (some ⟨go, 0, none⟩) n n)), ([], .val (.pointer (some ⟨wr.heap.size, 0, none⟩))), ([4], .val (.int .i64 t)), ([], .val (.pointer (some ⟨gv, 0, none⟩))), ([6], .val (.pointer (some ⟨gv, 0, none⟩))), ([7], .val (.pointer (some ⟨gv, 2, none⟩))), ([8], .val (.slice (some ⟨go, 0, none⟩) n n)), ([], .val (.pointer (some ⟨wr.heap.size, 0, none⟩))), ([10], .val (.int .i64 t)), ([9, 11], .val (.pointer (some ⟨go, t, none⟩))), ([12], .val ov), ([], .val (.int .i64 i)), ([14], .row 3 #[.int .i64 i] 1 1), ([13, 15], pfRows (os ++ is) (t) (el.length + 1) (lsV n es (i + 1) i)), ([3, 5], .val (.pointer (some ⟨go, t, none⟩))), ([17, 16], pfPut2 go 16 31 (fun v => (os.set t v).toArray) gi is.toArray)] [16, 18] (by kernel_rfl) (by kernel_rfl) (fun us => ?_) ?_
      · refine R3.pgo_pure _ rfl rfl (fun wv hw hu => ⟨.pointer (some ⟨gv, 0, none⟩), ?_, rfl⟩) ?_
        · have tok := True.intro
          clear hw hu
          go_simp
        refine R3.pgo_pure _ rfl rfl (fun wv hw hu => ⟨.pointer (some ⟨gv, 0, none⟩), ?_, rfl⟩) ?_
        · have tok := True.intro
          have h0 : us 0 = .pointer (some ⟨gv, 0, none⟩) := hu.1
          clear hw hu
          go_simp
        refine R3.pgo_pure _ rfl rfl (fun wv hw hu => ⟨.pointer (some ⟨gv, 2, none⟩), ?_, rfl⟩) ?_
        · have tok := True.intro
          have h1 : us 1 = .pointer (some ⟨gv, 0, none⟩) := hu.1
          clear hw hu
          go_simp
        refine R3.pgo_pure _ rfl rfl (fun wv hw hu => ⟨.slice (some ⟨go, 0, none⟩) n n, ?_, rfl⟩) ?_
        · have tok := True.intro
          have h2 : us 2 = .pointer (some ⟨gv, 2, none⟩) := hu.1
          have zy : wv.cell? ⟨gv, 2, none⟩ = some (.slice (some ⟨go, 0, none⟩) n n) := (HV.out.drew.evo hw (.inr (of_decide_eq_true (by kernel_rfl)))).cell 2
          clear hw hu
          go_simp
        refine R3.pgo_pure _ rfl rfl (fun wv hw hu => ⟨.pointer (some ⟨wr.heap.size, 0, none⟩), ?_, rfl⟩) ?_
        · have tok := True.intro
          clear hw hu
          go_simp
        refine R3.pgo_pure _ rfl rfl (fun wv hw hu => ⟨.int .i64 t, ?_, rfl⟩) ?_
        · have tok := True.intro
          have h4 : us 4 = .pointer (some ⟨wr.heap.size, 0, none⟩) := hu.1
          have zy : wv.cell? ⟨wr.heap.size, 0, none⟩ = some (.int .i64 t) := (HE.out.drew.evo hw (.inr (of_decide_eq_true (by kernel_rfl)))).cell 0
          clear hw hu
          go_simp
        refine R3.pgo_pure _ rfl rfl (fun wv hw hu => ⟨.pointer (some ⟨gv, 0, none⟩), ?_, rfl⟩) ?_
        · have tok := True.intro
          clear hw hu
          go_simp
        refine R3.pgo_pure _ rfl rfl (fun wv hw hu => ⟨.pointer (some ⟨gv, 0, none⟩), ?_, rfl⟩) ?_
        · have tok := True.intro
          have h6 : us 6 = .pointer (some ⟨gv, 0, none⟩) := hu.1
          clear hw hu
          go_simp
        refine R3.pgo_pure _ rfl rfl (fun wv hw hu => ⟨.pointer (some ⟨gv, 2, none⟩), ?_, rfl⟩) ?_
        · have tok := True.intro
          have h7 : us 7 = .pointer (some ⟨gv, 0, none⟩) := hu.1
          clear hw hu
          go_simp
        refine R3.pgo_pure _ rfl rfl (fun wv hw hu => ⟨.slice (some ⟨go, 0, none⟩) n n, ?_, rfl⟩) ?_
        · have tok := True.intro
          have h8 : us 8 = .pointer (some ⟨gv, 2, none⟩) := hu.1
          have zy : wv.cell? ⟨gv, 2, none⟩ = some (.slice (some ⟨go, 0, none⟩) n n) := (HV.out.drew.evo hw (.inr (of_decide_eq_true (by kernel_rfl)))).cell 2
          clear hw hu
          go_simp
        refine R3.pgo_pure _ rfl rfl (fun wv hw hu => ⟨.pointer (some ⟨wr.heap.size, 0, none⟩), ?_, rfl⟩) ?_
        · have tok := True.intro
          clear hw hu
          go_simp
        refine R3.pgo_pure _ rfl rfl (fun wv hw hu => ⟨.int .i64 t, ?_, rfl⟩) ?_
        · have tok := True.intro
          have h10 : us 10 = .pointer (some ⟨wr.heap.size, 0, none⟩) := hu.1
          have zy : wv.cell? ⟨wr.heap.size, 0, none⟩ = some (.int .i64 t) := (HE.out.drew.evo hw (.inr (of_decide_eq_true (by kernel_rfl)))).cell 0
          clear hw hu
          go_simp
        refine R3.pgo_pure _ rfl rfl (fun wv hw hu => ⟨.pointer (some ⟨go, t, none⟩), ?_, rfl⟩) ?_
        · have tok := True.intro
          have h9 : us 9 = .slice (some ⟨go, 0, none⟩) n n := hu.1
          have h11 : us 11 = .int .i64 t := hu.2.1
          clear hw hu
          go_simp
        refine R3.pgo_pure _ rfl rfl (fun wv hw hu => ⟨ov, ?_, rfl⟩) ?_
        · have tok := True.intro
          have h12 : us 12 = .pointer (some ⟨go, t, none⟩) := hu.1
          have zy : wv.cell? ⟨go, t, none⟩ = some ov := ((HGgo.out.drew.evo hw (.inr (of_decide_eq_true (by kernel_rfl)))).cell t).trans HOV.out
          clear hw hu
          go_simp
        refine R3.pgo_pure _ rfl rfl (fun wv hw hu => ⟨.int .i64 i, ?_, rfl⟩) ?_
        · have tok := True.intro
          clear hw hu
          go_simp
        refine R3.pgo_op _ rfl rfl (fun K wv hw hu hK => ?_) ?_
        · have h14 : us 14 = .int .i64 i := hu.1
          have hsv : B0 ≤ wv.heap.size := Nat.le_trans HBL.out hw.size
          have hfin := hK (.slice (some ⟨wv.heap.size, 0, none⟩) 1 1) (wv.alloc (.cells #[.int .i64 i] 3)) (Evo.of_below ((Below.refl _ _).alloc (Nat.le_refl _) _)) ⟨_, rfl, hsv, Blk.new _ _ _⟩
          refine wpo_value (v := .slice (some ⟨wv.heap.size, 0, none⟩) 1 1) (w' := wv.alloc (.cells #[.int .i64 i] 3)) ?_ hfin
          clear hw hu hK hfin hsv
          go_simp
        refine R3.pgo_op _ rfl rfl (fun K wv hw hu hK => ?_) ?_
        · have h13 : us 13 = ov := hu.1
          obtain ⟨g5, h15, hg5, hb5⟩ := hu.2.1
          have hrw : RowsW wv B0 (os ++ is) (lsV n es i i) := HR.out.drew.evo hw (of_decide_eq_true (by kernel_rfl))
          have hix : t < (os ++ is).length := HIX.out
          have hix2 : t < (lsV n es i i).length := by rw [← hrw.len]; exact hix
          have hov : (os ++ is)[t] = ov := HOV2.out hix
          have how : wv.ownsRow B0 3 1 ov el.length (intCells el) := by
            have := hrw.own _ hix hix2
            rw [hov, HEL.out hix2] at this
            exact this
          have hsv : B0 ≤ wv.heap.size := Nat.le_trans HBL.out hw.size
          have hlen := HELn.out
          refine wpo_app_any elemInt _ _ rfl (by repeat (first | (with_reducible exact (put_eval_same _ _ _ (by simp [put_size])).trans h13) | (with_reducible refine put_eval _ _ _ _ _ (by decide) ?_))) how (by repeat (first | (with_reducible exact (put_eval_same _ _ _ (by simp [put_size])).trans h15) | (with_reducible refine put_eval _ _ _ _ _ (by decide) ?_))) (Cells.blk' (xs := [.int .i64 i]) hb5) rfl rfl (by omega) (by omega) hsv fun v' w' ho' hgr hd => ?_
          refine hK _ _ (Evo.of_grown how hgr (by simp) (Nat.le_refl _)) ⟨own_slice ho', ?_⟩
          rw [← HLS.out]
          have ho2 : w'.ownsRow B0 3 1 v' (el ++ [(i : Int)]).length (intCells (el ++ [(i : Int)])) := by simpa [intCells] using ho'
          exact hrw.app hix hix2 ho2 (by rw [hov]; exact hgr) (by rw [hov]; exact hd)
        refine R3.pgo_pure _ rfl rfl (fun wv hw hu => ⟨.pointer (some ⟨go, t, none⟩), ?_, rfl⟩) ?_
        · have tok := True.intro
          have h3 : us 3 = .slice (some ⟨go, 0, none⟩) n n := hu.1
          have h5 : us 5 = .int .i64 t := hu.2.1
          clear hw hu
          go_simp
        refine R3.pgo_skip _ rfl rfl (fun wv hw hu => ?_) ?_
        · have h17 : us 17 = .pointer (some ⟨go, t, none⟩) := hu.1
          obtain ⟨⟨A16, c16, h16⟩, _⟩ := hu.2.1
          have h16 : us 16 = .slice A16 (el.length + 1) c16 := h16
          have hbv := (HGgo.out.drew.evo hw (.inr (of_decide_eq_true (by kernel_rfl))))
          have fy := hbv.frozen t
          have zy : wv.cell? ⟨go, t, none⟩ = some ov := (hbv.cell t).trans HOV.out
          refine ⟨wv.setCell ⟨go, t, none⟩ (us 16), ?_, Evo.set_ hbv (by simp) (by omega) t _, ⟨by simpa using hbv.set_ t (us 16), (HGgi.out.drew.evo hw (.inr (of_decide_eq_true (by kernel_rfl)))).far (fun e => hne e.symm) _⟩⟩
          rw [h16]
          clear hw hu hbv
          go_simp
        trivial
      · intro us w8 hw hu
        have hr16 := hu.1.2
        have hgo8 := hu.2.1.1
        have hgi8 := hu.2.1.2
        clear hu
        have hgo8 : Blk w8 go 31 (os.set t (us 16)).toArray := hgo8
        have hr16 : RowsW w8 B0 ((os ++ is).set t (us 16)) (lsV n es (i + 1) i) := hr16
        rw [List.set_append_left _ _ (by omega)] at hr16
        have hl1 : (os.set t (us 16)).length = n := by simp [hol]
        obtain ⟨os1, hos1⟩ : ∃ z, z = os.set t (us 16) := ⟨_, rfl⟩
        rw [← hos1] at hgo8 hr16 hl1
        have hw2 := hw.mono (T' := [3, 31]) (by decide)
        have HV8 := Lib.hid (HV.out.drew.evo hw2 (.inr (by decide)))
        have HE8 := Lib.hid (HE.out.drew.evo hw2 (.inr (by decide)))
        have HEV8 := Lib.hid (HEV7.out.trans ((Evo.of_below (below_drew' (Below.refl _ w7))).trans hw2))
        have HG8 := Lib.hid hgo8
        have HI8 := Lib.hid (show Blk w8 gi 31 is.toArray from hgi8)
        have HR8 := Lib.hid hr16
        have hsz8 : w7.heap.size ≤ w8.heap.size := hw.size
        clear hw hw2 hgo8 hgi8 hr16 hos1 HOV HIX HOV2 HEL HELn HLS HV HE HGgo HGgi HR HV7 HE7 HG7 HI7 HR7 HEV7 el ov
        simp only [lexL]
        go_simp
        go_upto_region 9 with fail
        obtain ⟨ov, hov⟩ : ∃ ov, ov = is[u]'(by omega) := ⟨_, rfl⟩
        have ht := HT.out
        have hu := HU.out
        have HOV := Lib.hid (show is.toArray[u]? = some ov by rw [hov]; simp [List.getElem?_eq_getElem (show u < is.length by omega)])
        have HIX := Lib.hid (show n + u < (os1 ++ is).length by simp; omega)
        have HOV2 := Lib.hid (show ∀ h : n + u < (os1 ++ is).length, (os1 ++ is)[n + u] = ov by intro h; rw [hov]; rw [List.getElem_append_right (by omega)]; congr 1; omega)
        obtain ⟨el, hel⟩ : ∃ el, el = endsF es Prod.snd u i := ⟨_, rfl⟩
        have HEL := Lib.hid (show ∀ h : n + u < (lsV n es (i + 1) i).length, (lsV n es (i + 1) i)[n + u] = el by intro h; rw [hel]; exact lsV_at_snd (by omega) h)
        have HELn := Lib.hid (show el.length ≤ 1000 by have := endsF_length es Prod.snd u i; rw [← hel] at this; omega)
        have HLS := Lib.hid (show (lsV n es (i + 1) i).set (n + u) (el ++ [(i : Int)]) = lsV n es (i + 1) (i + 1) by rw [hel]; exact lsV_snd (by omega) (by rw [List.getD_eq_getElem?_getD, List.getElem?_eq_getElem hlt]; exact hu))
        clear hov hel
        have HV := HV8
        have HE := HE8
        have HGgo := HG8
        have HGgi := HI8
        have HR := HR8
        have HBL9 := Lib.hid (show B0 ≤ w8.heap.size from Nat.le_trans HBL.out hsz8)
        have HBL := HBL9
        clear ht hu
        refine R3.wp_region_i B0 [[], [3], [31]] [0, 0, 0, 0, 0, 0, 0, 0, 0, 0, 0, 0, 0, 0, 0, 0, 1, 0, 2]
          [([], .val (.pointer (some ⟨gv, 0, none⟩))), ([0], .val (.pointer (some ⟨gv, 0, none⟩))), ([1], .val (.pointer (some ⟨gv, 3, none⟩))), ([2], .val (.slice (some ⟨gi, 0, none⟩) n n)), ([], .val (.pointer (some ⟨wr.heap.size, 1, none⟩))), ([4], .val (.int .i64 u)), ([], .val (.pointer (some ⟨gv, 0, none⟩))), ([6], .val (.pointer (some ⟨gv, 0, none⟩))), ([7], .val (.pointer (some ⟨gv, 3, none⟩))), ([8], .val (.slice (some ⟨gi, 0, none⟩) n n)), ([], .val (.pointer (some ⟨wr.heap.size, 1, none⟩))), ([10], .val (.int .i64 u)), ([9, 11], .val (.pointer (some ⟨gi, u, none⟩))), ([12], .val ov), ([], .val (.int .i64 i)), ([14], .row 3 #[.int .i64 i] 1 1), ([13, 15], pfRows (os1 ++ is) (n + u) (el.length + 1) (lsV n es (i + 1) (i + 1))), ([3, 5], .val (.pointer (some ⟨gi, u, none⟩))), ([17, 16], pfPut2 gi 16 31 (fun v => (is.set u v).toArray) go os1.toArray)] [16, 18] (by kernel_rfl) (by kernel_rfl) (fun us => ?_) ?_
        · refine R3.pgo_pure _ rfl rfl (fun wv hw hu => ⟨.pointer (some ⟨gv, 0, none⟩), ?_, rfl⟩) ?_
          · have tok := True.intro
            clear hw hu
            go_simp
          refine R3.pgo_pure _ rfl rfl (fun wv hw hu => ⟨.pointer (some ⟨gv, 0, none⟩), ?_, rfl⟩) ?_
          · have tok := True.intro
            have h0 : us 0 = .pointer (some ⟨gv, 0, none⟩) := hu.1
            clear hw hu
            go_simp
          refine R3.pgo_pure _ rfl rfl (fun wv hw hu => ⟨.pointer (some ⟨gv, 3, none⟩), ?_, rfl⟩) ?_
          · have tok := True.intro
            have h1 : us 1 = .pointer (some ⟨gv, 0, none⟩) := hu.1
            clear hw hu
            go_simp
          refine R3.pgo_pure _ rfl rfl (fun wv hw hu => ⟨.slice (some ⟨gi, 0, none⟩) n n, ?_, rfl⟩) ?_
          · have tok := True.intro
            have h2 : us 2 = .pointer (some ⟨gv, 3, none⟩) := hu.1
            have zy : wv.cell? ⟨gv, 3, none⟩ = some (.slice (some ⟨gi, 0, none⟩) n n) := (HV.out.drew.evo hw (.inr (of_decide_eq_true (by kernel_rfl)))).cell 3
            clear hw hu
            go_simp
          refine R3.pgo_pure _ rfl rfl (fun wv hw hu => ⟨.pointer (some ⟨wr.heap.size, 1, none⟩), ?_, rfl⟩) ?_
          · have tok := True.intro
            clear hw hu
            go_simp
          refine R3.pgo_pure _ rfl rfl (fun wv hw hu => ⟨.int .i64 u, ?_, rfl⟩) ?_
          · have tok := True.intro
            have h4 : us 4 = .pointer (some ⟨wr.heap.size, 1, none⟩) := hu.1
            have zy : wv.cell? ⟨wr.heap.size, 1, none⟩ = some (.int .i64 u) := (HE.out.drew.evo hw (.inr (of_decide_eq_true (by kernel_rfl)))).cell 1
            clear hw hu
            go_simp
          refine R3.pgo_pure _ rfl rfl (fun wv hw hu => ⟨.pointer (some ⟨gv, 0, none⟩), ?_, rfl⟩) ?_
          · have tok := True.intro
            clear hw hu
            go_simp
          refine R3.pgo_pure _ rfl rfl (fun wv hw hu => ⟨.pointer (some ⟨gv, 0, none⟩), ?_, rfl⟩) ?_
          · have tok := True.intro
            have h6 : us 6 = .pointer (some ⟨gv, 0, none⟩) := hu.1
            clear hw hu
            go_simp
          refine R3.pgo_pure _ rfl rfl (fun wv hw hu => ⟨.pointer (some ⟨gv, 3, none⟩), ?_, rfl⟩) ?_
          · have tok := True.intro
            have h7 : us 7 = .pointer (some ⟨gv, 0, none⟩) := hu.1
            clear hw hu
            go_simp
          refine R3.pgo_pure _ rfl rfl (fun wv hw hu => ⟨.slice (some ⟨gi, 0, none⟩) n n, ?_, rfl⟩) ?_
          · have tok := True.intro
            have h8 : us 8 = .pointer (some ⟨gv, 3, none⟩) := hu.1
            have zy : wv.cell? ⟨gv, 3, none⟩ = some (.slice (some ⟨gi, 0, none⟩) n n) := (HV.out.drew.evo hw (.inr (of_decide_eq_true (by kernel_rfl)))).cell 3
            clear hw hu
            go_simp
          refine R3.pgo_pure _ rfl rfl (fun wv hw hu => ⟨.pointer (some ⟨wr.heap.size, 1, none⟩), ?_, rfl⟩) ?_
          · have tok := True.intro
            clear hw hu
            go_simp
          refine R3.pgo_pure _ rfl rfl (fun wv hw hu => ⟨.int .i64 u, ?_, rfl⟩) ?_
          · have tok := True.intro
            have h10 : us 10 = .pointer (some ⟨wr.heap.size, 1, none⟩) := hu.1
            have zy : wv.cell? ⟨wr.heap.size, 1, none⟩ = some (.int .i64 u) := (HE.out.drew.evo hw (.inr (of_decide_eq_true (by kernel_rfl)))).cell 1
            clear hw hu
            go_simp
          refine R3.pgo_pure _ rfl rfl (fun wv hw hu => ⟨.pointer (some ⟨gi, u, none⟩), ?_, rfl⟩) ?_
          · have tok := True.intro
            have h9 : us 9 = .slice (some ⟨gi, 0, none⟩) n n := hu.1
            have h11 : us 11 = .int .i64 u := hu.2.1
            clear hw hu
            go_simp
          refine R3.pgo_pure _ rfl rfl (fun wv hw hu => ⟨ov, ?_, rfl⟩) ?_
          · have tok := True.intro
            have h12 : us 12 = .pointer (some ⟨gi, u, none⟩) := hu.1
            have zy : wv.cell? ⟨gi, u, none⟩ = some ov := ((HGgi.out.drew.evo hw (.inr (of_decide_eq_true (by kernel_rfl)))).cell u).trans HOV.out
            clear hw hu
            go_simp
          refine R3.pgo_pure _ rfl rfl (fun wv hw hu => ⟨.int .i64 i, ?_, rfl⟩) ?_
          · have tok := True.intro
            clear hw hu
            go_simp
          refine R3.pgo_op _ rfl rfl (fun K wv hw hu hK => ?_) ?_
          · have h14 : us 14 = .int .i64 i := hu.1
            have hsv : B0 ≤ wv.heap.size := Nat.le_trans HBL.out hw.size
            have hfin := hK (.slice (some ⟨wv.heap.size, 0, none⟩) 1 1) (wv.alloc (.cells #[.int .i64 i] 3)) (Evo.of_below ((Below.refl _ _).alloc (Nat.le_refl _) _)) ⟨_, rfl, hsv, Blk.new _ _ _⟩
            refine wpo_value (v := .slice (some ⟨wv.heap.size, 0, none⟩) 1 1) (w' := wv.alloc (.cells #[.int .i64 i] 3)) ?_ hfin
            clear hw hu hK hfin hsv
            go_simp
          refine R3.pgo_op _ rfl rfl (fun K wv hw hu hK => ?_) ?_
          · have h13 : us 13 = ov := hu.1
            obtain ⟨g5, h15, hg5, hb5⟩ := hu.2.1
            have hrw : RowsW wv B0 (os1 ++ is) (lsV n es (i + 1) i) := HR.out.drew.evo hw (of_decide_eq_true (by kernel_rfl))
            have hix : n + u < (os1 ++ is).length := HIX.out
            have hix2 : n + u < (lsV n es (i + 1) i).length := by rw [← hrw.len]; exact hix
            have hov : (os1 ++ is)[n + u] = ov := HOV2.out hix
            have how : wv.ownsRow B0 3 1 ov el.length (intCells el) := by
              have := hrw.own _ hix hix2
              rw [hov, HEL.out hix2] at this
              exact this
            have hsv : B0 ≤ wv.heap.size := Nat.le_trans HBL.out hw.size
            have hlen := HELn.out
            refine wpo_app_any elemInt _ _ rfl (by repeat (first | (with_reducible exact (put_eval_same _ _ _ (by simp [put_size])).trans h13) | (with_reducible refine put_eval _ _ _ _ _ (by decide) ?_))) how (by repeat (first | (with_reducible exact (put_eval_same _ _ _ (by simp [put_size])).trans h15) | (with_reducible refine put_eval _ _ _ _ _ (by decide) ?_))) (Cells.blk' (xs := [.int .i64 i]) hb5) rfl rfl (by omega) (by omega) hsv fun v' w' ho' hgr hd => ?_
            refine hK _ _ (Evo.of_grown how hgr (by simp) (Nat.le_refl _)) ⟨own_slice ho', ?_⟩
            rw [← HLS.out]
            have ho2 : w'.ownsRow B0 3 1 v' (el ++ [(i : Int)]).length (intCells (el ++ [(i : Int)])) := by simpa [intCells] using ho'
            exact hrw.app hix hix2 ho2 (by rw [hov]; exact hgr) (by rw [hov]; exact hd)
          refine R3.pgo_pure _ rfl rfl (fun wv hw hu => ⟨.pointer (some ⟨gi, u, none⟩), ?_, rfl⟩) ?_
          · have tok := True.intro
            have h3 : us 3 = .slice (some ⟨gi, 0, none⟩) n n := hu.1
            have h5 : us 5 = .int .i64 u := hu.2.1
            clear hw hu
            go_simp
          refine R3.pgo_skip _ rfl rfl (fun wv hw hu => ?_) ?_
          · have h17 : us 17 = .pointer (some ⟨gi, u, none⟩) := hu.1
            obtain ⟨⟨A16, c16, h16⟩, _⟩ := hu.2.1
            have h16 : us 16 = .slice A16 (el.length + 1) c16 := h16
            have hbv := (HGgi.out.drew.evo hw (.inr (of_decide_eq_true (by kernel_rfl))))
            have fy := hbv.frozen u
            have zy : wv.cell? ⟨gi, u, none⟩ = some ov := (hbv.cell u).trans HOV.out
            refine ⟨wv.setCell ⟨gi, u, none⟩ (us 16), ?_, Evo.set_ hbv (by simp) (by omega) u _, ⟨by simpa using hbv.set_ u (us 16), (HGgo.out.drew.evo hw (.inr (of_decide_eq_true (by kernel_rfl)))).far (fun e => hne e) _⟩⟩
            rw [h16]
            clear hw hu hbv
            go_simp
          trivial
        · intro us w9 hw hu
          have hr16 := hu.1.2
          have hgi9 := hu.2.1.1
          have hgo9 := hu.2.1.2
          clear hu
          have hgi9 : Blk w9 gi 31 (is.set u (us 16)).toArray := hgi9
          have hr16 : RowsW w9 B0 ((os1 ++ is).set (n + u) (us 16)) (lsV n es (i + 1) (i + 1)) := hr16
          rw [List.set_append_right _ _ (by omega), show n + u - os1.length = u by omega] at hr16
          have hl2 : (is.set u (us 16)).length = n := by simp [hil]
          have hw2 := hw.mono (T' := [3, 31]) (by decide)
          have HEV9 := Lib.hid (HEV8.out.trans ((Evo.of_below (below_drew' (Below.refl _ w8))).trans hw2))
          have HG9 := Lib.hid (show Blk w9 go 31 os1.toArray from hgo9)
          have HI9 := Lib.hid hgi9
          have HR9 := Lib.hid hr16
          clear hw hw2 hgo9 hgi9 hr16 HOV HIX HOV2 HEL HELn HLS HV HE HGgo HGgi HR HV8 HE8 HG8 HI8 HR8 HEV8 el ov
          simp only [lexL]
          go_simp
          go_wp2_with fail
          go_roundg (es.length - (i + 1))
          case measure => rw [Hk.out]; omega
          case rel => exact ⟨i + 1, os1, _, by go_num, by omega, rfl, hl1, hl2, HG9.out, HI9.out, HR9.out, HEV9.out⟩
    · have hie : i = es.length := by omega
      subst hie
      have hlt' : ¬ (es.length : Int) < es.length := by omega
      have HEV9 := Lib.hid ((HEV.out.mono (T' := [67, 3, 31]) (by decide)).trans (hev.mono (by decide)))
      have HA9 := Lib.hid (own_evo HA5.out hev (by decide))
      have HV9 := Lib.hid (HV5.out.evo hev (.inr (by decide)))
      have HG9 := Lib.hid hgo'
      have HI9 := Lib.hid hgi'
      have HR9 := Lib.hid hr
      have hev2 := hev
      clear hgo' hgi' hr hev
      have HBW := Lib.hid (HB4.out.trans ((HEV9.out.below (by omega)).mono hB0))
      clear hev2
      go_wp2_with fail
      go_ret
      exact ⟨gv, rfl, HBW.out, A4, c4, go, gi, os, is, by simpa using HV9.out, Cells.of_own HA9.out, hol, hil, HG9.out, HI9.out, HR9.out.mono (Nat.zero_le _)⟩

/-- what the view of a graph is of: of nothing where it may not be -/
def vN (n : Int) (es : List (Int × Int)) : Nat := if mayB n es then n.toNat else 0
def vE (n : Int) (es : List (Int × Int)) : List (Int × Int) := if mayB n es then es else []
theorem vE_in {n : Int} {es : List (Int × Int)} : vN n es ≤ 64 ∧ (vE n es).length ≤ 1000 ∧ ∀ e ∈ vE n es, 0 ≤ e.1 ∧ e.1 < (vN n es : Int) ∧ 0 ≤ e.2 ∧ e.2 < (vN n es : Int) := by
  cases hm : mayB n es with
  | true =>
    rw [vN, vE, if_pos hm, if_pos hm]
    obtain ⟨hm1, hm2, hm3⟩ := may_parts hm
    refine ⟨by omega, by omega, fun e he => ?_⟩
    have := badE_in hm e he
    omega
  | false =>
    rw [vN, vE, if_neg (by rw [hm]; simp), if_neg (by rw [hm]; simp)]
    exact ⟨by omega, by simp, by simp⟩
set_option maxRecDepth 20000 in
set_option maxHeartbeats 4000000 in
theorem view_any (n : Int) (A : Option Addr) (cap : Nat) (es : List (Int × Int)) (w : World) (hes : Cells w w.heap.size A (edgeCells es)) :
    Calls Tryd.prog 32 #[.agg #[.int .i64 n, .slice A es.length cap]] w (fun e w' => ∃ gv, e = .returned (.pointer (some ⟨gv, 0, none⟩)) ∧ Below w.heap.size w w' ∧ ViewAt w' gv (vN n es) (vE n es)) := by
  go_enter Tryd.func32, Tryd.ntmps32
  go_upto_region 1 with fail
  have b0 := Blk.new w 24 #[.int .i64 n, .slice A es.length cap]
  have hbw := (Below.refl w.heap.size w).alloc (Nat.le_refl _) (.cells #[.int .i64 n, .slice A es.length cap] 24)
  have s1 := World.size_alloc w (.cells #[.int .i64 n, .slice A es.length cap] 24)
  have g0 := b0.cell 0
  have g1 := b0.cell 1
  simp only [List.getElem?_toArray, List.getElem?_cons_zero, List.getElem?_cons_succ] at g0 g1
  generalize w.alloc (.cells #[.int .i64 n, .slice A es.length cap] 24) = w1 at *
  have l1 : w.heap.size < w1.heap.size := by omega
  have HES := Lib.hid ((hes.below hbw).more hbw.size)
  have HBW := Lib.hid hbw
  have HB0 := Lib.hid b0
  clear hes hbw b0
  go_cut [8] (fun s8 w2 => s8 = .bool (!mayB n es) ∧ Below w1.heap.size w1 w2)
  case first =>
    go_wp2_with fail
    refine (may_any n A cap es w1 HES.out).mono ?_
    rintro e w2 ⟨rfl, hb2⟩
    have HB2 := Lib.hid hb2
    clear hb2
    go_wp2_with fail
    go_meet
    exact ⟨rfl, HB2.out⟩
  obtain ⟨rfl, hb2⟩ := hcut
  obtain ⟨w2, rfl⟩ : ∃ x, x = wc := ⟨_, rfl⟩
  refine (show ∀ (a : Act) (w : World), Code.wp _ (Code.cond _ _ _) _ a w → _ from by assumption) _ _ ?_
  go_cut [] (fun wc => ∃ (A' : Option Addr) (c' : Nat), wc.cell? ⟨w.heap.size, 0, none⟩ = some (.int .i64 (vN n es : Nat)) ∧ wc.cell? ⟨w.heap.size, 1, none⟩ = some (.slice A' (vE n es).length c') ∧ Cells wc wc.heap.size A' (edgeCells (vE n es)) ∧ Below w.heap.size w wc ∧ w.heap.size < wc.heap.size)
  case first =>
    have hz2 := hb2.size
    have HBW2 := Lib.hid (HBW.out.trans (hb2.mono (Nat.le_of_lt l1)))
    have l2 : w.heap.size < w2.heap.size := by omega
    have hb0 := HB0.out.below hb2 l1
    cases hm : mayB n es with
    | true =>
      have HES2 := Lib.hid ((HES.out.below hb2).more hz2)
      have HC0 := Lib.hid hb0
      have HX := Lib.hid (show vN n es = n.toNat ∧ vE n es = es by rw [vN, vE, if_pos hm, if_pos hm]; exact ⟨rfl, rfl⟩)
      have HP := Lib.hid (may_parts hm)
      clear g0 g1 hb2 hb0 hm
      go_wp2_with fail
      go_meet
      refine ⟨A, cap, (HC0.out.cell 0).trans ?_, ?_, ?_, HBW2.out, l2⟩
      · rw [HX.out.1]
        have := HP.out.1
        have e : ((n.toNat : Nat) : Int) = n := by omega
        rw [e]; rfl
      · rw [HX.out.2]; exact HC0.out.cell 1
      · rw [HX.out.2]; exact HES2.out
    | false =>
      have HX := Lib.hid (show vN n es = 0 ∧ vE n es = [] by rw [vN, vE, if_neg (by rw [hm]; simp), if_neg (by rw [hm]; simp)]; exact ⟨rfl, rfl⟩)
      have z0 : w2.cell? ⟨w.heap.size, 0, none⟩ = some (.int .i64 n) := hb0.cell 0
      have z1 : w2.cell? ⟨w.heap.size, 1, none⟩ = some (.slice A es.length cap) := hb0.cell 1
      have fz := hb0.frozen 0
      have fz1 := hb0.frozen 1
      have HB2 := Lib.hid ((hb0.set_ 0 (.int .i64 0)).set_ 1 (.slice none 0 0))
      have HBW3 := Lib.hid ((HBW2.out.setCell (p := ⟨w.heap.size, 0, none⟩) (Nat.le_refl _) (.int .i64 0)).setCell (p := ⟨w.heap.size, 1, none⟩) (Nat.le_refl _) (.slice none 0 0))
      clear g0 g1 hb2 hb0 hm
      go_wp2_with fail
      go_meet
      refine ⟨none, 0, (HB2.out.cell 0).trans ?_, (HB2.out.cell 1).trans ?_, ?_, HBW3.out, ?_⟩
      · rw [HX.out.1]; rfl
      · rw [HX.out.2]; rfl
      · rw [HX.out.2]; exact Cells.nil
      · simpa using l2
  clear hb2
  obtain ⟨A', c', d0, d1, hc, hbc, lc⟩ := hcut
  obtain ⟨hi1, hi2, hi3⟩ := @vE_in n es
  have HI3 := Lib.hid hi3
  have HC := Lib.hid hc
  have HBC := Lib.hid hbc
  have hmk := fun W => run_make1 elemRows rfl (vN n es) (by omega) (by omega) W
  obtain ⟨w3, rfl⟩ : ∃ x, x = wc := ⟨_, rfl⟩
  clear HES HBW HB0 g0 g1 s1 l1 hi3 hc hbc
  go_upto_region 3 with fail
  go_cut [3] (fun s3 wc => ∃ gv go gi : Nat, s3 = .pointer (some ⟨gv, 0, none⟩) ∧ w3.heap.size ≤ go ∧ w3.heap.size ≤ gi ∧ go ≠ gi ∧ w3.heap.size ≤ gv ∧ Blk wc gv 67 #[.int .i64 (vN n es : Nat), .slice A' (vE n es).length c', .slice (some ⟨go, 0, none⟩) (vN n es) (vN n es), .slice (some ⟨gi, 0, none⟩) (vN n es) (vN n es)] ∧ Blk wc go 31 (Array.replicate (vN n es) (.slice none 0 0)) ∧ Blk wc gi 31 (Array.replicate (vN n es) (.slice none 0 0)) ∧ Below w3.heap.size w3 wc)
  case first =>
    go_region
    all_goals go_wp2
    all_goals go_meet
    · exact ⟨_, w3.heap.size, w3.heap.size + 1, rfl, by omega, by omega, by omega, by omega, (blk_new' _ _ _ _ (by simp)).drew, (((Blk.new w3 _ _).alloc _).alloc _).drew, ((blk_new' _ _ _ _ (by simp)).alloc _).drew, below_drew1 ((((Below.refl _ _).alloc (Nat.le_refl _) _).alloc (by simp) _).alloc (by simp; omega) _)⟩
    · exact ⟨_, w3.heap.size + 1, w3.heap.size, rfl, by omega, by omega, by omega, by omega, (blk_new' _ _ _ _ (by simp)).drew, ((blk_new' _ _ _ _ (by simp)).alloc _).drew, (((Blk.new w3 _ _).alloc _).alloc _).drew, below_drew1 ((((Below.refl _ _).alloc (Nat.le_refl _) _).alloc (by simp) _).alloc (by simp; omega) _)⟩
  obtain ⟨gv, go, gi, rfl, h1, h2, h3, h4, hv, ho, hi, hbd⟩ := hcut
  have hz := hbd.size
  have hz3 := HBC.out.size
  go_upto_region 4 with fail
  exact view4 (vN n es) A' c' w.heap.size gv go gi w3.heap.size (vE n es) w wc ((hbd.cell (p := ⟨w.heap.size, 1, none⟩) lc).trans d1) lc (HC.out.keep (w' := wc) fun p hp => hbd.cell hp) HI3.out hi1 hi2 (HBC.out.trans (hbd.mono hz3)) hz3 hz h4 h1 h2 h3 hv ho hi _ _ _ _ _ _ _ _ _ _ _ _ _ _ _ _ _ _ _ _ _ _ _ _ _ _ _ _ _ _ _ _ _ _ _ _ _ _ _ _ _ _ _ _ _ _ _ _ _ _ _ _ _ _ _ _ _ _ _ _ _ _ _ _ _ (by assumption)
end Go.Proofs.YtnjikhhegebkiaaDoor
