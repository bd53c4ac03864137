import Derived.Test.YthdifhfmgmmljaaWays
namespace Go.Proofs.Ythdifhfmgmmljaa
open Go.RowKit

/-- does edge i count, without some vertices? -/
def withoutB (wo : Nat) (es : List (Int × Int)) (i : Nat) : Bool := !setHas wo (es.getD i (0, 0)).1 && !setHas wo (es.getD i (0, 0)).2
theorem callFunc_without (u : World) (args : Array Value) : (callFunc 37 args).run Try.prog u = .ok (.enter 37 args) u := by go_simp

def QuietBool (p : Bool) (w : World) (e : Ending) (w' : World) : Prop := e = .returned (.bool p) ∧ ∃ m, w' = w.drewN m

theorem has_is {s : Nat} {x : Int} {p : Bool} (w : World) (h : setHas s x = p) (hs : s < 18446744073709551616) :
    Calls Try.prog 14 #[.int .u64 s, .int .i64 x] w fun e w' => e = .returned (.bool p) ∧ w = w' := by
  subst h; exact has_any s x w hs
set_option maxHeartbeats 400000 in
theorem without_any (i : Nat) (b c : Nat) (wo : Nat) (hwo : wo < 18446744073709551616) (A : Option Addr) (cap : Nat) (es : List (Int × Int)) (w : World) (B : Nat) (hes : Cells w B A (edgeCells es)) (hi : i < es.length) (hlen : es.length ≤ 1000)
    (hb : w.cell? ⟨b, 0, none⟩ = some (.int .u64 wo)) (hc : w.cell? ⟨c, 1, none⟩ = some (.slice A es.length cap)) :
    Calls Try.prog 37 #[.int .i64 i, .pointer (some ⟨b, 0, none⟩), .pointer (some ⟨c, 0, none⟩)] w (QuietBool (withoutB wo es i) w) := by
  obtain ⟨bb, off, rfl, hbb, hcc⟩ := hes.edges (by omega)
  obtain ⟨c0, c1⟩ := hcc i hi
  clear hcc hes
  have hid : ((i : Nat) : Int) < es.length := by omega
  have e0 : es.getD i (0, 0) = es[i] := by simp [hi]
  have W : withoutB wo es i = (!setHas wo es[i].1 && !setHas wo es[i].2) := by unfold withoutB; rw [e0]
  have HW := Lib.hid W; clear W e0
  generalize es[i].1 = x at *
  generalize es[i].2 = y at *
  cases hx : setHas wo x with
  | true =>
    rw [hx] at HW
    have Hx := Lib.hid hx; clear hx
    go_enter Try.func37, Try.ntmps37
    go_wp2_with fail
    go_quiet ((go_at_call_of 14 (Value.int .i64 x); exact quiet_left (has_is _ Hx.out hwo)))
    go_wp2_with fail
    go_ret
    exact ⟨by rw [HW.out]; rfl, _, rfl⟩
  | false =>
    rw [hx] at HW
    have Hx := Lib.hid hx; clear hx
    go_enter Try.func37, Try.ntmps37
    go_wp2_with fail
    go_quiet ((first | (go_at_call_of 14 (Value.int .i64 x); exact quiet_left (has_is _ Hx.out hwo)) | (go_at_call_of 14 (Value.int .i64 y); exact quiet_left (has_any wo y _ hwo))))
    go_wp2_with fail
    go_ret
    exact ⟨by rw [HW.out]; rfl, _, rfl⟩

def partsStep (T : List Nat) (st : List Nat × Nat) (x : Nat) : List Nat × Nat := if setHas st.2 x then st else (st.1 ++ [T.getD x 0], st.2 ||| T.getD x 0)
def partsUpto (T : List Nat) (wo k : Nat) : List Nat × Nat := (List.range k).foldl (partsStep T) ([], wo)
theorem partsUpto_succ (T : List Nat) (wo k : Nat) : partsUpto T wo (k + 1) = partsStep T (partsUpto T wo k) k := by
  unfold partsUpto; rw [List.range_succ, List.foldl_append]; rfl
theorem partsUpto_succ' (T : List Nat) (wo k : Nat) : partsUpto T wo (k + 1) =
    if setHas (partsUpto T wo k).2 k then ((partsUpto T wo k).1, (partsUpto T wo k).2) else ((partsUpto T wo k).1 ++ [T.getD k 0], (partsUpto T wo k).2 ||| T.getD k 0) := by
  rw [partsUpto_succ]; rfl
theorem partsUpto_ok {S T : List Nat} (h : GrowOk S T) {wo : Nat} (hwo : wo < 18446744073709551616) (k : Nat) : (partsUpto T wo k).2 < 18446744073709551616 ∧ (partsUpto T wo k).1.length ≤ k := by
  induction k with
  | zero => exact ⟨hwo, Nat.le_refl _⟩
  | succ k ih =>
    rw [partsUpto_succ]
    unfold partsStep
    split
    · exact ⟨ih.1, by omega⟩
    · exact ⟨or_lt ih.1 (h.at_ k), by simp; omega⟩

def PartsPost (n : Int) (es : List (Int × Int)) (wo : Nat) (w : World) (e : Ending) (w' : World) : Prop :=
  ∃ v, e = .returned v ∧ Below w.heap.size w w' ∧ (mayB n es = true → ∃ T, Grown1 true (withoutB wo es) n.toNat es T ∧
    w'.ownsRow w.heap.size 32 1 v (partsUpto T wo n.toNat).1.length (setCells (partsUpto T wo n.toNat).1)) ∧ (mayB n es = false → v = .slice none 0 0)

set_option maxHeartbeats 400000 in
theorem parts_no (n : Int) (A : Option Addr) (cap : Nat) (es : List (Int × Int)) (wo : Nat) (w : World) (hes : Cells w w.heap.size A (edgeCells es)) (hm : mayB n es = false) :
    Calls Try.prog 15 #[.agg #[.int .i64 n, .slice A es.length cap], .int .u64 wo] w (PartsPost n es wo w) := by
  have Hm := Lib.hid hm; clear hm
  go_enter Try.func15, Try.ntmps15
  go_wp2_with fail
  refine (each_any n A cap es _ (((hes.alloc (Nat.le_refl _) _).alloc (by simp) _).more (by simp; omega))).mono ?_
  rintro e w' ⟨v, rfl, hb, _, hv⟩
  rw [hv Hm.out]
  clear hv
  go_wp2_with fail
  go_ret
  exact ⟨_, rfl, (((Below.refl _ _).alloc (Nat.le_refl _) _).alloc (by simp) _).trans (hb.mono (by simp; omega)), no_may Hm.out, fun _ => rfl⟩

set_option maxHeartbeats 1000000 in
theorem parts_yes (n : Nat) (A : Option Addr) (cap : Nat) (es : List (Int × Int)) (wo : Nat) (hwo : wo < 18446744073709551616) (w : World) (hes : Cells w w.heap.size A (edgeCells es)) (hm : mayB n es = true) :
    Calls Try.prog 15 #[.agg #[.int .i64 n, .slice A es.length cap], .int .u64 wo] w (PartsPost n es wo w) := by
  obtain ⟨hn0, hn1, hn2⟩ := may_parts hm
  have Hin := Lib.hid (badE_in hm)
  have Hm := Lib.hid hm; clear hm
  go_enter Try.func15, Try.ntmps15
  go_wp2_with fail
  have b0 : ((w.alloc (.cells #[.int .i64 n, .slice A es.length cap] 24)).alloc (.cells #[.int .u64 wo] 32)).cell? ⟨w.heap.size, 0, none⟩ = some (.int .i64 n) := by simp [go_sem]
  have b1 : ((w.alloc (.cells #[.int .i64 n, .slice A es.length cap] 24)).alloc (.cells #[.int .u64 wo] 32)).cell? ⟨w.heap.size, 1, none⟩ = some (.slice A es.length cap) := by simp [go_sem]
  have b2 : ((w.alloc (.cells #[.int .i64 n, .slice A es.length cap] 24)).alloc (.cells #[.int .u64 wo] 32)).cell? ⟨w.heap.size + 1, 0, none⟩ = some (.int .u64 wo) := by simp [go_sem]
  have hbw := ((Below.refl w.heap.size w).alloc (Nat.le_refl _) (.cells #[.int .i64 n, .slice A es.length cap] 24)).alloc (by simp) (.cells #[.int .u64 wo] 32)
  have s1 : ((w.alloc (.cells #[.int .i64 n, .slice A es.length cap] 24)).alloc (.cells #[.int .u64 wo] 32)).heap.size = w.heap.size + 2 := by simp
  generalize (w.alloc (.cells #[.int .i64 n, .slice A es.length cap] 24)).alloc (.cells #[.int .u64 wo] 32) = w1 at *
  have hes1 := hes.below hbw
  have l1 : w.heap.size + 1 < w1.heap.size := by omega
  have S1 := Lib.hid s1; clear s1
  refine (each_any n A cap es w1 (hes1.more (by omega))).mono ?_
  rintro e w2 ⟨v, rfl, hb, hv, _⟩
  obtain ⟨g, cap2, R, rfl, hg, hblk, hR, hc1, hc2, hc3⟩ := own_blk (hv Hm.out) (by omega)
  clear hv
  have b0' := (hb.cell (p := ⟨w.heap.size, 0, none⟩) (by simp; omega)).trans b0
  have b1' := (hb.cell (p := ⟨w.heap.size, 1, none⟩) (by simp; omega)).trans b1
  have b2' := (hb.cell (p := ⟨w.heap.size + 1, 0, none⟩) l1).trans b2
  have hes2 := hes1.keep (w' := w2) (fun p hp => hb.cell (by omega))
  have hs2 := hb.size
  clear hR hc1 hc2 hc3 b0 b1 b2
  go_wp2_with fail
  refine (grow_any n A cap cap2 es true (withoutB wo es) _ _ g n (eachL n) R _ w.heap.size hes2 (by omega) (by omega) hblk Hin.out (eachL_lt n (by omega)) (eachL_length n) callFunc_without ?_).mono ?_
  · intro k w' h0 h1 hg2
    obtain ⟨k, rfl⟩ := Int.eq_ofNat_of_zero_le h0
    rw [show ((k : Nat) : Int).toNat = k from rfl]
    exact without_any k (w.heap.size + 1) w.heap.size wo hwo A cap es w' w.heap.size (hes2.keep (fun p hp => hg2.cell_far p (by omega) (by simp; omega))) (by omega) (by omega) ((hg2.cell_far _ (by simp; omega) (by simp; omega)).trans b2') ((hg2.cell_far _ (by simp; omega) (by simp; omega)).trans b1')
  rintro e w3 ⟨rfl, hgr, T, hT, hok, hto, hfix⟩
  have hTl : T.length = n := by rw [hok.len, eachL_length]
  have b2'' := (hgr.cell_far ⟨w.heap.size + 1, 0, none⟩ (by simp; omega) (by simp; omega)).trans b2'
  have HP := Lib.hid (show Grown1 true (withoutB wo es) n es T from ⟨hok, hto, hfix⟩)
  have hb3 := hbw.trans ((hb.mono (by omega)).grown hgr (by omega) (fun k hk => by injection hk; omega))
  have hs3 := hgr.size
  clear hto hfix hgr hes2 hes1 b0' b1' b2'
  go_wp2_with fail
  go_loopg [4, 6, 21] n (fun k s4 s6 s21 wr => ∃ i : Nat, s21 = .int .i64 i ∧ i ≤ n ∧ k = n - i ∧ Below w3.heap.size w3 wr ∧ s6 = .int .u64 ((partsUpto T wo i).2 : Nat) ∧ wr.ownsRow w3.heap.size 32 1 s4 (partsUpto T wo i).1.length (setCells (partsUpto T wo i).1))
  case atStart => exact ⟨0, rfl, Nat.zero_le _, rfl, Below.refl _ _, rfl, World.ownsRow_nil _ _ _ _⟩
  case round =>
    obtain ⟨i, rfl, hi, hk, hb4, rfl, hown⟩ := hrel
    have Hk := Lib.hid hk; clear hk
    obtain ⟨d1, d2⟩ := partsUpto_ok hok hwo i
    have PS := Lib.hid (partsUpto_succ' T wo i)
    have hbs := hb4.size
    by_cases hlt : i < n
    · have ut := (hb4.cell (p := ⟨g, i, none⟩) hT.lt).trans ((hT.cell i).trans (u64s_at T R i (by omega)))
      have uu := hok.at_ i
      generalize (partsUpto T wo i).2 = d at *
      generalize (partsUpto T wo i).1 = l at *
      generalize T.getD i 0 = a at *
      have eo := u64_or_nat d a d1 uu
      go_wp2_with fail
      cases hB : setHas d i with
      | true =>
        rw [hB] at PS
        refine (has_is _ hB d1).mono ?_
        rintro e w' ⟨rfl, rfl⟩
        clear hB
        go_wp2_with fail
        go_roundg (n - (i + 1))
        case measure => rw [Hk.out]; omega
        case rel => exact ⟨i + 1, by go_num, by omega, rfl, hb4, by rw [PS.out]; rfl, by rw [PS.out]; exact hown⟩
      | false =>
        rw [hB] at PS
        refine (has_is _ hB d1).mono ?_
        rintro e w' ⟨rfl, rfl⟩
        clear hB
        go_wp2_with (at_builtin; refine wp_app elemSet rfl _ _ rfl w3.heap.size u4 _ _ rfl wr.heap.size [.int .u64 (a : Int)] rfl rfl hown rfl rfl ?h2 ?h3 ?h4 ?_)
        case h2 => omega
        case h3 => omega
        case h4 => omega
        intro v' w' hown' hg' _
        have hb' := below_app hb4 hown hg' (by omega) (Nat.le_refl _)
        clear hown hg' hb4
        go_wp2_with fail
        go_roundg (n - (i + 1))
        case measure => rw [Hk.out]; omega
        case rel => exact ⟨i + 1, by go_num, by omega, rfl, hb', by rw [PS.out]; rfl, by rw [PS.out]; simpa [setCells] using hown'⟩
    · have hie : i = n := by omega
      subst hie
      go_wp2_with fail
      go_ret
      exact ⟨_, rfl, hb3.trans (hb4.mono (by omega)), fun _ => ⟨T, HP.out, own_mono hown (by omega)⟩, no_may' Hm.out⟩
end Go.Proofs.Ythdifhfmgmmljaa
