/-
  Laws CertCuts, CertUnlike: walked. Written by an AI agent.
-/
import Derived.Test.YtmlbjcngboegfaaSpeaks
namespace Go.Proofs.Ytmlbjcngboegfaa
open Go.RowKit

/-- what Great, Laid and Encode tell of a certificate whose cells are not looked at -/
structure CallsC (cs : Array Value) (x : Crt) (w : World) : Prop where
  size : cs.size = 12
  great : ∀ w1, Below w.heap.size w w1 → Calls Try.prog 8 #[.agg cs] w1 (GreatPost x w1)
  laid : ∀ w1, Calls Try.prog 10 #[.agg cs] w1 (fun e w' => e = .returned (.agg cs) ∧ Below w1.heap.size w1 w')
  enc : CrtLe x → ∀ w1, Below w.heap.size w w1 → Calls Try.prog 9 #[.agg cs] w1 (Encoded x w1)
theorem callsC {V : CV} {x : Crt} {w : World} (h : CrtIs w w.heap.size V x) : CallsC (crtCells V x) x w :=
  ⟨rfl, fun w1 hb => great_any V x w1 ((h.below hb).more hb.size), fun w1 => laid_any V x w1, fun hl w1 hb => encode_any V x w1 ((h.below hb).more hb.size) hl⟩

theorem mask20 (a : Int) : 0 ≤ bits .and .i64 a 1048575 ∧ bits .and .i64 a 1048575 ≤ 1048575 := by
  show 0 ≤ IntKind.i64.wrap ((BitVec.ofInt 64 a &&& BitVec.ofInt 64 1048575).toNat : Int) ∧ IntKind.i64.wrap ((BitVec.ofInt 64 a &&& BitVec.ofInt 64 1048575).toNat : Int) ≤ 1048575
  have h : (BitVec.ofInt 64 a &&& BitVec.ofInt 64 1048575).toNat ≤ 1048575 := by
    rw [BitVec.toNat_and]
    exact Nat.le_trans Nat.and_le_right (by decide)
  rw [IntKind.wrap_i64]
  omega
theorem encF_pos {x : Crt} {b : List Int} (h : encF x = some b) : 0 < b.length := by
  rcases Nat.eq_zero_or_pos b.length with h0 | h0
  · have hb : b = [] := List.eq_nil_of_length_eq_zero h0
    subst hb
    obtain ⟨o, e⟩ := rAll_enc h []
    rw [List.append_nil] at e
    unfold rAll rWalk at e
    simp [rNext] at e
  · exact h0
theorem encF_len {x : Crt} {b : List Int} (h : encF x = some b) : b.length ≤ 1000000 := by
  unfold encF at h
  split at h
  · injection h with h
    subst h
    unfold wAll wWalk
    have hs : (⟨[], [x.k % 256], false⟩ : CS).out.length = 1 := rfl
    have i0 := fun l s => wInts_len l s
    have r0 := fun l s => wRows_len l s
    have p0 := fun l s => wPts_len l s
    have l0 := fun l s => wLines_len l s
    generalize (⟨[], [x.k % 256], false⟩ : CS) = s at *
    split
    · have h1 := r0 x.outs (wInts x.ord s)
      have h2 := i0 x.ord s
      simp only; omega
    split
    · have h1 := wPut_len x.outer (wRows x.turn s)
      have h2 := r0 x.turn s
      simp only; omega
    split
    · have h1 := l0 x.lines (wPts x.pts s)
      have h2 := p0 x.pts s
      simp only; omega
    split
    · have h1 := i0 x.b3 (wInts x.b2 (wInts x.b1 (wInts x.b0 s)))
      have h2 := i0 x.b2 (wInts x.b1 (wInts x.b0 s))
      have h3 := i0 x.b1 (wInts x.b0 s)
      have h4 := i0 x.b0 s
      simp only; omega
    split
    · have h1 := i0 x.edges s
      simp only; omega
    · simp only; omega
  · cases h
theorem Cells.take_ {w : World} {B : Nat} {A : Option Addr} {xs : List Value} (h : Cells w B A xs) (n : Nat) : Cells w B A (xs.take n) := fun hn => by
  obtain ⟨b, off, e, hb, hc⟩ := h (by simp at hn; omega)
  refine ⟨b, off, e, hb, fun j u hj => hc j u ?_⟩
  rw [List.getElem?_take] at hj
  split at hj
  · exact hj
  · cases hj
/-- Decode of a beginning -/
theorem dec_any' (A : Option Addr) (b : List Int) (c q : Nat) (w : World) (hc : b.length ≤ c) (hq : q < b.length) {x : Crt} (hE : encF x = some b) (h : Cells w w.heap.size A (byteCells b)) :
    Calls Try.prog 12 #[.slice A q c] w (fun e w' => e = .returned (.tuple #[crtVal CV0 (bare 0), .int .i64 4]) ∧ Below w.heap.size w w') := by
  have hl : (b.take q).length = q := by simp; omega
  have := decode_any A (b.take q) c w (fun y hy => encF_bytes hE y (List.mem_of_mem_take hy)) (by omega) (by
    have h2 := h.take_ q
    unfold byteCells at h2 ⊢
    rw [List.map_take]; exact h2) (by rw [hl]; have := encF_len hE; omega)
  rw [hl] at this
  exact this.mono fun e w' ⟨h1, h2, _⟩ => ⟨h2 (dec_cut hE hq), h1⟩
theorem bytes_one (l : List Int) : (byteCells l).all (fun u => u.oneCell') = true := by
  rw [List.all_eq_true]
  intro u hu
  obtain ⟨z, _, rfl⟩ := List.mem_map.1 hu
  rfl
theorem cut_mask (c : Int) {n : Nat} (hn : 0 < n) : ∃ q : Nat, Int.tmod (bits .and .i64 c 1048575) n = (q : Int) ∧ Int.tmod (bits .and .i64 c 1048575) n = (q : Int) ∧ q < n := by
  have m0 : 0 ≤ bits .and .i64 c 1048575 := (mask20 c).1
  obtain ⟨X, hX⟩ := Int.eq_ofNat_of_zero_le (Int.emod_nonneg (bits .and .i64 c 1048575) (show (n : Int) ≠ 0 by omega))
  have hl := Int.emod_lt_of_pos (bits .and .i64 c 1048575) (show (0 : Int) < n by omega)
  exact ⟨X, by rw [Int.tmod_eq_emod_of_nonneg m0]; exact hX, by rw [Int.tmod_eq_emod_of_nonneg m0]; exact hX, by omega⟩

set_option maxRecDepth 20000 in
set_option maxHeartbeats 2000000 in
theorem cuts_any (cs : Array Value) (x : Crt) (cut : Int) (M : Option Addr) (more : List Int) (cm : Nat) (w : World) (h : CallsC cs x w) (hm : Cells w w.heap.size M (byteCells more)) (hmb : Bytes more) :
    Calls Try.prog 5 #[.agg cs, .int .i64 cut, .slice M more.length cm] w (fun e w' => e = .returned (.bool true) ∧ Below w.heap.size w w') := by
  have H := Lib.hid h
  have HM := Lib.hid hm
  have Hs := Lib.hid h.size
  clear h hm
  go_enter Try.func5, Try.ntmps5
  have hb0 := (Below.refl w.heap.size w).alloc (Nat.le_refl _) (.cells cs 32)
  have hx0 := Blk.new w 32 cs
  have hz0 := World.size_alloc w (.cells cs 32)
  go_wp2_with fail
  refine (speaks_any _).mono ?_
  rintro e w1 ⟨rfl, hb1⟩
  have hx := hx0.below hb1 (by rw [hz0]; omega)
  have HB := Lib.hid (hb0.trans (hb1.mono (by rw [hz0]; omega)))
  have hz1 := hb1.size
  rw [hz0] at hz1
  clear hb0 hx0 hz0 hb1
  go_wp2_with (refine wpList_load_row rfl _ _ rfl w.heap.size rfl 32 cs (0, 0) _ hx Try.underlying32 rfl (by rw [Hs.out]; kernel_rfl) ?_)
  refine (H.out.great w1 HB.out).mono ?_
  rintro e w2 ⟨g, rfl, hg, hb2⟩
  cases g with
  | true =>
    go_wp2_with fail
    go_ret
    exact ⟨rfl, HB.out.trans (hb2.mono (by omega))⟩
  | false =>
  have HSm := Lib.hid (hg rfl)
  clear hg
  have hx2 := hx.below hb2 hx.lt
  have HB2 := Lib.hid (HB.out.trans (hb2.mono (by omega)))
  have hz2 := hb2.size
  clear hx HB hb2
  by_cases hml : 100 < more.length
  · have hml' : (100 : Int) < more.length := by omega
    go_wp2
    go_ret
    exact ⟨rfl, HB2.out⟩
  have hml' : ¬ (100 : Int) < more.length := by omega
  clear hml
  go_wp2_with (refine wpList_load_row rfl _ _ rfl w.heap.size rfl 32 cs (0, 0) _ hx2 Try.underlying32 rfl (by rw [Hs.out]; kernel_rfl) ?_)
  refine (H.out.laid w2).mono ?_
  rintro e w3 ⟨rfl, hb3⟩
  have HB3 := Lib.hid (HB2.out.trans (hb3.mono (by omega)))
  have hz3 := hb3.size
  clear hx2 HB2 hb3
  go_wp2_with fail
  refine (H.out.enc HSm.out.le w3 HB3.out).mono ?_
  rintro e w4 ⟨hb4, hn4, hs4⟩
  have HB4 := Lib.hid (HB3.out.trans (hb4.mono (by omega)))
  have hz4 := hb4.size
  clear hb4 HB3
  cases hE : encF x with
  | none =>
    obtain rfl := hn4 hE
    clear hn4 hs4 hE
    go_wp2
    go_ret
    exact ⟨rfl, HB4.out⟩
  | some b =>
  obtain ⟨A4, c4, rfl, hl4, hC4⟩ := hs4 b hE
  have HE := Lib.hid hE
  have HC4 := Lib.hid hC4
  clear hn4 hs4 hE hC4
  have hpos : 0 < b.length := encF_pos HE.out
  have hble : b.length ≤ 1000000 := encF_len HE.out
  obtain ⟨q, hq, hq1, hq2⟩ := cut_mask cut hpos
  have hql : (q : Int) < b.length := by omega
  have hqc : q ≤ c4 := by omega
  have hb0 : ((b.length : Int) == 0) = false := by rw [beq_eq_false_iff_ne]; omega
  clear hq
  have HD := Lib.hid (dec_any' A4 b c4 q w4 hl4 (by omega) HE.out HC4.out)
  go_wp2_with fail
  refine HD.out.mono ?_
  rintro e w5 ⟨rfl, hb5⟩
  have HB5 := Lib.hid (HB4.out.trans (hb5.mono (by omega)))
  have HC5 := Lib.hid (HC4.out.below hb5)
  have HM5 := Lib.hid (HM.out.below HB5.out)
  have hz5 := hb5.size
  clear hb5 hq1 HD
  unfold crtVal crtCells CV0 bare
  simp only [List.length_nil]
  have hown0 : ((w5.alloc (.cells #[.int .i64 0, .slice none 0 0, .slice none 0 0, .slice none 0 0, .int .i64 0, .slice none 0 0, .slice none 0 0, .slice none 0 0, .slice none 0 0, .slice none 0 0, .slice none 0 0, .slice none 0 0] 39)).alloc (.cells #[] 5)).ownsRow w5.heap.size 5 1 (.slice (some ⟨w5.heap.size + 1, 0, none⟩) 0 0) 0 [] :=
    own_of_blk (xs := []) (blk_new' _ _ _ _ (by simp)) (by omega) rfl (by omega)
  have hb6 : Below w5.heap.size w5 ((w5.alloc (.cells #[.int .i64 0, .slice none 0 0, .slice none 0 0, .slice none 0 0, .int .i64 0, .slice none 0 0, .slice none 0 0, .slice none 0 0, .slice none 0 0, .slice none 0 0, .slice none 0 0, .slice none 0 0] 39)).alloc (.cells #[] 5)) := ((Below.refl _ _).alloc (Nat.le_refl _) _).alloc (by simp) _
  have HC6 := Lib.hid (HC5.out.below (hb6.mono hz5))
  have HM6 := Lib.hid (HM5.out.below (hb6.mono (by omega)))
  have HB6 := Lib.hid (HB5.out.trans (hb6.mono (by omega)))
  have hz6 := hb6.size
  clear hb6
  go_wp2_with (at_builtin; refine wp_app_any elemByte rfl _ _ rfl rfl hown0 rfl HC6.out (show (byteCells b).length = b.length * 1 by simp [byteCells]) (bytes_one b) ?h2 ?h3 ?h4 ?_)
  case h2 => omega
  case h3 => omega
  case h4 => exact hz6
  intro v7 w7 hown7 hg7 _
  have hb7 := below_app (Below.refl w5.heap.size _) hown0 hg7 hz6 (Nat.le_refl _)
  have HM7 := Lib.hid (HM6.out.below (hb7.mono (by omega)))
  have HB7 := Lib.hid (HB6.out.trans (hb7.mono (by omega)))
  have hz7 := Nat.le_trans hz6 hg7.size
  obtain ⟨A7, c7, rfl⟩ := own_slice hown7
  clear hown0 hg7 hb7 hz6
  go_wp2_with (at_builtin; refine wp_app_any elemByte rfl _ _ rfl rfl hown7 rfl HM7.out (show (byteCells more).length = more.length * 1 by simp [byteCells]) (bytes_one more) ?h5 ?h6 ?h7 ?_)
  case h5 => omega
  case h6 => omega
  case h7 => exact hz7
  intro v8 w8 hown8 hg8 _
  have hb8 := below_app (Below.refl w5.heap.size _) hown7 hg8 hz7 (Nat.le_refl _)
  have HB8 := Lib.hid (HB7.out.trans (hb8.mono (by omega)))
  obtain ⟨A8, c8, rfl⟩ := own_slice hown8
  have HL8 := Lib.hid (own_cap hown8)
  have HC8 := Lib.hid (show Cells w8 w8.heap.size A8 (byteCells (b ++ more)) by rw [byteCells_append]; exact Cells.of_own hown8)
  have hlen : (b ++ more).length = b.length + more.length := List.length_append
  have HDD := Lib.hid (decode_any A8 (b ++ more) c8 w8 (bytes_append (encF_bytes HE.out) hmb) (by rw [hlen]; exact HL8.out) HC8.out (by rw [hlen]; omega))
  rw [hlen] at HDD
  clear hown7 hg8 hb8 hown8 hlen
  go_wp2_with fail
  refine HDD.out.mono ?_
  rintro e w9 ⟨hb9, hn9, hs9⟩
  have HB9 := Lib.hid (HB8.out.trans (hb9.mono HB8.out.size))
  clear hb9
  by_cases hm0 : more.length = 0
  · have hmn : more = [] := List.eq_nil_of_length_eq_zero hm0
    obtain ⟨V9, rfl, _⟩ := hs9 x (by rw [hmn, List.append_nil]; exact dec_enc HE.out)
    have hm0' : ((more.length : Int) == 0) = true := by rw [beq_iff_eq]; omega
    clear hn9 hs9 hm0 hmn
    unfold crtVal crtCells
    go_wp2_with fail
    go_ret
    exact ⟨rfl, HB9.out.alloc HB9.out.size _⟩
  · have hmn : more ≠ [] := fun e => hm0 (by rw [e]; rfl)
    obtain rfl := hn9 (dec_more HE.out hmn)
    have hm0' : ((more.length : Int) == 0) = false := by rw [beq_eq_false_iff_ne]; omega
    clear hn9 hs9 hm0 hmn
    unfold crtVal crtCells CV0 bare
    go_wp2_with fail
    go_ret
    exact ⟨rfl, HB9.out.alloc HB9.out.size _⟩
end Go.Proofs.Ytmlbjcngboegfaa
