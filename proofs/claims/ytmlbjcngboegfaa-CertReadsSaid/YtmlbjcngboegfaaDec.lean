/-
  Decode: what it tells. Written by an AI agent.
-/
import Derived.Test.YtmlbjcngboegfaaEnc
import Derived.Test.YtmlbjcngboegfaaStr
namespace Go.Proofs.Ytmlbjcngboegfaa
open Go.RowKit

/-- what Decode tells -/
def Decoded (b : List Int) (w : World) (e : Ending) (w' : World) : Prop :=
  Below w.heap.size w w' ∧ (decF b = none → e = .returned (.tuple #[crtVal CV0 (bare 0), .int .i64 4])) ∧ ∀ x, decF b = some x → ∃ V, e = .returned (.tuple #[crtVal V x, .int .i64 0]) ∧ CrtIs w' w'.heap.size V x

theorem rCount_le' (s : CS) : (rCount s).1 ≤ 128 := by
  unfold rCount
  split
  · simp
  · simp only; omega
theorem rLoop_length {α : Type} (each : CS → α × CS) : ∀ k s, (rLoop each k s).1.length ≤ k
  | 0, _ => Nat.le_refl _
  | k + 1, s => by
    rw [rLoop]
    split
    · simp
    · have := rLoop_length each k (each s).2
      simp only [List.length_cons]; omega
theorem rList_length {α : Type} (each : CS → α × CS) (s : CS) : (rList each s).1.length ≤ 128 := Nat.le_trans (rLoop_length each _ _) (rCount_le' s)
theorem rInts_length (s : CS) : (rInts s).1.length ≤ 3000 := Nat.le_trans (rList_length _ s) (by omega)
theorem rRows_length (s : CS) : (rRows s).1.length ≤ 3000 := Nat.le_trans (rList_length _ s) (by omega)
theorem rPts_length (s : CS) : (rPts s).1.length ≤ 3000 := Nat.le_trans (rList_length _ s) (by omega)
theorem rLines_length (s : CS) : (rLines s).1.length ≤ 3000 := Nat.le_trans (rList_length _ s) (by omega)
theorem nil_length {α : Type} : ([] : List α).length ≤ 3000 := by simp
theorem rWalk_le (k : Int) (s : CS) : CrtLe (rWalk k s).2.1 := by
  unfold rWalk
  repeat (first | split | (refine ⟨?_, ?_, ?_, ?_, ?_, ?_, ?_, ?_, ?_, ?_⟩ <;> first | exact nil_length | exact rInts_length _ | exact rRows_length _ | exact rPts_length _ | exact rLines_length _))
/-- what is written are bytes -/
def BO {α : Type} (w : α → CS → CS) : Prop := ∀ x s, Bytes s.out → Bytes (w x s).out
theorem bytes_append {a b : List Int} (h : Bytes a) (h' : Bytes b) : Bytes (a ++ b) := fun x hx => (List.mem_append.1 hx).elim (h x) (h' x)
theorem wPut_bo : BO wPut := fun n s h => by
  unfold wPut
  split
  · exact h
  · exact bytes_append h (vb_bytes _)
theorem wLoop_bo {α : Type} {each : α → CS → CS} (h : BO each) : BO (wLoop each) := fun l => by
  induction l with
  | nil => exact fun s hs => hs
  | cons x r ih =>
    intro s hs
    rw [wLoop]
    split
    · exact hs
    · exact ih _ (h _ _ hs)
theorem wList_bo {α : Type} {each : α → CS → CS} (h : BO each) : BO (wList each) := fun l s hs => by
  unfold wList
  split
  · exact hs
  · refine wLoop_bo h _ _ (bytes_append hs fun x hx => ?_)
    have := List.mem_singleton.1 hx
    omega
theorem wPt_bo : BO wPt := fun p s h => wPut_bo _ _ (wPut_bo _ _ h)
theorem wInts_bo : BO wInts := wList_bo wPut_bo
theorem wRows_bo : BO wRows := wList_bo wInts_bo
theorem wPts_bo : BO wPts := wList_bo wPt_bo
theorem wLines_bo : BO wLines := wList_bo wPts_bo
theorem encF_bytes {x : Crt} {b : List Int} (h : encF x = some b) : Bytes b := by
  unfold encF at h
  split at h
  · injection h with h
    subst h
    unfold wAll wWalk
    have h0 : Bytes (⟨[], [x.k % 256], false⟩ : CS).out := fun y hy => by
      have := List.mem_singleton.1 hy
      omega
    repeat (first | split | exact wRows_bo _ _ (wInts_bo _ _ h0) | exact wPut_bo _ _ (wRows_bo _ _ h0) | exact wLines_bo _ _ (wPts_bo _ _ h0) | exact wInts_bo _ _ (wInts_bo _ _ (wInts_bo _ _ (wInts_bo _ _ h0))) | exact wInts_bo _ _ h0 | exact h0)
  · cases h
/-- the world in which Decode takes its first byte -/
def decW (A : Option Addr) (b : List Int) (c : Nat) (w : World) : World := (w.alloc (.cells (crtCells CV0 (bare 0)) 39)).alloc (.cells #[.bool true, .slice A b.length c, .slice none 0 0, .bool false] 53)
theorem dec_size (A : Option Addr) (b : List Int) (c : Nat) (w : World) : (decW A b c w).heap.size = w.heap.size + 2 := by simp [decW]
theorem dec_below (A : Option Addr) (b : List Int) (c : Nat) (w : World) : Below w.heap.size w (decW A b c w) := ((Below.refl _ _).alloc (Nat.le_refl _) _).alloc (by simp) _
theorem dec_blk (A : Option Addr) (b : List Int) (c : Nat) (w : World) : Blk (decW A b c w) w.heap.size 39 (crtCells CV0 (bare 0)) := (Blk.new w _ _).alloc _
theorem dec_start {A : Option Addr} {b : List Int} {c : Nat} {w : World} (hb : Bytes b) (hc : b.length ≤ c) (h : Cells w w.heap.size A (byteCells b)) : Coder (decW A b c w) w.heap.size (w.heap.size + 1) true A c (.slice none 0 0) ⟨b, [], false⟩ := by
  have h2 : Blk (decW A b c w) (w.heap.size + 1) 53 #[.bool true, .slice A b.length c, .slice none 0 0, .bool false] := by
    have := Blk.new (w.alloc (.cells (crtCells CV0 (bare 0)) 39)) 53 #[.bool true, .slice A b.length c, .slice none 0 0, .bool false]
    simpa [decW] using this
  exact ⟨h2, h.below (dec_below A b c w), hc, World.ownsRow_nil _ _ _ _, by simp [Value.ownBlock], by omega, hb⟩

theorem dec_results {tmps : Array Value} {W : World} {g : Nat} {cs : Array Value} {n : Int} (hp : tmps.getD 2 undef = .pointer (some ⟨g, 0, none⟩)) (hn : tmps.getD 3 undef = .int .i64 n) (hb : Blk W g 39 cs) (hs : cs.size = 12) :
    (results Try.f12 tmps).run Try.prog W = .ok (.tuple #[.agg cs, .int .i64 n]) W := by
  have hp' : tmps[2]?.getD undef = .pointer (some ⟨g, 0, none⟩) := by simpa using hp
  have hn' : tmps[3]?.getD undef = .int .i64 n := by simpa using hn
  simp [results, Try.results12, hp', hn', asAddr, run_loadVar_row W g _ _ cs _ _ hb Try.underlying39 rfl (by rw [hs]; kernel_rfl)]
theorem set12_blk {w : World} {g : Nat} {t : TypeId} {cs : Array Value} (h : Blk w g t cs) (hs : cs.size = 12) (v0 v1 v2 v3 v4 v5 v6 v7 v8 v9 v10 v11 : Value) :
    Blk ((((((((((((w.setCell ⟨g, 0, none⟩ v0).setCell ⟨g, 1, none⟩ v1).setCell ⟨g, 2, none⟩ v2).setCell ⟨g, 3, none⟩ v3).setCell ⟨g, 4, none⟩ v4).setCell ⟨g, 5, none⟩ v5).setCell ⟨g, 6, none⟩ v6).setCell ⟨g, 7, none⟩ v7).setCell ⟨g, 8, none⟩ v8).setCell ⟨g, 9, none⟩ v9).setCell ⟨g, 10, none⟩ v10).setCell ⟨g, 11, none⟩ v11) g t #[v0, v1, v2, v3, v4, v5, v6, v7, v8, v9, v10, v11] := by
  have hb := (((((((((((h.set_ 0 v0).set_ 1 v1).set_ 2 v2).set_ 3 v3).set_ 4 v4).set_ 5 v5).set_ 6 v6).set_ 7 v7).set_ 8 v8).set_ 9 v9).set_ 10 v10).set_ 11 v11
  have e : (((((((((((cs.setIfInBounds 0 v0).setIfInBounds 1 v1).setIfInBounds 2 v2).setIfInBounds 3 v3).setIfInBounds 4 v4).setIfInBounds 5 v5).setIfInBounds 6 v6).setIfInBounds 7 v7).setIfInBounds 8 v8).setIfInBounds 9 v9).setIfInBounds 10 v10).setIfInBounds 11 v11 = #[v0, v1, v2, v3, v4, v5, v6, v7, v8, v9, v10, v11] := by
    obtain ⟨l⟩ := cs
    simp only [List.size_toArray] at hs
    apply Array.ext'
    simp only [Array.toList_setIfInBounds]
    obtain ⟨a0, l, rfl⟩ := List.exists_cons_of_length_eq_add_one hs
    obtain ⟨a1, l, rfl⟩ := List.exists_cons_of_length_eq_add_one (Nat.succ.inj hs)
    obtain ⟨a2, l, rfl⟩ := List.exists_cons_of_length_eq_add_one (Nat.succ.inj (Nat.succ.inj hs))
    simp only [List.length_cons] at hs
    obtain ⟨a3, l, rfl⟩ := List.exists_cons_of_length_eq_add_one (n := 8) (l := l) (by omega)
    simp only [List.length_cons] at hs
    obtain ⟨a4, l, rfl⟩ := List.exists_cons_of_length_eq_add_one (n := 7) (l := l) (by omega)
    simp only [List.length_cons] at hs
    obtain ⟨a5, l, rfl⟩ := List.exists_cons_of_length_eq_add_one (n := 6) (l := l) (by omega)
    simp only [List.length_cons] at hs
    obtain ⟨a6, l, rfl⟩ := List.exists_cons_of_length_eq_add_one (n := 5) (l := l) (by omega)
    simp only [List.length_cons] at hs
    obtain ⟨a7, l, rfl⟩ := List.exists_cons_of_length_eq_add_one (n := 4) (l := l) (by omega)
    simp only [List.length_cons] at hs
    obtain ⟨a8, l, rfl⟩ := List.exists_cons_of_length_eq_add_one (n := 3) (l := l) (by omega)
    simp only [List.length_cons] at hs
    obtain ⟨a9, l, rfl⟩ := List.exists_cons_of_length_eq_add_one (n := 2) (l := l) (by omega)
    simp only [List.length_cons] at hs
    obtain ⟨a10, l, rfl⟩ := List.exists_cons_of_length_eq_add_one (n := 1) (l := l) (by omega)
    simp only [List.length_cons] at hs
    obtain ⟨a11, l, rfl⟩ := List.exists_cons_of_length_eq_add_one (n := 0) (l := l) (by omega)
    simp only [List.length_cons] at hs
    have hl : l = [] := List.eq_nil_of_length_eq_zero (by omega)
    subst hl
    simp only [List.set_cons_zero, List.set_cons_succ]
  rw [e] at hb
  exact hb
theorem set12_below {w0 w : World} {B g : Nat} (h : Below B w0 w) (hg : B ≤ g) (v0 v1 v2 v3 v4 v5 v6 v7 v8 v9 v10 v11 : Value) :
    Below B w0 ((((((((((((w.setCell ⟨g, 0, none⟩ v0).setCell ⟨g, 1, none⟩ v1).setCell ⟨g, 2, none⟩ v2).setCell ⟨g, 3, none⟩ v3).setCell ⟨g, 4, none⟩ v4).setCell ⟨g, 5, none⟩ v5).setCell ⟨g, 6, none⟩ v6).setCell ⟨g, 7, none⟩ v7).setCell ⟨g, 8, none⟩ v8).setCell ⟨g, 9, none⟩ v9).setCell ⟨g, 10, none⟩ v10).setCell ⟨g, 11, none⟩ v11) :=
  (((((((((((h.setCell hg _).setCell hg _).setCell hg _).setCell hg _).setCell hg _).setCell hg _).setCell hg _).setCell hg _).setCell hg _).setCell hg _).setCell hg _).setCell hg _

theorem set12_only (w : World) (g : Nat) (v0 v1 v2 v3 v4 v5 v6 v7 v8 v9 v10 v11 : Value) : Only (fun i => i = g) w ((((((((((((w.setCell ⟨g, 0, none⟩ v0).setCell ⟨g, 1, none⟩ v1).setCell ⟨g, 2, none⟩ v2).setCell ⟨g, 3, none⟩ v3).setCell ⟨g, 4, none⟩ v4).setCell ⟨g, 5, none⟩ v5).setCell ⟨g, 6, none⟩ v6).setCell ⟨g, 7, none⟩ v7).setCell ⟨g, 8, none⟩ v8).setCell ⟨g, 9, none⟩ v9).setCell ⟨g, 10, none⟩ v10).setCell ⟨g, 11, none⟩ v11) := by
  have h : ∀ {w1 : World} (_ : Only (fun i => i = g) w w1) (o : Nat) (v : Value), Only (fun i => i = g) w (w1.setCell ⟨g, o, none⟩ v) := fun h o v => h.trans (Only.set_ _ g o v) fun _ _ h => h
  exact h (h (h (h (h (h (h (h (h (h (h (h (Only.refl _ _) 0 v0) 1 v1) 2 v2) 3 v3) 4 v4) 5 v5) 6 v6) 7 v7) 8 v8) 9 v9) 10 v10) 11 v11
theorem set12_size (w : World) (g : Nat) (v0 v1 v2 v3 v4 v5 v6 v7 v8 v9 v10 v11 : Value) : w.heap.size ≤ ((((((((((((w.setCell ⟨g, 0, none⟩ v0).setCell ⟨g, 1, none⟩ v1).setCell ⟨g, 2, none⟩ v2).setCell ⟨g, 3, none⟩ v3).setCell ⟨g, 4, none⟩ v4).setCell ⟨g, 5, none⟩ v5).setCell ⟨g, 6, none⟩ v6).setCell ⟨g, 7, none⟩ v7).setCell ⟨g, 8, none⟩ v8).setCell ⟨g, 9, none⟩ v9).setCell ⟨g, 10, none⟩ v10).setCell ⟨g, 11, none⟩ v11).heap.size := (set12_only w g v0 v1 v2 v3 v4 v5 v6 v7 v8 v9 v10 v11).size
theorem set12_fix {w : World} {g L : Nat} (h : g < L) (v0 v1 v2 v3 v4 v5 v6 v7 v8 v9 v10 v11 : Value) : Fix w ((((((((((((w.setCell ⟨g, 0, none⟩ v0).setCell ⟨g, 1, none⟩ v1).setCell ⟨g, 2, none⟩ v2).setCell ⟨g, 3, none⟩ v3).setCell ⟨g, 4, none⟩ v4).setCell ⟨g, 5, none⟩ v5).setCell ⟨g, 6, none⟩ v6).setCell ⟨g, 7, none⟩ v7).setCell ⟨g, 8, none⟩ v8).setCell ⟨g, 9, none⟩ v9).setCell ⟨g, 10, none⟩ v10).setCell ⟨g, 11, none⟩ v11) L :=
  fun p h1 h2 => World.cell?_of_block (a := p) ((set12_only w g v0 v1 v2 v3 v4 v5 v6 v7 v8 v9 v10 v11).block p.block h2 (by omega))

set_option maxRecDepth 20000 in
set_option maxHeartbeats 4000000 in
theorem decode_any (A : Option Addr) (b : List Int) (c : Nat) (w : World) (hb : Bytes b) (hc : b.length ≤ c) (h : Cells w w.heap.size A (byteCells b)) (hl : b.length ≤ 100000000) : Calls Try.prog 12 #[.slice A b.length c] w (Decoded b w) := by
  go_enter Try.func12, Try.ntmps12
  go_wp2_with fail
  have HC := Lib.hid (dec_start hb hc h)
  have HX := Lib.hid (dec_blk A b c w)
  have HB := Lib.hid (dec_below A b c w)
  have HS := Lib.hid (dec_size A b c w)
  unfold decW crtCells CV0 bare at HC HX HB HS
  have Hh := Lib.hid h
  have Hb := Lib.hid hb
  clear h hb
  simp only [List.length_nil] at HC HX HB HS
  generalize hw3 : (w.alloc (.cells #[.int .i64 0, .slice none 0 0, .slice none 0 0, .slice none 0 0, .int .i64 0, .slice none 0 0, .slice none 0 0, .slice none 0 0, .slice none 0 0, .slice none 0 0, .slice none 0 0, .slice none 0 0] 39)).alloc (.cells #[.bool true, .slice A b.length c, .slice none 0 0, .bool false] 53) = w3 at *
  clear hw3
  refine (next_any w.heap.size (w.heap.size + 1) true A c _ ⟨b, [], false⟩ w3 HC.out).mono ?_
  rintro e w4 ⟨rfl, hr4⟩
  have HA := Lib.hid (show rAll b = rWalk (rNext ⟨b, [], false⟩).1 (rNext ⟨b, [], false⟩).2 from rfl)
  have HD := Lib.hid (show decF b = if (rAll b).1 = true ∧ (rAll b).2.2.bad = false ∧ (rAll b).2.2.inn = [] ∧ encF (rAll b).2.1 = some b then some (rAll b).2.1 else none from rfl)
  rw [HA.out] at HD
  have HO := Lib.hid (show (rNext ⟨b, [], false⟩).2.out.length ≤ 1000 by rw [rNext_out]; simp)
  have HG4 := Lib.hid (hr4.blk HX.out (by omega) (by simp [Value.ownBlock]) (fun h => h))
  obtain ⟨A4, c4, ov4, hc4, ho4, hf4⟩ := hr4
  generalize rNext ⟨b, [], false⟩ = r at *
  have HC4 := Lib.hid hc4
  have hs4 := ho4.size
  have HB4 := Lib.hid (HB.out.trans (ho4.below (B := w.heap.size) (by rw [HS.out]; omega) fun i hi => by
    rcases hi with hi | hi | hi
    · omega
    · cases hi
    · exact hi.elim))
  rw [HS.out] at hs4
  clear hc4 ho4 hf4 HC HB HX
  go_wp2_with fail
  have HC5 := Lib.hid (HC4.out.only (Only.alloc w4 (.cells (crtCells CV0 (bare r.1)) 39)) (fun h => h) (fun _ _ h => h) (fun _ h => h.elim))
  have HX5 := Lib.hid (Blk.new w4 39 (crtCells CV0 (bare r.1)))
  have HB5 := Lib.hid (HB4.out.alloc (by omega) (.cells (crtCells CV0 (bare r.1)) 39))
  have HG5 := Lib.hid (HG4.out.alloc (.cells (crtCells CV0 (bare r.1)) 39))
  have H5 := Lib.hid (fun h1 h2 => walkR_any w.heap.size (w.heap.size + 1) w4.heap.size A4 c4 ov4 r.2 r.1 (w4.alloc (.cells (crtCells CV0 (bare r.1)) 39)) HC5.out HO.out HX5.out h1 h2)
  have hs5 : (w4.alloc (.cells (crtCells CV0 (bare r.1)) 39)).heap.size = w4.heap.size + 1 := by simp
  unfold crtCells CV0 bare at HC5 HX5 HB5 H5 hs5 HG5
  simp only [List.length_nil] at HC5 HX5 HB5 H5 hs5 HG5
  generalize w4.alloc (.cells #[.int .i64 r.1, .slice none 0 0, .slice none 0 0, .slice none 0 0, .int .i64 0, .slice none 0 0, .slice none 0 0, .slice none 0 0, .slice none 0 0, .slice none 0 0, .slice none 0 0, .slice none 0 0] 39) = w5 at *
  refine (H5.out (by omega) (by omega)).mono ?_
  rintro e w6 ⟨rfl, V, ⟨A6, c6, ov6, hc6, ho6, hf6⟩, hx6, hI6⟩
  have HLe := Lib.hid (rWalk_le r.1 r.2)
  generalize rWalk r.1 r.2 = R at *
  have HB6 := Lib.hid (HB5.out.trans (ho6.below (B := w.heap.size) (by omega) fun i hi => by
    rcases hi with hi | hi | hi
    · omega
    · exact (HC5.out.olt i hi).1
    · omega))
  have HG6 := Lib.hid (HG5.out.only ho6 fun hk => by
    rcases hk with hk | hk | hk
    · omega
    · obtain ⟨_, h2⟩ := own_ty HC5.out.own hk
      exact absurd (blk_ty h2 HG5.out) (by decide)
    · omega)
  have z1 := hc6.c1
  have z3 := hc6.c3
  have HC6 := Lib.hid hc6
  have HX6 := Lib.hid hx6
  have HF6 := Lib.hid hI6
  have HI6 := Lib.hid (hI6 w6 (Fix.refl _ _))
  have HS6 := Lib.hid ho6.size
  clear hc6 hx6 hI6 ho6 hf6
  obtain ⟨R1, x, s6⟩ := R
  have hNone : decF b = none → ∀ w', Below w.heap.size w w' → Decoded b w (.returned (.tuple #[crtVal CV0 (bare 0), .int .i64 4])) w' := fun hn w' hb => ⟨hb, fun _ => rfl, fun x hx => by rw [hn] at hx; cases hx⟩
  have HNone := Lib.hid hNone
  unfold crtVal crtCells CV0 bare at HNone
  simp only [List.length_nil] at HNone
  clear hNone
  simp only at HD z1 z3
  cases h1 : R1 with
  | false =>
    have HN := Lib.hid (show decF b = none by rw [HD.out, if_neg (fun h => by rw [h1] at h; cases h.1)])
    clear h1
    have q0 := HG6.out.cell 0
    have q1 := HG6.out.cell 1
    have q2 := HG6.out.cell 2
    have q3 := HG6.out.cell 3
    have q4 := HG6.out.cell 4
    have q5 := HG6.out.cell 5
    have q6 := HG6.out.cell 6
    have q7 := HG6.out.cell 7
    have q8 := HG6.out.cell 8
    have q9 := HG6.out.cell 9
    have q10 := HG6.out.cell 10
    have q11 := HG6.out.cell 11
    simp only [List.getElem?_toArray, List.getElem?_cons_zero, List.getElem?_cons_succ] at q0 q1 q2 q3 q4 q5 q6 q7 q8 q9 q10 q11
    have p0 := HG6.out.frozen 0
    have p1 := HG6.out.frozen 1
    have p2 := HG6.out.frozen 2
    have p3 := HG6.out.frozen 3
    have p4 := HG6.out.frozen 4
    have p5 := HG6.out.frozen 5
    have p6 := HG6.out.frozen 6
    have p7 := HG6.out.frozen 7
    have p8 := HG6.out.frozen 8
    have p9 := HG6.out.frozen 9
    have p10 := HG6.out.frozen 10
    have p11 := HG6.out.frozen 11
    go_wp2_with fail
    refine bodyPost_ret (dec_results rfl rfl (set12_blk HG6.out rfl ..) rfl) rfl ?_
    exact HNone.out HN.out _ (set12_below HB6.out (Nat.le_refl _) ..)
  | true =>
    cases h2 : s6.bad with
    | true =>
      have HN := Lib.hid (show decF b = none by rw [HD.out, if_neg (fun h => by rw [h2] at h; cases h.2.1)])
      rw [h2] at z3
      clear h1 h2
      have q0 := HG6.out.cell 0
      have q1 := HG6.out.cell 1
      have q2 := HG6.out.cell 2
      have q3 := HG6.out.cell 3
      have q4 := HG6.out.cell 4
      have q5 := HG6.out.cell 5
      have q6 := HG6.out.cell 6
      have q7 := HG6.out.cell 7
      have q8 := HG6.out.cell 8
      have q9 := HG6.out.cell 9
      have q10 := HG6.out.cell 10
      have q11 := HG6.out.cell 11
      simp only [List.getElem?_toArray, List.getElem?_cons_zero, List.getElem?_cons_succ] at q0 q1 q2 q3 q4 q5 q6 q7 q8 q9 q10 q11
      have p0 := HG6.out.frozen 0
      have p1 := HG6.out.frozen 1
      have p2 := HG6.out.frozen 2
      have p3 := HG6.out.frozen 3
      have p4 := HG6.out.frozen 4
      have p5 := HG6.out.frozen 5
      have p6 := HG6.out.frozen 6
      have p7 := HG6.out.frozen 7
      have p8 := HG6.out.frozen 8
      have p9 := HG6.out.frozen 9
      have p10 := HG6.out.frozen 10
      have p11 := HG6.out.frozen 11
      go_wp2_with fail
      refine bodyPost_ret (dec_results rfl rfl (set12_blk HG6.out rfl ..) rfl) rfl ?_
      exact HNone.out HN.out _ (set12_below HB6.out (Nat.le_refl _) ..)
    | false =>
      rw [h1, h2] at HD
      rw [h2] at z3
      clear h1 h2
      by_cases h3 : 0 < s6.inn.length
      · have HN := Lib.hid (show decF b = none by rw [HD.out, if_neg (fun h => by rw [h.2.2.1] at h3; simp at h3)])
        have h3' : (0 : Int) < s6.inn.length := by omega
        have q0 := HG6.out.cell 0
        have q1 := HG6.out.cell 1
        have q2 := HG6.out.cell 2
        have q3 := HG6.out.cell 3
        have q4 := HG6.out.cell 4
        have q5 := HG6.out.cell 5
        have q6 := HG6.out.cell 6
        have q7 := HG6.out.cell 7
        have q8 := HG6.out.cell 8
        have q9 := HG6.out.cell 9
        have q10 := HG6.out.cell 10
        have q11 := HG6.out.cell 11
        simp only [List.getElem?_toArray, List.getElem?_cons_zero, List.getElem?_cons_succ] at q0 q1 q2 q3 q4 q5 q6 q7 q8 q9 q10 q11
        have p0 := HG6.out.frozen 0
        have p1 := HG6.out.frozen 1
        have p2 := HG6.out.frozen 2
        have p3 := HG6.out.frozen 3
        have p4 := HG6.out.frozen 4
        have p5 := HG6.out.frozen 5
        have p6 := HG6.out.frozen 6
        have p7 := HG6.out.frozen 7
        have p8 := HG6.out.frozen 8
        have p9 := HG6.out.frozen 9
        have p10 := HG6.out.frozen 10
        have p11 := HG6.out.frozen 11
        go_wp2_with fail
        refine bodyPost_ret (dec_results rfl rfl (set12_blk HG6.out rfl ..) rfl) rfl ?_
        exact HNone.out HN.out _ (set12_below HB6.out (Nat.le_refl _) ..)
      · have h0 : s6.inn = [] := List.eq_nil_of_length_eq_zero (by omega)
        rw [h0] at HD z1
        rw [List.length_nil] at z1
        clear h0 h3
        have HD := Lib.hid (show decF b = if encF x = some b then some x else none by rw [HD.out]; simp)
        have hx6 := HX6.out
        have H7 := Lib.hid (encode_any V x w6 HI6.out HLe.out)
        unfold crtVal at H7
        unfold crtCells at hx6 H7
        have t0 := hx6.cell 0
        have t1 := hx6.cell 1
        have t2 := hx6.cell 2
        have t3 := hx6.cell 3
        have t4 := hx6.cell 4
        have t5 := hx6.cell 5
        have t6 := hx6.cell 6
        have t7 := hx6.cell 7
        have t8 := hx6.cell 8
        have t9 := hx6.cell 9
        have t10 := hx6.cell 10
        have t11 := hx6.cell 11
        simp only [List.getElem?_toArray, List.getElem?_cons_zero, List.getElem?_cons_succ] at t0 t1 t2 t3 t4 t5 t6 t7 t8 t9 t10 t11
        clear hx6
        go_wp2_with fail
        refine H7.out.mono ?_
        rintro e w7 ⟨hb7, hn7, hs7⟩
        have HG7 := Lib.hid (HG6.out.below hb7 HG6.out.lt)
        have HB7 := Lib.hid (HB6.out.trans (hb7.mono HB6.out.size))
        have HX7 := Lib.hid (HX6.out.below hb7 HX6.out.lt)
        have HF7 := Lib.hid (fun (w2 : World) (h2 : Fix w7 w2 w5.heap.size) => (HF6.out w2 fun p h1 h => (h2 p h1 (Nat.lt_of_lt_of_le h hb7.size)).trans (hb7.cell h)).more hb7.size)
        have HbC := Lib.hid (Hh.out.below HB7.out)
        clear t0 t1 t2 t3 t4 t5 t6 t7 t8 t9 t10 t11 z1 z3 hb7 H7
        cases hE : encF x with
        | none =>
          obtain rfl := hn7 hE
          have HN := Lib.hid (show decF b = none by rw [HD.out, hE]; simp)
          clear hn7 hs7 hE
          have q0 := HG7.out.cell 0
          have q1 := HG7.out.cell 1
          have q2 := HG7.out.cell 2
          have q3 := HG7.out.cell 3
          have q4 := HG7.out.cell 4
          have q5 := HG7.out.cell 5
          have q6 := HG7.out.cell 6
          have q7 := HG7.out.cell 7
          have q8 := HG7.out.cell 8
          have q9 := HG7.out.cell 9
          have q10 := HG7.out.cell 10
          have q11 := HG7.out.cell 11
          simp only [List.getElem?_toArray, List.getElem?_cons_zero, List.getElem?_cons_succ] at q0 q1 q2 q3 q4 q5 q6 q7 q8 q9 q10 q11
          have p0 := HG7.out.frozen 0
          have p1 := HG7.out.frozen 1
          have p2 := HG7.out.frozen 2
          have p3 := HG7.out.frozen 3
          have p4 := HG7.out.frozen 4
          have p5 := HG7.out.frozen 5
          have p6 := HG7.out.frozen 6
          have p7 := HG7.out.frozen 7
          have p8 := HG7.out.frozen 8
          have p9 := HG7.out.frozen 9
          have p10 := HG7.out.frozen 10
          have p11 := HG7.out.frozen 11
          go_wp2_with fail
          refine bodyPost_ret (dec_results rfl rfl (set12_blk HG7.out rfl ..) rfl) rfl ?_
          exact HNone.out HN.out _ (set12_below HB7.out (Nat.le_refl _) ..)
        | some b' =>
          obtain ⟨A7, c7, rfl, hl7, hc7⟩ := hs7 b' hE
          have HC7 := Lib.hid hc7
          have Hb' := Lib.hid (encF_bytes hE)
          have HD := Lib.hid (show decF b = if b' = b then some x else none by rw [HD.out, hE]; simp)
          clear hn7 hs7 hE hc7
          go_wp2_with fail
          refine (bytesEq_any w7 HC7.out HbC.out Hb'.out Hb.out).mono ?_
          rintro e w8 ⟨rfl, rfl⟩
          by_cases hq : b' = b
          · have hd : decide (b' = b) = true := decide_eq_true hq
            have HN := Lib.hid (show decF b = some x by rw [HD.out, if_pos hq])
            rw [hd]
            clear hd hq HD
            have hx7 := HX7.out
            unfold crtCells at hx7
            have t0 := hx7.cell 0
            have t1 := hx7.cell 1
            have t2 := hx7.cell 2
            have t3 := hx7.cell 3
            have t4 := hx7.cell 4
            have t5 := hx7.cell 5
            have t6 := hx7.cell 6
            have t7 := hx7.cell 7
            have t8 := hx7.cell 8
            have t9 := hx7.cell 9
            have t10 := hx7.cell 10
            have t11 := hx7.cell 11
            simp only [List.getElem?_toArray, List.getElem?_cons_zero, List.getElem?_cons_succ] at t0 t1 t2 t3 t4 t5 t6 t7 t8 t9 t10 t11
            clear hx7
            have q0 := HG7.out.cell 0
            have q1 := HG7.out.cell 1
            have q2 := HG7.out.cell 2
            have q3 := HG7.out.cell 3
            have q4 := HG7.out.cell 4
            have q5 := HG7.out.cell 5
            have q6 := HG7.out.cell 6
            have q7 := HG7.out.cell 7
            have q8 := HG7.out.cell 8
            have q9 := HG7.out.cell 9
            have q10 := HG7.out.cell 10
            have q11 := HG7.out.cell 11
            simp only [List.getElem?_toArray, List.getElem?_cons_zero, List.getElem?_cons_succ] at q0 q1 q2 q3 q4 q5 q6 q7 q8 q9 q10 q11
            have p0 := HG7.out.frozen 0
            have p1 := HG7.out.frozen 1
            have p2 := HG7.out.frozen 2
            have p3 := HG7.out.frozen 3
            have p4 := HG7.out.frozen 4
            have p5 := HG7.out.frozen 5
            have p6 := HG7.out.frozen 6
            have p7 := HG7.out.frozen 7
            have p8 := HG7.out.frozen 8
            have p9 := HG7.out.frozen 9
            have p10 := HG7.out.frozen 10
            have p11 := HG7.out.frozen 11
            go_wp2_with fail
            refine bodyPost_ret (dec_results rfl rfl (set12_blk HG7.out rfl ..) rfl) rfl ?_
            refine ⟨set12_below HB7.out (Nat.le_refl _) .., fun h => ?_, fun y h => ?_⟩
            · rw [HN.out] at h; cases h
            · rw [HN.out] at h
              injection h with h
              subst h
              exact ⟨V, rfl, (HF7.out _ (set12_fix (g := w.heap.size) (by omega) _ _ _ _ _ _ _ _ _ _ _ _)).more (set12_size ..)⟩
          · have hd : decide (b' = b) = false := decide_eq_false hq
            have HN := Lib.hid (show decF b = none by rw [HD.out, if_neg hq])
            rw [hd]
            clear hd hq HD
            have q0 := HG7.out.cell 0
            have q1 := HG7.out.cell 1
            have q2 := HG7.out.cell 2
            have q3 := HG7.out.cell 3
            have q4 := HG7.out.cell 4
            have q5 := HG7.out.cell 5
            have q6 := HG7.out.cell 6
            have q7 := HG7.out.cell 7
            have q8 := HG7.out.cell 8
            have q9 := HG7.out.cell 9
            have q10 := HG7.out.cell 10
            have q11 := HG7.out.cell 11
            simp only [List.getElem?_toArray, List.getElem?_cons_zero, List.getElem?_cons_succ] at q0 q1 q2 q3 q4 q5 q6 q7 q8 q9 q10 q11
            have p0 := HG7.out.frozen 0
            have p1 := HG7.out.frozen 1
            have p2 := HG7.out.frozen 2
            have p3 := HG7.out.frozen 3
            have p4 := HG7.out.frozen 4
            have p5 := HG7.out.frozen 5
            have p6 := HG7.out.frozen 6
            have p7 := HG7.out.frozen 7
            have p8 := HG7.out.frozen 8
            have p9 := HG7.out.frozen 9
            have p10 := HG7.out.frozen 10
            have p11 := HG7.out.frozen 11
            go_wp2_with fail
            refine bodyPost_ret (dec_results rfl rfl (set12_blk HG7.out rfl ..) rfl) rfl ?_
            exact HNone.out HN.out _ (set12_below HB7.out (Nat.le_refl _) ..)
end Go.Proofs.Ytmlbjcngboegfaa
