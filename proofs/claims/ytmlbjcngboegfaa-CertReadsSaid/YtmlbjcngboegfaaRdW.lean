/-
  The reference's Decode: words. Printed by wip/C/rdd.py. Written by an AI agent.
-/
import Derived.Test.YtmlbjcngboegfaaRdP
import Derived.Test.YtmlbjcngboegfaaDec
namespace Go.Proofs.Ytmlbjcngboegfaa
open Go.RowKit

def KInts (w : World) (base : Nat) (v : Value) (l : List Int) : Prop := w.ownsRow base 3 1 v l.length (intCells l)
def KPts (w : World) (base : Nat) (v : Value) (l : List (Int × Int)) : Prop := w.ownsRow base 85 2 v l.length (edgeCells l)
def KRows (w : World) (base : Nat) (v : Value) (l : List (List Int)) : Prop := ∃ xs, w.ownsRow base 22 1 v l.length xs ∧ GRows w base l xs
def KLines (w : World) (base : Nat) (v : Value) (l : List (List (Int × Int))) : Prop := ∃ xs, w.ownsRow base 26 1 v l.length xs ∧ GLines w base l xs
section
variable {w w' : World} {base g : Nat} {v : Value} {t : TypeId} {cs : Array Value}
theorem KInts.only {l : List Int} (h : KInts w base v l) (ho : OX g w w') (hg : g < base) (_ : Blk w g t cs) (_ : t ≠ 3) : KInts w' base v l := own_ox h ho hg
theorem KPts.only {l : List (Int × Int)} (h : KPts w base v l) (ho : OX g w w') (hg : g < base) (_ : Blk w g t cs) (_ : t ≠ 3) : KPts w' base v l := own_ox h ho hg
theorem KRows.only {l : List (List Int)} (h : KRows w base v l) (ho : OX g w w') (hg : g < base) (hb : Blk w g t cs) (ht : t ≠ 3) : KRows w' base v l := by
  obtain ⟨xs, h1, h2⟩ := h
  exact ⟨xs, own_ox h1 ho hg, grows_keep _ _ _ _ _ _ h2 ho fun i (hi : i = g) cs' hb' => by subst hi; exact ht (blk_ty hb hb')⟩
theorem KLines.only {l : List (List (Int × Int))} (h : KLines w base v l) (ho : OX g w w') (hg : g < base) (hb : Blk w g t cs) (ht : t ≠ 85) : KLines w' base v l := by
  obtain ⟨xs, h1, h2⟩ := h
  exact ⟨xs, own_ox h1 ho hg, glines_keep _ _ _ _ _ _ h2 ho fun i (hi : i = g) cs' hb' => by subst hi; exact ht (blk_ty hb hb')⟩
end
section
variable {w : World} {base c : Nat} {A : Option Addr}
theorem KInts.cells {l : List Int} (h : KInts w base (.slice A l.length c) l) : Cells w w.heap.size A (intCells l) := Cells.of_own h
theorem KPts.cells {l : List (Int × Int)} (h : KPts w base (.slice A l.length c) l) : Cells w w.heap.size A (edgeCells l) := Cells.of_own h
theorem KRows.cells {l : List (List Int)} (h : KRows w base (.slice A l.length c) l) : TblAt intCells w w.heap.size A l := fun hn => by
  obtain ⟨xs, h1, h2, h3⟩ := h
  obtain ⟨b, o, e, hb, hc⟩ := Cells.of_own h1 (by rw [h2]; exact hn)
  refine ⟨b, o, e, hb, fun i hi => ?_⟩
  obtain ⟨u, hu, hw⟩ := h3 i hi
  obtain ⟨A', c', rfl⟩ := own_slice hw
  exact ⟨A', c', hc i _ hu, Cells.of_own hw⟩
theorem KLines.cells {l : List (List (Int × Int))} (h : KLines w base (.slice A l.length c) l) : TblAt edgeCells w w.heap.size A l := fun hn => by
  obtain ⟨xs, h1, h2, h3⟩ := h
  obtain ⟨b, o, e, hb, hc⟩ := Cells.of_own h1 (by rw [h2]; exact hn)
  refine ⟨b, o, e, hb, fun i hi => ?_⟩
  obtain ⟨u, hu, hw⟩ := h3 i hi
  obtain ⟨A', c', rfl⟩ := own_slice hw
  exact ⟨A', c', hc i _ hu, Cells.of_own hw⟩
theorem KPts.mono {base' : Nat} {v : Value} {l : List (Int × Int)} (h : KPts w base v l) (hb : base' ≤ base) : KPts w base' v l := own_mono h hb
end
theorem InB.blk {w : World} {B gx : Nat} {A : Option Addr} {b : List Int} {c : Nat} {s : CS} (h : InB w B gx A b c s) : ∃ cs, Blk w gx 68 cs := by
  obtain ⟨t, hx, _⟩ := h
  exact ⟨_, hx⟩
theorem GotR.kints {B gx : Nat} {A : Option Addr} {b : List Int} {c : Nat} {w w' : World} {r : List Int × CS} {en : Ending} (h : GotR 3 1 GInts B gx A b c w r en w') : ∃ A1 c1, en = .returned (.slice A1 r.1.length c1) ∧ KInts w' w.heap.size (.slice A1 r.1.length c1) r.1 ∧ InB w' B gx A b c r.2 ∧ OX gx w w' := by
  obtain ⟨v, xs, rfl, h1, h2, h3, h4⟩ := h
  obtain ⟨A1, c1, rfl⟩ := own_slice h1
  have h2 : xs = intCells r.1 := h2
  subst h2
  exact ⟨A1, c1, rfl, h1, h3, h4⟩
theorem GotR.kpts {B gx : Nat} {A : Option Addr} {b : List Int} {c : Nat} {w w' : World} {r : List (Int × Int) × CS} {en : Ending} (h : GotR 85 2 GPts B gx A b c w r en w') : ∃ A1 c1, en = .returned (.slice A1 r.1.length c1) ∧ KPts w' w.heap.size (.slice A1 r.1.length c1) r.1 ∧ InB w' B gx A b c r.2 ∧ OX gx w w' := by
  obtain ⟨v, xs, rfl, h1, h2, h3, h4⟩ := h
  obtain ⟨A1, c1, rfl⟩ := own_slice h1
  have h2 : xs = edgeCells r.1 := h2
  subst h2
  exact ⟨A1, c1, rfl, h1, h3, h4⟩
theorem GotR.krows {B gx : Nat} {A : Option Addr} {b : List Int} {c : Nat} {w w' : World} {r : List (List Int) × CS} {en : Ending} (h : GotR 22 1 GRows B gx A b c w r en w') : ∃ A1 c1, en = .returned (.slice A1 r.1.length c1) ∧ KRows w' w.heap.size (.slice A1 r.1.length c1) r.1 ∧ InB w' B gx A b c r.2 ∧ OX gx w w' := by
  obtain ⟨v, xs, rfl, h1, h2, h3, h4⟩ := h
  obtain ⟨A1, c1, rfl⟩ := own_slice h1
  exact ⟨A1, c1, rfl, ⟨xs, h1, h2⟩, h3, h4⟩
theorem evo_ox {B gx : Nat} {w w' : World} {cs : Array Value} (h : OX gx w w') (hb : Blk w gx 68 cs) (hg : B ≤ gx) : Evo B [68] w w' :=
  ⟨h.os, h.tape, h.output, h.size, fun k hk hh => h.block k hk fun (e : k = gx) => by
    subst e
    rcases hh with hh | hh
    · omega
    · exact hh _ _ _ hb (by simp)⟩
theorem InB.evo {B Bs gx : Nat} {T : List TypeId} {w w' : World} {A : Option Addr} {b : List Int} {c : Nat} {s : CS} (h : InB w Bs gx A b c s) (he : Evo B T w w') (hB : Bs ≤ B) (ht : 68 ∉ T) : InB w' Bs gx A b c s := by
  obtain ⟨t, hx, h1, hi, hc, hB2, hbb, hl⟩ := h
  have hsz := hx.lt
  exact ⟨t, hx.evo he (.inr ht), h1, hi, hc.keep fun p hp => World.cell?_of_block (he.keep p.block (by omega) (.inl (by omega))), hB2, hbb, hl⟩
theorem glines_evo {B base : Nat} {T : List TypeId} {w w' : World} {l : List (List (Int × Int))} {xs : List Value} (h : GLines w base l xs) (he : Evo B T w w') (ht : 85 ∉ T) : GLines w' base l xs :=
  ⟨h.1, fun j hj => by
    obtain ⟨u, h1, h2⟩ := h.2 j hj
    exact ⟨u, h1, own_evo h2 he ht⟩⟩
/-- a list of points was read -/
def pfCall {B : Nat} (Bs gx : Nat) (hB : Bs ≤ B) (A : Option Addr) (b : List Int) (c : Nat) (y : List (Int × Int)) (s : CS) : PFact B :=
  ⟨[68, 85], [], fun _ v w => ∃ Ay cy, v = .slice Ay y.length cy ∧ KPts w B v y ∧ InB w Bs gx A b c s,
    fun _ hT _ _ _ _ he ⟨Ay, cy, hv, hk, hi⟩ => ⟨Ay, cy, hv, own_evo hk he (hT _ (by simp)), hi.evo he hB (hT _ (by simp))⟩, fun _ _ _ _ _ h => h⟩
/-- a slice over what operation j yielded -/
def pfOne {B : Nat} (j : Nat) (t : TypeId) : PFact B :=
  ⟨[t], [j], fun us v w => ∃ g, v = .slice (some ⟨g, 0, none⟩) 1 1 ∧ B ≤ g ∧ Blk w g t #[us j] ∧ (us j).oneCell' = true, fun _ hT _ _ _ _ he ⟨g, hv, hg, hb, h1⟩ => ⟨g, hv, hg, hb.evo he (.inr (hT t (by simp))), h1⟩,
    fun _ _ h _ _ ⟨g, hv, hg, hb, h1⟩ => ⟨g, hv, hg, by rw [← h j (by simp)]; exact hb, by rw [← h j (by simp)]; exact h1⟩⟩
/-- a row of the call's own, what operation j yielded behind it -/
def pfApp {B : Nat} (j : Nat) (t : TypeId) (n : Nat) (xs : List Value) : PFact B :=
  ⟨[t], [j], fun us v w => ∃ A c, v = .slice A n c ∧ w.ownsRow B t 1 v n (xs ++ [us j]), fun _ hT _ _ _ _ he ⟨A, c, hv, ho⟩ => ⟨A, c, hv, own_evo ho he (hT t (by simp))⟩,
    fun _ _ h _ _ ⟨A, c, hv, ho⟩ => ⟨A, c, hv, by rw [← h j (by simp)]; exact ho⟩⟩
/-- block g holds what operation j yielded -/
def pfPut {B : Nat} (g j : Nat) (t : TypeId) (f : Value → Array Value) : PFact B :=
  ⟨[t], [j], fun us _ w => Blk w g t (f (us j)), fun _ hT _ _ _ _ he hb => hb.evo he (.inr (hT t (by simp))), fun _ _ h _ _ hb => by rw [← h j (by simp)]; exact hb⟩
def RefDecPost (b : List Int) (w : World) (e : Ending) (w' : World) : Prop :=
  Below w.heap.size w w' ∧ (refD b = none → e = .returned (.tuple #[crtVal CV0 (bare 0), .bool false])) ∧ ∀ x, refD b = some x → ∃ V, e = .returned (.tuple #[crtVal V x, .bool true]) ∧ CrtIs w' w'.heap.size V x
theorem rdec_results {tmps : Array Value} {W : World} {g : Nat} {cs : Array Value} {n : Bool} (hp : tmps.getD 2 undef = .pointer (some ⟨g, 0, none⟩)) (hn : tmps.getD 3 undef = .bool n) (hb : Blk W g 32 cs) (hs : cs.size = 12) :
    (results Try.f15 tmps).run Try.prog W = .ok (.tuple #[.agg cs, .bool n]) W := by
  have hp' : tmps[2]?.getD undef = .pointer (some ⟨g, 0, none⟩) := by simpa using hp
  have hn' : tmps[3]?.getD undef = .bool n := by simpa using hn
  simp [results, Try.results15, hp', hn', asAddr, run_loadVar_row W g _ _ cs _ _ hb Try.underlying32 rfl (by rw [hs]; kernel_rfl)]
/-- the first worlds -/
def rdW (A : Option Addr) (b : List Int) (c : Nat) (w : World) : World := (w.alloc (.cells (crtCells CV0 (bare 0)) 32)).alloc (.cells #[.slice A b.length c, .int .i64 0, .bool false] 68)
theorem rdW_size (A : Option Addr) (b : List Int) (c : Nat) (w : World) : (rdW A b c w).heap.size = w.heap.size + 2 := by simp [rdW]
theorem rdW_below (A : Option Addr) (b : List Int) (c : Nat) (w : World) : Below w.heap.size w (rdW A b c w) := ((Below.refl _ _).alloc (Nat.le_refl _) _).alloc (by simp) _
theorem rdW_blk (A : Option Addr) (b : List Int) (c : Nat) (w : World) : Blk (rdW A b c w) w.heap.size 32 (crtCells CV0 (bare 0)) := (Blk.new w _ _).alloc _
theorem rdW_in {A : Option Addr} {b : List Int} {c : Nat} {w : World} (h : Cells w w.heap.size A (byteCells b)) (hb : Bytes b) (hl : b.length ≤ 100000000) : InB (rdW A b c w) w.heap.size (w.heap.size + 1) A b c (startS b) :=
  ⟨0, blk_new' _ _ _ _ (by simp), Nat.zero_le _, rfl, h.below (rdW_below A b c w), by omega, hb, hl⟩
theorem inb_none {w : World} {B gx : Nat} {A : Option Addr} {b : List Int} {c : Nat} {s : CS} (h : InB w B gx A b c s) : ∃ t : Nat, w.cell? ⟨gx, 1, none⟩ = some (.int .i64 t) ∧ w.cell? ⟨gx, 2, none⟩ = some (.bool s.bad) ∧ (s.inn = [] ↔ ¬ t < b.length) := by
  obtain ⟨t, hx, ht, hi, _⟩ := h
  refine ⟨t, hx.cell 1, hx.cell 2, ?_⟩
  rw [hi, List.drop_eq_nil_iff]
  omega
end Go.Proofs.Ytmlbjcngboegfaa
