import Derived.Test.YtelcofkjpkdjiaaGreatZAng0
import Derived.Test.YtelcofkjpkdjiaaGreatZAng1
import Derived.Test.YtelcofkjpkdjiaaGreatZReg
import Derived.Test.YtelcofkjpkdjiaaGreatZVw
import Derived.Laws.CopyRow
import Derived.Laws.CopyOwn
import Derived.Laws.Bits64b
/-
  The choice in memory; (*angle.choice).holders. Written by an AI agent.
-/
namespace Go.Proofs.YtelcofkjpkdjiaaGreat
open Go.RowKit

theorem blk_ne {w : World} {g h : Nat} {t t' : TypeId} {cs cs' : Array Value} (h1 : Blk w g t cs) (h2 : Blk w h t' cs') (ht : t ≠ t') : g ≠ h := fun e => by
  subst e
  unfold Blk at h1 h2
  rw [h1] at h2
  injection h2 with h2
  injection h2 with _ h2
  exact ht h2
theorem Cells.but {S : List Nat} {w w' : World} {B : Nat} {A : Option Addr} {xs : List Value} (h : Cells w B A xs) (hb : But S w w') (hB : B ≤ w.heap.size) (hS : ∀ k ∈ S, B ≤ k) : Cells w' B A xs :=
  h.keep fun p hp => World.cell?_of_block (hb.block p.block (by omega) fun hs => by have := hS _ hs; omega)
/-- angles by their half edges -/
def quL (V Fc Kd : Nat → Nat) (M : Nat) : List (Nat × Nat × Nat × Nat) := (List.range M).map fun h => (h, V h, Fc h, Kd h)
theorem quL_length (V Fc Kd : Nat → Nat) (M : Nat) : (quL V Fc Kd M).length = M := by simp [quL]
theorem Cells.qu {w : World} {B : Nat} {A : Option Addr} {V Fc Kd : Nat → Nat} {M : Nat} (h : Cells w B A (qCells (quL V Fc Kd M))) (hn : 0 < M) :
    ∃ b off, A = some ⟨b, off, none⟩ ∧ b < B ∧ ∀ k, k < M → w.cell? ⟨b, off + k * 4, none⟩ = some (.int .i64 k) ∧ w.cell? ⟨b, off + k * 4 + 1, none⟩ = some (.int .i64 (V k : Nat)) ∧ w.cell? ⟨b, off + k * 4 + 2, none⟩ = some (.int .i64 (Fc k : Nat)) ∧ w.cell? ⟨b, off + k * 4 + 3, none⟩ = some (.int .i64 (Kd k : Nat)) := by
  obtain ⟨b, off, e, hb, hc⟩ := h.quads (by rw [quL_length]; omega)
  refine ⟨b, off, e, hb, fun k hk => ?_⟩
  have := hc k (by rw [quL_length]; exact hk)
  simpa [quL] using this
theorem angL_qu (n : Int) (es : List (Int × Int)) (rs : List (List Int)) : angL n es rs = quL (vtx es) (angF n es rs) (angK es rs) (2 * es.length) := rfl
/-- where a choice lies -/
structure CLay where
  gc : Nat
  gr : Nat
  gg : Nat
  gs : Nat
  B : Nat
  Aa : Option Addr
  ca : Nat
/-- a choice in memory -/
structure CM (y : CLay) (V Fc Kd : Nat → Nat) (n M : Nat) (rm : List Int) (w : World) (G : List Int) (S : List Bool) : Prop where
  C : Blk w y.gc 135 #[.slice y.Aa M y.ca, .slice (some ⟨y.gr, 0, none⟩) rm.length rm.length, .slice (some ⟨y.gg, 0, none⟩) n n, .slice (some ⟨y.gs, 0, none⟩) rm.length rm.length]
  A : Cells w y.B y.Aa (qCells (quL V Fc Kd M))
  R : Blk w y.gr 3 (intCells rm).toArray
  G : Blk w y.gg 3 (intCells G).toArray
  S : Blk w y.gs 4 (boolCells S).toArray
  ne : y.gr ≠ y.gg
  bg : y.B ≤ y.gg
  bs : y.B ≤ y.gs
/-- what the great angles of a choice may be -/
def OkG (n M : Nat) (G : List Int) : Prop := G.length = n ∧ ∀ x, x < n → -1 ≤ G.getD x 0 ∧ G.getD x 0 < (M : Int)
section
variable {y : CLay} {V Fc Kd : Nat → Nat} {n M : Nat} {rm : List Int} {w w' : World} {G : List Int} {S : List Bool}
theorem CM.gne (h : CM y V Fc Kd n M rm w G S) : y.gc ∉ [y.gg, y.gs] ∧ y.gr ∉ [y.gg, y.gs] ∧ y.gg ≠ y.gs := by
  have a1 := blk_ne h.C h.G (by decide)
  have a2 := blk_ne h.C h.S (by decide)
  have a3 := blk_ne h.R h.S (by decide)
  have a4 := blk_ne h.G h.S (by decide)
  have a5 := h.ne
  simp only [List.mem_cons, List.not_mem_nil, or_false, not_or]
  exact ⟨⟨a1, a2⟩, ⟨a5, a3⟩, a4⟩
theorem CM.below {B : Nat} (h : CM y V Fc Kd n M rm w G S) (hb : Below B w w') (hB : w.heap.size ≤ B) : CM y V Fc Kd n M rm w' G S := by
  have h1 := h.G.lt
  have h2 := h.bg
  exact ⟨h.C.below hb (Nat.lt_of_lt_of_le h.C.lt hB), h.A.keep (fun p hp => hb.cell (by omega)), h.R.below hb (Nat.lt_of_lt_of_le h.R.lt hB), h.G.below hb (Nat.lt_of_lt_of_le h.G.lt hB), h.S.below hb (Nat.lt_of_lt_of_le h.S.lt hB), h.ne, h.bg, h.bs⟩
theorem CM.but (h : CM y V Fc Kd n M rm w G S) (hb : But [y.gg, y.gs] w w') {G' : List Int} {S' : List Bool} (hG : Blk w' y.gg 3 (intCells G').toArray) (hS : Blk w' y.gs 4 (boolCells S').toArray) : CM y V Fc Kd n M rm w' G' S' := by
  obtain ⟨h1, h2, _⟩ := h.gne
  have h3 := h.G.lt
  have h4 := h.bg
  exact ⟨hb.blk h.C h1, h.A.but hb (by omega) (by simpa using ⟨h.bg, h.bs⟩), hb.blk h.R h2, hG, hS, h.ne, h.bg, h.bs⟩
theorem CM.putG (h : CM y V Fc Kd n M rm w G S) (x : Nat) (v : Int) : CM y V Fc Kd n M rm (w.setCell ⟨y.gg, x, none⟩ (.int .i64 v)) (G.set x v) S :=
  h.but (But.set_ w (by simp) x _) (h.G.setInt x v) (h.S.far (by have := h.gne.2.2; exact fun e => this e.symm) _)
theorem CM.putS (h : CM y V Fc Kd n M rm w G S) (x : Nat) : CM y V Fc Kd n M rm (w.setCell ⟨y.gs, x, none⟩ (.bool true)) G (S.set x true) :=
  h.but (But.set_ w (by simp) x _) (h.G.far (by have := h.gne.2.2; exact this) _) (h.S.setBool x true)
end
/-- the holders of a face, of the first i -/
def holdT (Fc : Nat → Nat) (G : List Int) (f i : Nat) : List Int := (holdL Fc i G f).map fun z : Nat => (z : Int)
theorem holdT_succ (Fc : Nat → Nat) (G : List Int) (f i : Nat) : holdT Fc G f (i + 1) = holdT Fc G f i ++ if 0 ≤ G.getD i 0 ∧ Fc (G.getD i 0).toNat = f then [(i : Int)] else [] := by
  unfold holdT holdL
  rw [List.range_succ, List.filter_append, List.map_append]
  congr 1
  by_cases h : 0 ≤ G.getD i 0 ∧ Fc (G.getD i 0).toNat = f
  · rw [if_pos h]
    have : (decide (0 ≤ G.getD i 0) && decide (Fc (G.getD i 0).toNat = f)) = true := by rw [decide_eq_true h.1, decide_eq_true h.2]; rfl
    rw [List.filter_cons, this]; rfl
  · rw [if_neg h]
    have : (decide (0 ≤ G.getD i 0) && decide (Fc (G.getD i 0).toNat = f)) = false := by
      rw [Bool.and_eq_false_iff]
      by_cases h1 : 0 ≤ G.getD i 0
      · exact .inr (decide_eq_false fun h2 => h ⟨h1, h2⟩)
      · exact .inl (decide_eq_false h1)
    rw [List.filter_cons, this]; rfl
theorem holdT_le (Fc : Nat → Nat) (G : List Int) (f i : Nat) : (holdT Fc G f i).length ≤ i := by
  unfold holdT holdL
  rw [List.length_map]
  exact Nat.le_trans (List.length_filter_le _ _) (by simp)
set_option maxRecDepth 20000 in
set_option maxHeartbeats 4000000 in
theorem hold_any (y : CLay) (V Fc Kd : Nat → Nat) (n M : Nat) (rm : List Int) (w : World) (G : List Int) (S : List Bool) (hC : CM y V Fc Kd n M rm w G S) (hG : OkG n M G) (hn : n ≤ 1000) (hM : M ≤ 8192) (f : Nat) :
    Calls Tryz.prog 125 #[.pointer (some ⟨y.gc, 0, none⟩), .int .i64 f] w (fun e w' => ∃ v, e = .returned v ∧ Below w.heap.size w w' ∧ w'.ownsRow w.heap.size 3 1 v (holdL Fc n G f).length (intCells (holdT Fc G f n))) := by
  obtain ⟨gc, gr, gg, gs, B, Aa, ca⟩ := y
  have HC := Lib.hid hC
  have HG := Lib.hid hG
  have c0 : w.cell? ⟨gc, 0, none⟩ = some (.slice Aa M ca) := hC.C.cell 0
  have c2 : w.cell? ⟨gc, 2, none⟩ = some (.slice (some ⟨gg, 0, none⟩) n n) := hC.C.cell 2
  have HL : (holdL Fc n G f).length = (holdT Fc G f n).length := by simp [holdT]
  rw [HL]
  clear hC hG HL
  go_enter Tryz.func125, Tryz.ntmps125
  go_wp2_with fail
  go_loopg [4, 12] n (fun k s4 s12 wr => ∃ i : Nat, s12 = .int .i64 i ∧ i ≤ n ∧ k = n - i ∧ Below w.heap.size w wr ∧ wr.ownsRow w.heap.size 3 1 s4 (holdT Fc G f i).length (intCells (holdT Fc G f i)))
  case atStart => exact ⟨0, rfl, Nat.zero_le _, rfl, Below.refl _ _, rfl, .inl ⟨rfl, rfl⟩⟩
  case round =>
    obtain ⟨i, rfl, hi, hk, hb, hown⟩ := hrel
    have Hk := Lib.hid hk
    have HB := Lib.hid hb
    have HOW := Lib.hid hown
    obtain ⟨A4, c4, rfl⟩ := own_slice hown
    clear hk hb hown
    by_cases hil : i < n
    · have hil' : (i : Int) < n := by omega
      have hg : gg < w.heap.size := HC.out.G.lt
      have hgc : gc < w.heap.size := HC.out.C.lt
      obtain ⟨v1, v2⟩ := HG.out.2 i hil
      have cg : wr.cell? ⟨gg, i, none⟩ = some (.int .i64 (G.getD i 0)) := (HC.out.G.below HB.out hg).int_ (by rw [HG.out.1]; exact hil)
      have c0' : wr.cell? ⟨gc, 0, none⟩ = some (.slice Aa M ca) := (HC.out.C.below HB.out hgc).cell 0
      have HS := Lib.hid (holdT_succ Fc G f i)
      obtain ⟨z, hz⟩ : ∃ z, z = G.getD i 0 := ⟨_, rfl⟩
      rw [← hz] at cg v1 v2 HS
      clear hz
      by_cases hz0 : 0 ≤ z
      · obtain ⟨h, rfl⟩ : ∃ h : Nat, z = h := ⟨z.toNat, by omega⟩
        have hhM : h < M := by omega
        obtain ⟨ba, oa, rfl, hba, hca⟩ := HC.out.A.qu (by omega)
        obtain ⟨_, _, d2, _⟩ := hca h hhM
        have hbg := HC.out.bg
        simp only at hbg
        simp only at hba
        have z2 := (HB.out.cell (p := ⟨ba, oa + h * 4 + 2, none⟩) (by simp only; omega)).trans d2
        have hll := holdT_le Fc G f i
        rw [Int.toNat_natCast] at HS
        obtain ⟨fv, hfv⟩ : ∃ fv, fv = Fc h := ⟨_, rfl⟩
        rw [← hfv] at z2 HS
        clear hfv hca d2
        by_cases hf : fv = f
        · subst hf
          have HS2 := Lib.hid (show holdT Fc G fv (i + 1) = holdT Fc G fv i ++ [(i : Int)] by rw [HS.out, if_pos ⟨hz0, rfl⟩])
          have hzw := HB.out.size
          have HBN := Lib.hid hzw
          go_wp2_with (at_builtin; refine wp_app elemInt rfl _ _ rfl w.heap.size (.slice A4 (holdT Fc G fv i).length c4) _ _ rfl wr.heap.size [.int .i64 (i : Int)] rfl rfl HOW.out rfl rfl ?x2 ?x3 ?x4 ?_)
          case x2 => omega
          case x3 => omega
          try (case x4 => omega)
          intro v10 w10 ho10 hg10 hb10
          have HBX := Lib.hid (below_app HB.out HOW.out hg10 hzw (Nat.le_refl _))
          have HOX := Lib.hid (show w10.ownsRow w.heap.size 3 1 v10 (holdT Fc G fv (i + 1)).length (intCells (holdT Fc G fv (i + 1))) by
            rw [HS2.out]
            simpa [intCells] using ho10)
          clear ho10 hg10 hb10
          go_wp2_with fail
          go_roundg (n - (i + 1))
          case measure => rw [Hk.out]; omega
          case rel => exact ⟨i + 1, by go_num, by omega, rfl, HBX.out, HOX.out⟩
        · have hf' : ((fv : Int) == (f : Int)) = false := by rw [beq_eq_false_iff_ne]; omega
          have HS2 := Lib.hid (show holdT Fc G f (i + 1) = holdT Fc G f i by rw [HS.out, if_neg (fun h => hf h.2), List.append_nil])
          have HOX := Lib.hid (show wr.ownsRow w.heap.size 3 1 (.slice A4 (holdT Fc G f i).length c4) (holdT Fc G f (i + 1)).length (intCells (holdT Fc G f (i + 1))) by rw [HS2.out]; exact HOW.out)
          clear hf
          go_wp2_with fail
          go_roundg (n - (i + 1))
          case measure => rw [Hk.out]; omega
          case rel => exact ⟨i + 1, by go_num, by omega, rfl, HB.out, HOX.out⟩
      · have hz0' : (z ≥ 0) = False := by simp; omega
        have hz1 : ¬ (0 : Int) ≤ z := hz0
        have HS2 := Lib.hid (show holdT Fc G f (i + 1) = holdT Fc G f i by rw [HS.out, if_neg (fun h => hz0 h.1), List.append_nil])
        have HOX := Lib.hid (show wr.ownsRow w.heap.size 3 1 (.slice A4 (holdT Fc G f i).length c4) (holdT Fc G f (i + 1)).length (intCells (holdT Fc G f (i + 1))) by rw [HS2.out]; exact HOW.out)
        go_wp2_with fail
        go_roundg (n - (i + 1))
        case measure => rw [Hk.out]; omega
        case rel => exact ⟨i + 1, by go_num, by omega, rfl, HB.out, HOX.out⟩
    · have hie : i = n := by omega
      have hil' : ¬ (i : Int) < n := by omega
      have HOX := Lib.hid (show wr.ownsRow w.heap.size 3 1 (.slice A4 (holdT Fc G f i).length c4) (holdT Fc G f n).length (intCells (holdT Fc G f n)) by rw [← hie]; exact HOW.out)
      clear hie
      go_wp2_with fail
      go_ret
      exact ⟨_, rfl, HB.out, HOX.out⟩
end Go.Proofs.YtelcofkjpkdjiaaGreat
/-
  (*angle.choice).settle: what it does. Written by an AI agent.
-/
namespace Go.Proofs.YtelcofkjpkdjiaaGreat
open Go.RowKit

theorem OkG.set {n M : Nat} {G : List Int} (h : OkG n M G) (x : Nat) {v : Int} (hv : x < n → -1 ≤ v ∧ v < (M : Int)) : OkG n M (G.set x v) := by
  refine ⟨by rw [List.length_set]; exact h.1, fun y hy => ?_⟩
  by_cases hx : x < n
  · rw [getD_setZ _ _ _ _ (by rw [h.1]; exact hx)]
    by_cases e : y = x
    · rw [if_pos e]; exact hv hx
    · rw [if_neg e]; exact h.2 y hy
  · rw [List.set_eq_of_length_le (by rw [h.1]; omega)]
    exact h.2 y hy
theorem smore_set (S : List Bool) (f : Nat) : SMore S (S.set f true) := by
  by_cases hf : f < S.length
  · exact SMore.set S f hf
  · rw [List.set_eq_of_length_le (by omega)]; exact SMore.refl S
section
variable {V Fc : Nat → Nat} {n M : Nat} {rm : List Int}
/-- a state's change that keeps a choice sound -/
def Step (n M : Nat) (s t : SS) : Prop := OkG n M t.1 ∧ SMore s.2 t.2
theorem reL_step {rec : Nat → SS → Bool × SS} (hr : ∀ y s, OkG n M s.1 → Step n M s (rec y s).2) : ∀ (ys : List Nat) (s : SS), OkG n M s.1 → Step n M s (reL rec ys s).2
  | [], s, h => ⟨h, SMore.refl _⟩
  | y :: ys, s, h => by
    unfold reL
    have h1 := hr y s h
    by_cases hw : (rec y s).1 = true
    · rw [if_pos hw]; exact h1
    · rw [if_neg hw]
      have h2 := reL_step hr ys ((rec y s).2.1.set y (s.1.getD y 0), (rec y s).2.2) (h1.1.set y fun hy => h.2 y hy)
      exact ⟨h2.1, h1.2.trans h2.2⟩
theorem setL_step {rec : Nat → SS → Bool × SS} (hr : ∀ y s, OkG n M s.1 → Step n M s (rec y s).2) (x : Nat) : ∀ (hs : List Nat) (s : SS), (∀ h ∈ hs, h < M) → OkG n M s.1 → Step n M s (setL V Fc n rm rec x hs s).2
  | [], s, _, h => ⟨h, SMore.refl _⟩
  | h :: hs, s, hh, hk => by
    have ih := fun s => setL_step (rec := rec) hr x hs s (fun t ht => hh t (by simp [ht]))
    have hM := hh h (by simp)
    unfold setL
    by_cases h1 : V h ≠ x ∨ s.2.getD (Fc h) false = true
    · rw [if_pos h1]; exact ih s hk
    · rw [if_neg h1]
      by_cases h2 : ((holdL Fc n s.1 (Fc h)).length : Int) < rm.getD (Fc h) 0
      · rw [if_pos h2]
        exact ⟨hk.set x fun _ => by constructor <;> omega, smore_set _ _⟩
      · rw [if_neg h2]
        have h3 := reL_step hr (holdL Fc n s.1 (Fc h)) (s.1, s.2.set (Fc h) true) hk
        have h4 := (smore_set s.2 (Fc h)).trans h3.2
        by_cases hw : (reL rec (holdL Fc n s.1 (Fc h)) (s.1, s.2.set (Fc h) true)).1 = true
        · rw [if_pos hw]
          exact ⟨h3.1.set x fun _ => by constructor <;> omega, h4⟩
        · rw [if_neg hw]
          have h5 := ih _ h3.1
          exact ⟨h5.1, h4.trans h5.2⟩
theorem settle_step : ∀ (f x : Nat) (s : SS), OkG n M s.1 → Step n M s (settleF V Fc n M rm f x s).2
  | 0, _, s, h => ⟨h, SMore.refl _⟩
  | f + 1, x, s, h => setL_step (fun y s h => settle_step f y s h) x (List.range M) s (fun _ h => List.mem_range.1 h) h
end
set_option maxRecDepth 20000 in
set_option maxHeartbeats 4000000 in
theorem settle_any (y : CLay) (V Fc Kd : Nat → Nat) (n M : Nat) (rm : List Int) (hFc : ∀ h, h < M → Fc h < rm.length) (hn : n ≤ 1000) (hM : M ≤ 8192) (hF : rm.length ≤ 8192) (hV : ∀ h, h < M → V h < 8192) : ∀ (f x : Nat) (G : List Int) (S : List Bool) (w : World), unS S < f → x < n → OkG n M G → S.length = rm.length → CM y V Fc Kd n M rm w G S →
    Calls Tryz.prog 86 #[.pointer (some ⟨y.gc, 0, none⟩), .int .i64 x] w (fun e w' => e = .returned (.bool (settleF V Fc n M rm f x (G, S)).1) ∧ But [y.gg, y.gs] w w' ∧ CM y V Fc Kd n M rm w' (settleF V Fc n M rm f x (G, S)).2.1 (settleF V Fc n M rm f x (G, S)).2.2) := by
  intro f
  induction f with
  | zero => intro x G S w h; exact absurd h (Nat.not_lt_zero _)
  | succ f ih =>
    intro x G S w hf hx hG hSl hC
    obtain ⟨gc, gr, gg, gs, B, Aa, ca⟩ := y
    have HF := Lib.hid hFc
    have HV := Lib.hid hV
    have IH := Lib.hid ih
    have Hf := Lib.hid hf
    have HG := Lib.hid hG
    have HSL := Lib.hid hSl
    have HC := Lib.hid hC
    have HX := Lib.hid hx
    obtain ⟨r, hr⟩ : ∃ r, r = settleF V Fc n M rm (f + 1) x (G, S) := ⟨_, rfl⟩
    have HR := Lib.hid (show setL V Fc n rm (settleF V Fc n M rm f) x (List.range M) (G, S) = r from hr.symm)
    rw [← hr]
    have HNE := Lib.hid hC.gne
    have c0 : w.cell? ⟨gc, 0, none⟩ = some (.slice Aa M ca) := hC.C.cell 0
    clear hFc hV ih hf hG hSl hC hr
    go_enter Tryz.func86, Tryz.ntmps86
    go_wp2_with fail
    go_loopg [16] M (fun k s16 wr => ∃ (i : Nat) (G' : List Int) (S' : List Bool), s16 = .int .i64 i ∧ i ≤ M ∧ k = M - i ∧ OkG n M G' ∧ SMore S S' ∧ But [gg, gs] w wr ∧ CM ⟨gc, gr, gg, gs, B, Aa, ca⟩ V Fc Kd n M rm wr G' S' ∧ setL V Fc n rm (settleF V Fc n M rm f) x ((List.range M).drop i) (G', S') = r)
    case atStart => exact ⟨0, G, S, rfl, Nat.zero_le _, rfl, HG.out, SMore.refl _, But.refl _ _, HC.out, HR.out⟩
    case round =>
      obtain ⟨i, G', S', rfl, hi, hk, hg', hs', hb, hc, hres⟩ := hrel
      have Hk := Lib.hid hk
      have HG1 := Lib.hid hg'
      have HS1 := Lib.hid hs'
      have HB := Lib.hid hb
      have HC1 := Lib.hid hc
      have HR1 := Lib.hid hres
      clear hk hg' hs' hb hc hres
      by_cases hil : i < M
      · have hil' : (i : Int) < M := by omega
        obtain ⟨ba, oa, rfl, hba, hca⟩ := HC1.out.A.qu (by omega)
        obtain ⟨d0, d1, d2, d3⟩ := hca i hil
        have HFi := Lib.hid (HF.out i hil)
        have hfl : Fc i < rm.length := HFi.out
        have hvl : V i < 8192 := HV.out i hil
        have HR2 := Lib.hid (show setL V Fc n rm (settleF V Fc n M rm f) x (i :: (List.range M).drop (i + 1)) (G', S') = r by
          have e : (List.range M).drop i = i :: (List.range M).drop (i + 1) := by
            rw [List.drop_eq_getElem_cons (by simpa using hil)]; simp
          rw [← e]; exact HR1.out)
        rw [setL] at HR2
        have HA4 := Lib.hid (Blk.new wr 68 #[.int .i64 (i : Int), .int .i64 (V i : Nat), .int .i64 (Fc i : Nat), .int .i64 (Kd i : Nat)])
        have HB4 := Lib.hid ((Below.refl wr.heap.size wr).alloc (Nat.le_refl _) (.cells #[.int .i64 (i : Int), .int .i64 (V i : Nat), .int .i64 (Fc i : Nat), .int .i64 (Kd i : Nat)] 68))
        have hz4 := World.size_alloc wr (.cells #[.int .i64 (i : Int), .int .i64 (V i : Nat), .int .i64 (Fc i : Nat), .int .i64 (Kd i : Nat)] 68)
        obtain ⟨v, hv⟩ : ∃ v, v = V i := ⟨_, rfl⟩
        obtain ⟨fc, hfc⟩ : ∃ fc, fc = Fc i := ⟨_, rfl⟩
        obtain ⟨kd, hkd⟩ : ∃ kd, kd = Kd i := ⟨_, rfl⟩
        rw [← hv] at d1 HA4 HB4 hz4 HR2 hvl
        rw [← hfc] at d2 HA4 HB4 hz4 HR2 hfl
        rw [← hkd] at d3 HA4 HB4 hz4
        have HVE := Lib.hid hv
        have HFE := Lib.hid hfc
        clear hv hfc hkd hca
        obtain ⟨tl, htl⟩ : ∃ tl, tl = (List.range M).drop (i + 1) := ⟨_, rfl⟩
        rw [← htl] at HR2
        have HTL := Lib.hid htl
        have HR2 := Lib.hid (show (if v ≠ x ∨ S'.getD fc false = true then setL V Fc n rm (settleF V Fc n M rm f) x tl (G', S')
          else if ((holdL Fc n G' fc).length : Int) < rm.getD fc 0 then (true, (G'.set x i, S'.set fc true))
          else if (reL (settleF V Fc n M rm f) (holdL Fc n G' fc) (G', S'.set fc true)).1 = true then (true, ((reL (settleF V Fc n M rm f) (holdL Fc n G' fc) (G', S'.set fc true)).2.1.set x i, (reL (settleF V Fc n M rm f) (holdL Fc n G' fc) (G', S'.set fc true)).2.2))
          else setL V Fc n rm (settleF V Fc n M rm f) x tl (reL (settleF V Fc n M rm f) (holdL Fc n G' fc) (G', S'.set fc true)).2) = r from HR2.out)
        clear htl
        go_upto_region 4 with fail
        obtain ⟨gA, hgA⟩ : ∃ gA, gA = wr.heap.size := ⟨_, rfl⟩
        rw [← hgA] at HA4 HB4 hz4
        rw [← hgA]
        generalize wr.alloc (.cells #[.int .i64 (i : Int), .int .i64 (v : Nat), .int .i64 (fc : Nat), .int .i64 (kd : Nat)] 68) = w4 at *
        have HC4 := Lib.hid (HC1.out.below (w' := w4) HB4.out (by rw [hgA]; exact Nat.le_refl _))
        have HBT4 := Lib.hid (HB.out.trans (But.of_below [gg, gs] HB4.out (by rw [hgA]; exact Nat.le_refl _)))
        have HGA := Lib.hid hgA
        have a0 := HA4.out.cell 0
        have a1 := HA4.out.cell 1
        have a2 := HA4.out.cell 2
        have HSI := Lib.hid (show S'.length = rm.length from HS1.out.1.trans HSL.out)
        have c3 := HC4.out.C.cell 3
        have cs := HC4.out.S.bool (k := fc) (by rw [HSI.out]; exact hfl)
        have c1 := HC4.out.C.cell 1
        have cr := HC4.out.R.int_ (k := fc) hfl
        have hfl' : (fc : Int) < rm.length := by omega
        simp only [List.getElem?_toArray, List.getElem?_cons_zero, List.getElem?_cons_succ] at a0 a1 a2 c3 c1
        clear hgA d0 d1 d2 d3 c0
        by_cases hvx : v = x
        · have hne : ((v : Int) != (x : Int)) = false := by simp [hvx]
          subst hvx
          cases hsb : S'.getD fc false with
          | true =>
            have HR3 := Lib.hid (show setL V Fc n rm (settleF V Fc n M rm f) v tl (G', S') = r by rw [← HR2.out, if_pos (.inr hsb)])
            rw [hsb] at cs
            clear hsb
            go_quiet (fail)
            have HBN := Lib.hid (HBT4.out.drewN nq)
            have HCN := Lib.hid (HC4.out.below (w' := w4.drewN nq) (below_drewN (Below.refl _ _) nq) (Nat.le_refl _))
            go_wp2_with fail
            go_roundg (M - (i + 1))
            case measure => rw [Hk.out]; omega
            case rel => exact ⟨i + 1, G', S', by go_num, by omega, rfl, HG1.out, HS1.out, HBN.out, HCN.out, by rw [← HTL.out]; exact HR3.out⟩
          | false =>
            have HR3 := Lib.hid (show (if ((holdL Fc n G' fc).length : Int) < rm.getD fc 0 then (true, (G'.set v i, S'.set fc true))
              else if (reL (settleF V Fc n M rm f) (holdL Fc n G' fc) (G', S'.set fc true)).1 = true then (true, ((reL (settleF V Fc n M rm f) (holdL Fc n G' fc) (G', S'.set fc true)).2.1.set v i, (reL (settleF V Fc n M rm f) (holdL Fc n G' fc) (G', S'.set fc true)).2.2))
              else setL V Fc n rm (settleF V Fc n M rm f) v tl (reL (settleF V Fc n M rm f) (holdL Fc n G' fc) (G', S'.set fc true)).2) = r by
                refine Eq.trans (if_neg ?_).symm HR2.out
                rintro (h | h)
                · exact h rfl
                · rw [hsb] at h; cases h)
            have HUN1 := Lib.hid (show unS (S'.set fc true) < f by
              have h1 := unS_set (S := S') (f := fc) (by rw [HSI.out]; exact hfl) (by unfold Sin; rw [hsb]; simp)
              have h2 := unS_more HS1.out
              have h3 := Hf.out
              omega)
            rw [hsb] at cs
            clear hsb HR2
            go_quiet (fail)
            have HCN := Lib.hid (HC4.out.below (w' := w4.drewN nq) (below_drewN (Below.refl _ _) nq) (Nat.le_refl _))
            have HAN := Lib.hid (HA4.out.drewN nq)
            have HBN := Lib.hid (HBT4.out.drewN nq)
            generalize w4.drewN nq = w5 at *
            clear a0 a1 a2 c3 c1 cs cr
            have a2 := HAN.out.cell 2
            have c3 := HCN.out.C.cell 3
            simp only [List.getElem?_toArray, List.getElem?_cons_zero, List.getElem?_cons_succ] at a2 c3
            have hfr := HCN.out.S.frozen fc
            have hcs := HCN.out.S.bool (k := fc) (by rw [HSI.out]; exact hfl)
            go_wp2_with fail
            go_region
            have HC6 := Lib.hid (show CM ⟨gc, gr, gg, gs, B, some ⟨ba, oa, none⟩, ca⟩ V Fc Kd n M rm (w5.setCell ⟨gs, fc, none⟩ (.bool true)).drew G' (S'.set fc true) from (CM.putS HCN.out fc).below (w' := (w5.setCell ⟨gs, fc, none⟩ (.bool true)).drew) (below_drewN (Below.refl _ _) 1) (Nat.le_refl _))
            have HA6 := Lib.hid (show Blk (w5.setCell ⟨gs, fc, none⟩ (.bool true)).drew gA 68 #[.int .i64 (i : Int), .int .i64 (v : Nat), .int .i64 (fc : Nat), .int .i64 (kd : Nat)] from (Blk.far HAN.out (by show gA ≠ gs; exact blk_ne HAN.out HCN.out.S (by decide)) _).drew)
            have HB6 := Lib.hid (show But [gg, gs] w (w5.setCell ⟨gs, fc, none⟩ (.bool true)).drew from (HBN.out.trans (But.set_ w5 (by simp) fc _)).drewN 1)
            go_simp
            generalize (w5.setCell ⟨gs, fc, none⟩ (.bool true)).drew = w6 at *
            clear a2 c3 hfr hcs
            have a2 := HA6.out.cell 2
            simp only [List.getElem?_toArray, List.getElem?_cons_zero, List.getElem?_cons_succ] at a2
            have hgA6 : gA < w6.heap.size := HA6.out.lt
            go_wp2_with fail
            refine (hold_any ⟨gc, gr, gg, gs, B, some ⟨ba, oa, none⟩, ca⟩ V Fc Kd n M rm w6 G' _ HC6.out HG1.out hn hM fc).mono ?_
            rintro e w7 ⟨v7, rfl, hb7, ho7⟩
            obtain ⟨A7, c7, rfl⟩ := own_slice ho7
            have HC7 := Lib.hid (HC6.out.below hb7 (Nat.le_refl _))
            have HA7 := Lib.hid (HA6.out.below hb7 hgA6)
            have HB7 := Lib.hid (HB6.out.trans (But.of_below [gg, gs] hb7 (Nat.le_refl _)))
            have HO7 := Lib.hid ho7
            have hz7 := hb7.size
            have HZG := Lib.hid (show gg < w6.heap.size ∧ gs < w6.heap.size from ⟨HC6.out.G.lt, HC6.out.S.lt⟩)
            obtain ⟨L, hL⟩ : ∃ L, L = holdL Fc n G' fc := ⟨_, rfl⟩
            have HLE := Lib.hid (show L.length ≤ n by rw [hL]; have := holdT_le Fc G' fc n; simpa [holdT] using this)
            have HLM := Lib.hid (show ∀ z ∈ L, z < n by rw [hL]; exact fun z hz => (mem_hold.1 hz).1)
            have HTT := Lib.hid (show holdT Fc G' fc n = L.map fun z : Nat => (z : Int) by rw [hL]; rfl)
            rw [← hL] at HR3 HO7
            rw [← hL]
            obtain ⟨S1, hS1⟩ : ∃ S1, S1 = S'.set fc true := ⟨_, rfl⟩
            rw [← hS1] at HR3 HC7 HUN1
            have HSM1 := Lib.hid (show SMore S S1 by rw [hS1]; exact HS1.out.trans (smore_set _ _))
            clear hb7 ho7 a2 hL hS1
            have a2 := HA7.out.cell 2
            have a0 := HA7.out.cell 0
            have c1 := HC7.out.C.cell 1
            have c2 := HC7.out.C.cell 2
            have cr := HC7.out.R.int_ (k := fc) hfl
            have f2 := HC7.out.G.frozen v
            have cg := HC7.out.G.int_ (k := v) (by rw [HG1.out.1]; exact HX.out)
            simp only [List.getElem?_toArray, List.getElem?_cons_zero, List.getElem?_cons_succ] at a2 a0 c1 c2
            have hxn : (v : Int) < n := by have := HX.out; omega
            obtain ⟨rv, hrv⟩ : ∃ rv, rv = rm.getD fc 0 := ⟨_, rfl⟩
            obtain ⟨gv, hgv⟩ : ∃ gv, gv = G'.getD v 0 := ⟨_, rfl⟩
            rw [← hrv] at cr HR3
            rw [← hgv] at cg
            clear hrv hgv
            by_cases hroom : ((L.length : Nat) : Int) < rv
            · have HF := Lib.hid (show r = (true, (G'.set v i, S1)) by rw [← HR3.out, if_pos hroom])
              go_upto_region 7 with fail
              go_quiet (fail)
              have HC8 := Lib.hid (CM.putG (HC7.out.below (w' := w7.drewN (nq + 1)) (below_drewN (Below.refl _ _) (nq + 1)) (Nat.le_refl _)) v (i : Int))
              have HB8 := Lib.hid ((HB7.out.drewN (nq + 1)).trans (But.set_ (w7.drewN (nq + 1)) (show gg ∈ [gg, gs] by simp) v (.int .i64 (i : Int))))
              go_wp2_with fail
              go_region
              go_wp2_with fail
              go_ret
              rw [HF.out]
              exact ⟨rfl, HB8.out, HC8.out⟩
            · have hroom' : ¬ ((L.length : Nat) : Int) < rv := hroom
              have HR4 := Lib.hid (show (if (reL (settleF V Fc n M rm f) L (G', S1)).1 = true then (true, ((reL (settleF V Fc n M rm f) L (G', S1)).2.1.set v i, (reL (settleF V Fc n M rm f) L (G', S1)).2.2))
                else setL V Fc n rm (settleF V Fc n M rm f) v tl (reL (settleF V Fc n M rm f) L (G', S1)).2) = r from Eq.trans (if_neg hroom).symm HR3.out)
              go_upto_region 7 with fail
              go_quiet (fail)
              have HC8 := Lib.hid (HC7.out.below (w' := w7.drewN nq) (below_drewN (Below.refl _ _) nq) (Nat.le_refl _))
              have HA8 := Lib.hid (HA7.out.drewN nq)
              have HB8 := Lib.hid (HB7.out.drewN nq)
              have HO8 := Lib.hid (show (w7.drewN nq).ownsRow w6.heap.size 3 1 (.slice A7 L.length c7) L.length (intCells (holdT Fc G' fc n)) from HO7.out)
              have hz8 : w6.heap.size ≤ (w7.drewN nq).heap.size := hz7
              generalize w7.drewN nq = w8 at *
              clear a2 a0 c1 c2 cr f2 cg HC7 HA7 HB7 HO7 hz7
              go_wp2_with fail
              go_loopg [66] L.length (fun k s66 wr => ∃ (j : Nat) (G1 : List Int) (S2 : List Bool), s66 = .int .i64 j ∧ j ≤ L.length ∧ k = L.length - j ∧ OkG n M G1 ∧ SMore S1 S2 ∧ But [gg, gs] w8 wr ∧ CM ⟨gc, gr, gg, gs, B, some ⟨ba, oa, none⟩, ca⟩ V Fc Kd n M rm wr G1 S2 ∧ reL (settleF V Fc n M rm f) (L.drop j) (G1, S2) = reL (settleF V Fc n M rm f) L (G', S1))
              case atStart => exact ⟨0, G', S1, rfl, Nat.zero_le _, rfl, HG1.out, SMore.refl _, But.refl _ _, HC8.out, rfl⟩
              case round =>
                obtain ⟨j, G1, S2, rfl, hj, hk2, hg2, hs2, hb2, hc2, hres2⟩ := hrel
                have Hk2 := Lib.hid hk2
                have HG2 := Lib.hid hg2
                have HS2 := Lib.hid hs2
                have HB9 := Lib.hid hb2
                have HC9 := Lib.hid hc2
                have HRL := Lib.hid hres2
                clear hk2 hg2 hs2 hb2 hc2 hres2
                have HA9 := Lib.hid (HB9.out.blk HA8.out (by
                  have q1 := blk_ne HA8.out HC8.out.G (by decide)
                  have q2 := blk_ne HA8.out HC8.out.S (by decide)
                  simpa using ⟨q1, q2⟩))
                by_cases hjl : j < L.length
                · have hjl' : (j : Int) < L.length := by omega
                  obtain ⟨g7, R7, hA7, hg7, hbk7, _⟩ := own_some HO8.out (by omega)
                  subst hA7
                  have hgz := HZG.out
                  have hLn := HLE.out
                  have cj : wr.cell? ⟨g7, j, none⟩ = some (.int .i64 (L[j] : Nat)) := by
                    have h1 := (HB9.out.blk hbk7 (by
                      simp only [List.mem_cons, List.not_mem_nil, or_false, not_or]
                      omega)).intR (k := j) (by rw [HTT.out, List.length_map]; exact hjl)
                    rw [h1, HTT.out, List.getD_eq_getElem?_getD, List.getElem?_map, List.getElem?_eq_getElem hjl]
                    rfl
                  have hyn : L[j] < n := HLM.out _ (List.getElem_mem hjl)
                  have HD := Lib.hid (List.drop_eq_getElem_cons hjl)
                  have hyn' : ((L[j] : Nat) : Int) < n := by omega
                  have c2 := HC9.out.C.cell 2
                  simp only [List.getElem?_toArray, List.getElem?_cons_zero, List.getElem?_cons_succ] at c2
                  have cg := HC9.out.G.int_ (k := L[j]) (by rw [HG2.out.1]; exact hyn)
                  have hrec := IH.out L[j] G1 S2 wr (Nat.lt_of_le_of_lt (unS_more HS2.out) HUN1.out) hyn HG2.out (HS2.out.1.trans (HSM1.out.1.trans HSL.out)) HC9.out
                  have hstp := settle_step (V := V) (Fc := Fc) (n := n) (M := M) (rm := rm) f L[j] (G1, S2) HG2.out
                  have HRL2 := Lib.hid (show (if (settleF V Fc n M rm f L[j] (G1, S2)).1 = true then settleF V Fc n M rm f L[j] (G1, S2) else reL (settleF V Fc n M rm f) (L.drop (j + 1)) ((settleF V Fc n M rm f L[j] (G1, S2)).2.1.set L[j] (G1.getD L[j] 0), (settleF V Fc n M rm f L[j] (G1, S2)).2.2)) = reL (settleF V Fc n M rm f) L (G', S1) by
                    rw [← HRL.out, HD.out]
                    rfl)
                  have hvn := (HG2.out.2 L[j] hyn)
                  obtain ⟨q, hq⟩ : ∃ q, q = settleF V Fc n M rm f L[j] (G1, S2) := ⟨_, rfl⟩
                  rw [← hq] at hrec hstp HRL2
                  obtain ⟨z, hz⟩ : ∃ z, z = L[j] := ⟨_, rfl⟩
                  rw [← hz] at cj hyn hyn' cg hrec HRL2 hvn
                  obtain ⟨gv, hgv⟩ : ∃ gv, gv = G1.getD z 0 := ⟨_, rfl⟩
                  rw [← hgv] at cg HRL2 hvn
                  have HST := Lib.hid hstp
                  clear hq hz hgv hstp hbk7 hg7 HD hgz
                  cases hqb : q.1 with
                  | true =>
                    rw [hqb] at hrec
                    have HF := Lib.hid (show r = (true, (q.2.1.set v i, q.2.2)) by
                      have h1 := HRL2.out
                      rw [if_pos hqb] at h1
                      have h2 := HR4.out
                      rw [← h1, if_pos hqb] at h2
                      exact h2.symm)
                    clear hqb
                    go_wp2_with fail
                    refine hrec.mono ?_
                    rintro e w10 ⟨rfl, hb10, hc10⟩
                    have HB10 := Lib.hid ((HB8.out.trans HB9.out).trans hb10)
                    have HC10 := Lib.hid hc10
                    have HA10 := Lib.hid (hb10.blk HA9.out (by
                      have q1 := blk_ne HA9.out HC9.out.G (by decide)
                      have q2 := blk_ne HA9.out HC9.out.S (by decide)
                      simpa using ⟨q1, q2⟩))
                    clear hb10 hc10 hrec cj c2 cg
                    have a0 := HA10.out.cell 0
                    have c2 := HC10.out.C.cell 2
                    have f2 := HC10.out.G.frozen v
                    have cg := HC10.out.G.int_ (k := v) (by rw [HST.out.1.1]; exact HX.out)
                    simp only [List.getElem?_toArray, List.getElem?_cons_zero, List.getElem?_cons_succ] at a0 c2
                    have HC11 := Lib.hid (CM.putG (HC10.out.below (w' := w10.drew) (below_drewN (Below.refl _ _) 1) (Nat.le_refl _)) v (i : Int))
                    have HB11 := Lib.hid ((HB10.out.drewN 1).trans (But.set_ w10.drew (show gg ∈ [gg, gs] by simp) v (.int .i64 (i : Int))))
                    obtain ⟨g', hg'⟩ : ∃ g', g' = q.2.1.getD v 0 := ⟨_, rfl⟩
                    rw [← hg'] at cg
                    clear hg'
                    go_wp2_with fail
                    go_region
                    go_wp2_with fail
                    go_ret
                    rw [HF.out]
                    exact ⟨rfl, HB11.out, HC11.out⟩
                  | false =>
                    rw [hqb] at hrec
                    have HRL3 := Lib.hid (show reL (settleF V Fc n M rm f) (L.drop (j + 1)) (q.2.1.set z gv, q.2.2) = reL (settleF V Fc n M rm f) L (G', S1) by
                      have h1 := HRL2.out
                      rw [if_neg (by rw [hqb]; simp)] at h1
                      exact h1)
                    clear hqb
                    go_wp2_with fail
                    refine hrec.mono ?_
                    rintro e w10 ⟨rfl, hb10, hc10⟩
                    have HB10 := Lib.hid (HB9.out.trans hb10)
                    have HC10 := Lib.hid hc10
                    clear hb10 hc10 hrec cj c2 cg
                    have c2 := HC10.out.C.cell 2
                    have f2 := HC10.out.G.frozen z
                    have cg := HC10.out.G.int_ (k := z) (by rw [HST.out.1.1]; exact hyn)
                    simp only [List.getElem?_toArray, List.getElem?_cons_zero, List.getElem?_cons_succ] at c2
                    have HC11 := Lib.hid (CM.putG HC10.out z gv)
                    have HB11 := Lib.hid (HB10.out.trans (But.set_ w10 (show gg ∈ [gg, gs] by simp) z (.int .i64 gv)))
                    have HG3 := Lib.hid (HST.out.1.set z (v := gv) fun _ => hvn)
                    obtain ⟨g', hg'⟩ : ∃ g', g' = q.2.1.getD z 0 := ⟨_, rfl⟩
                    rw [← hg'] at cg
                    clear hg'
                    go_wp2_with fail
                    go_roundg (L.length - (j + 1))
                    case measure => rw [Hk2.out]; omega
                    case rel => exact ⟨j + 1, _, _, by go_num, by omega, rfl, HG3.out, HS2.out.trans HST.out.2, HB11.out, HC11.out, HRL3.out⟩
                · have hje : j = L.length := by omega
                  have hjl' : ¬ (j : Int) < L.length := by omega
                  have HR5 := Lib.hid (show setL V Fc n rm (settleF V Fc n M rm f) v tl (G1, S2) = r by
                    have h1 := HRL.out
                    rw [hje, List.drop_length] at h1
                    have h2 := HR4.out
                    rw [← h1] at h2
                    exact h2)
                  clear hje
                  go_wp2_with fail
                  go_roundg (M - (i + 1))
                  case measure => rw [Hk.out]; omega
                  case rel => exact ⟨i + 1, G1, S2, by go_num, by omega, rfl, HG2.out, HSM1.out.trans HS2.out, HB8.out.trans HB9.out, HC9.out, by rw [← HTL.out]; exact HR5.out⟩
        · have hne : ((v : Int) != (x : Int)) = true := by rw [bne_iff_ne]; omega
          have HR3 := Lib.hid (show setL V Fc n rm (settleF V Fc n M rm f) x tl (G', S') = r by rw [← HR2.out, if_pos (.inl hvx)])
          clear hvx
          go_quiet (fail)
          have HBN := Lib.hid (HBT4.out.drewN nq)
          have HCN := Lib.hid (HC4.out.below (w' := w4.drewN nq) (below_drewN (Below.refl _ _) nq) (Nat.le_refl _))
          go_wp2_with fail
          go_roundg (M - (i + 1))
          case measure => rw [Hk.out]; omega
          case rel => exact ⟨i + 1, G', S', by go_num, by omega, rfl, HG1.out, HS1.out, HBN.out, HCN.out, by rw [← HTL.out]; exact HR3.out⟩
      · have hie : i = M := by omega
        have hil' : ¬ (i : Int) < M := by omega
        have HF := Lib.hid (show r = (false, (G', S')) by
          have := HR1.out
          rw [hie, List.drop_eq_nil_of_le (by simp)] at this
          exact this.symm)
        clear hie
        go_wp2_with fail
        go_ret
        rw [HF.out]
        exact ⟨rfl, HB.out, HC1.out⟩
end Go.Proofs.YtelcofkjpkdjiaaGreat
/-
  slices.Min: what it computes. Written by an AI agent.
-/
namespace Go.Proofs.YtelcofkjpkdjiaaGreat
open Go.RowKit

/-- the least of the first k -/
def minL (l : List Int) (k : Nat) : Int := (l.take k).foldl min (l.getD 0 0)
theorem minL_succ {l : List Int} {k : Nat} (h : k < l.length) : minL l (k + 1) = min (minL l k) l[k] := by
  unfold minL
  rw [List.take_succ_eq_append_getElem h, List.foldl_append]
  rfl
theorem minL_one {l : List Int} (h : 0 < l.length) : minL l 1 = l[0] := by
  rw [minL_succ h]
  unfold minL
  rw [List.getD_eq_getElem?_getD, List.getElem?_eq_getElem h]
  simp
set_option maxRecDepth 20000 in
set_option maxHeartbeats 1000000 in
theorem min_any (A : Option Addr) (c : Nat) (l : List Int) (w : World) (h : Cells w w.heap.size A (intCells l)) (hp : 0 < l.length) (hl : l.length ≤ 100000) :
    Calls Tryz.prog 85 #[.slice A l.length c] w (fun e w' => e = .returned (.int .i64 (minL l l.length)) ∧ w = w') := by
  have H := Lib.hid h
  clear h
  obtain ⟨b, off, rfl, hb, hc⟩ := H.out.ints hp
  have e0 := hc 0 hp
  simp only [Nat.add_zero] at e0
  have HC := Lib.hid hc
  have hp' : ¬ (l.length : Int) < 1 := by omega
  have hp2 : (0 : Int) < l.length := by omega
  have HM := Lib.hid (minL_one hp)
  generalize l[0] = v0 at *
  clear hc
  go_enter Tryz.func85, Tryz.ntmps85
  go_wp2_with fail

  go_loopg [3, 4] (l.length - 1) (fun k s3 s4 wr => ∃ i : Nat, s4 = .int .i64 i ∧ s3 = .int .i64 (minL l i) ∧ i ≤ l.length ∧ k = l.length - i ∧ w = wr)
  case atStart => exact ⟨1, rfl, by rw [HM.out], by omega, rfl, rfl⟩
  case round =>
    obtain ⟨i, rfl, rfl, hi, hk, rfl⟩ := hrel
    have Hk := Lib.hid hk
    clear hk
    by_cases hlt : i < l.length
    · have hlt' : (i : Int) < l.length := by omega
      have ei := HC.out i hlt
      have HS := Lib.hid (minL_succ hlt)
      generalize l[i] = v at *
      generalize minL l i = m at *
      have hmx : (if v < m then v else m) = min m v := by split <;> omega
      go_wp2_with fail
      go_roundg (l.length - (i + 1))
      case measure => rw [Hk.out]; omega
      case rel => exact ⟨i + 1, by go_num, by rw [HS.out], by omega, rfl, rfl⟩
    · have hie : i = l.length := by omega
      subst hie
      have hlt' : ¬ (l.length : Int) < l.length := by omega
      go_wp2_with fail
      go_ret
      exact ⟨rfl, rfl⟩
end Go.Proofs.YtelcofkjpkdjiaaGreat
/-
  slices.Repeat of one number. (Printed by repgen.py.) Written by an AI agent.
-/
namespace Go.Proofs.YtelcofkjpkdjiaaGreat
open Go.RowKit

theorem mul_one (n : Nat) (hn : n ≤ 1000) (w : World) : Calls Tryz.prog 122 #[.int .u64 1, .int .u64 n] w fun e w' => e = .returned (.tuple #[.int .u64 0, .int .u64 n]) ∧ w = w' := by
  have e1 : bits .and .u64 (n : Int) 4294967295 = n := by
    have := bits_and_u64_nat n 4294967295 (by omega) (by omega)
    rw [show ((4294967295 : Nat) : Int) = 4294967295 from rfl] at this
    rw [this, show (4294967295 : Nat) = 2 ^ 32 - 1 from rfl, Nat.and_two_pow_sub_one_eq_mod, Nat.mod_eq_of_lt (by omega)]
  have e2 : (n : Int) / 4294967296 = 0 := by omega
  have e3 : IntKind.u64.wrap (n : Int) = n := by rw [IntKind.wrap_u64]; omega
  go_enter Tryz.func122, Tryz.ntmps122
  go_wp2_with fail
  go_ret2
  refine ⟨?_, rfl⟩
  rw [show bits .and .u64 1 4294967295 = 1 by decide, Int.one_mul, e3, e2]
  rw [show IntKind.u64.wrap 0 = 0 by decide, show (0 : Int) / 4294967296 = 0 by decide, show bits .and .u64 0 4294967295 = 0 by decide]
  simp
  decide
theorem mul_any (n : Nat) (hn : n ≤ 1000) (w : World) : Calls Tryz.prog 81 #[.int .u64 1, .int .u64 n] w fun e w' => e = .returned (.tuple #[.int .u64 0, .int .u64 n]) ∧ w = w' := by
  go_enter Tryz.func81, Tryz.ntmps81
  go_wp2_with fail
  refine (mul_one n hn w).mono ?_
  rintro e w2 ⟨rfl, rfl⟩
  go_wp2_with fail
  go_ret2
  exact ⟨rfl, rfl⟩
theorem Evo.setRow {B : Nat} {T : List TypeId} {w : World} {g : Nat} {t : TypeId} {cs : Array Value} (h : Blk w g t cs) (ht : t ∈ T) (hb : B ≤ g) (cs' : Array Value) : Evo B T w (w.setRow g cs') := by
  refine ⟨rfl, rfl, rfl, by simp [World.setRow], fun k hk hc => ?_⟩
  by_cases hkg : k = g
  · subst hkg
    rcases hc with h1 | h1
    · omega
    · exact absurd ht (h1 _ _ _ h)
  · exact setRow_other w g k cs' (fun e => hkg e)
/-- a value, and a block's cells -/
def pfBV {B : Nat} (g : Nat) (D : Array Value) (u : Value) : PFact B :=
  ⟨[3], [], fun _ v w => v = u ∧ Blk w g 3 D, fun _ hT _ _ _ _ he hb => ⟨hb.1, hb.2.evo he (.inr (hT _ (by simp)))⟩, fun _ _ _ _ _ h => h⟩
/-- the first m are c, all others 0 -/
def repC (c : Int) (m n : Nat) : List Value := intCells (List.replicate m c ++ List.replicate (n - m) 0)
theorem repC_length {c : Int} {m n : Nat} (h : m ≤ n) : (repC c m n).length = n := by simp [repC, intCells]; omega
theorem repC_put {c : Int} {m k n : Nat} : (repC c m n).take m ++ (List.replicate k (Value.int .i64 c)) ++ (repC c m n).drop (m + k) = repC c (m + k) n := by
  unfold repC intCells
  rw [List.map_append, List.map_append, List.take_left' (by simp), List.drop_append, List.drop_of_length_le (by simp), ← List.replicate_append_replicate, List.map_append]
  simp
  omega
set_option maxRecDepth 20000 in
set_option maxHeartbeats 4000000 in
theorem repeat_any (c : Int) (a n : Nat) (w : World) (ha : Blk w a 3 #[.int .i64 c]) (hp : 0 < n) (hn : n ≤ 1000) :
    Calls Tryz.prog 44 #[.slice (some ⟨a, 0, none⟩) 1 1, .int .i64 n] w fun e w' => ∃ g, e = .returned (.slice (some ⟨g, 0, none⟩) n n) ∧ w.heap.size ≤ g ∧ Below w.heap.size w w' ∧ Blk w' g 3 (intCells (List.replicate n c)).toArray := by
  have e2 : IntKind.u64.wrap (n : Int) = n := by rw [IntKind.wrap_u64]; omega
  have e3 : IntKind.i64.wrap (n : Int) = n := by rw [IntKind.wrap_i64]; omega
  have e4 : IntKind.u64.wrap (1 : Int) = 1 := by rw [IntKind.wrap_u64]; omega
  have hmul := mul_any n hn w
  have Ha := Lib.hid ha
  go_enter Tryz.func44, Tryz.ntmps44
  go_wp2_with fail
  refine hmul.mono ?_
  rintro e w2 ⟨rfl, rfl⟩
  have hmk := fun W => run_make1 elemInt rfl n (by omega) (by omega) W
  have HB3 := Lib.hid (Blk.new w 3 (Array.replicate n (.int .i64 0)))
  have HW3 := Lib.hid ((Below.refl w.heap.size w).alloc (Nat.le_refl _) (.cells (Array.replicate n (.int .i64 0)) 3))
  have hz3 := World.size_alloc w (.cells (Array.replicate n (.int .i64 0)) 3)
  have hal := ha.lt
  clear hmul ha
  go_upto_region 7 with fail
  generalize w.alloc (.cells (Array.replicate n (.int .i64 0)) 3) = w3 at *
  have HZ3 := Lib.hid hz3
  clear hz3
  generalize hg : w.heap.size = g at *
  have HG := Lib.hid hg.symm
  have hcp := run_copy_row (P := Tryz.prog) w3 30 30 3 3 g 0 n n ⟨a, 0, none⟩ 1 1 (Array.replicate n (.int .i64 0)) 3 [.int .i64 c] Tryz.underlying30 (by kernel_rfl) HB3.out
    (by show 1 = min 1 n; omega) (fun j u hj => by
      have h1 := (Ha.out.below HW3.out hal).cell j
      rw [show (⟨a, 0, none⟩ : Addr).add j = ⟨a, j, none⟩ by unfold Addr.add; split <;> simp_all, h1]
      simpa using hj) (by simp; omega) (by simp [Value.oneCell'])
  have HB4 := Lib.hid (show Blk (w3.setRow g ((Array.replicate n (Value.int .i64 0)).toList.take 0 ++ [Value.int .i64 c] ++ (Array.replicate n (Value.int .i64 0)).toList.drop (0 + [Value.int .i64 c].length)).toArray) g 3 (repC c 1 n).toArray by
    have := setRow_heap w3 g (Array.replicate n (.int .i64 0)) ((Array.replicate n (Value.int .i64 0)).toList.take 0 ++ [Value.int .i64 c] ++ (Array.replicate n (Value.int .i64 0)).toList.drop (0 + [Value.int .i64 c].length)).toArray 3 (0, 0) HB3.out
    unfold Blk
    rw [this]
    simp [repC, intCells])
  have HW4 := Lib.hid (below_setRow HW3.out (Nat.le_refl _) ((Array.replicate n (Value.int .i64 0)).toList.take 0 ++ [Value.int .i64 c] ++ (Array.replicate n (Value.int .i64 0)).toList.drop (0 + [Value.int .i64 c].length)).toArray)
  have hgo : goInt [Value.int .i64 c].length = .int .i64 1 := rfl
  rw [hgo] at hcp
  generalize w3.setRow g ((Array.replicate n (Value.int .i64 0)).toList.take 0 ++ [Value.int .i64 c] ++ (Array.replicate n (Value.int .i64 0)).toList.drop (0 + [Value.int .i64 c].length)).toArray = w4 at *
  clear hmk hal hgo
  go_wp2_with fail
  clear hcp
  go_loopg [8] (n - 1) (fun k s8 wr => ∃ m : Nat, s8 = .int .i64 m ∧ 0 < m ∧ m ≤ n ∧ k = n - m ∧ Below g w wr ∧ Blk wr g 3 (repC c m n).toArray)
  case atStart => exact ⟨1, rfl, by omega, by omega, rfl, HW4.out, HB4.out⟩
  case round =>
    obtain ⟨m, rfl, hm0, hm, hk, hb, hbl⟩ := hrel
    have Hk := Lib.hid hk
    have HB := Lib.hid hb
    have HBL := Lib.hid hbl
    have hgr := hbl.lt
    clear hk hb hbl
    by_cases hlt : m < n
    · have hlt' : (m : Int) < n := by omega
      obtain ⟨k, hkk⟩ : ∃ k, k = min m (n - m) := ⟨_, rfl⟩
      have HK := Lib.hid hkk
      have hk1 : m + k ≤ n := by omega
      have hk0 : 0 < k := by omega
      have hwk : IntKind.i64.wrap ((m : Int) + k) = (m : Int) + k := by rw [IntKind.wrap_i64]; omega
      obtain ⟨D1, hD1⟩ : ∃ D, D = (repC c (m + k) n).toArray := ⟨_, rfl⟩
      have HD1 := Lib.hid hD1
      have hcp := Lib.hid (fun (wv : World) (h : Blk wv g 3 (repC c m n).toArray) => run_copy_row (P := Tryz.prog) wv 30 30 3 3 g m (n - m) (n - m) ⟨g, 0, none⟩ m n (repC c m n).toArray 3 (List.replicate k (Value.int .i64 c)) Tryz.underlying30 (by kernel_rfl) h
        (by rw [List.length_replicate]; exact hkk) (fun j u hj => by
          have h1 := h.cell j
          rw [show (⟨g, 0, none⟩ : Addr).add j = ⟨g, j, none⟩ by unfold Addr.add; split <;> simp_all, h1]
          rw [List.getElem?_replicate] at hj
          split at hj
          · rename_i hjk
            injection hj with hj
            subst hj
            unfold repC intCells
            simp [List.getElem?_append, show j < m by omega]
          · cases hj) (by simp [repC_length hm]; exact hk1) (fun v hv => by rw [(List.mem_replicate.1 hv).2]; rfl))
      have HCD := Lib.hid (show ((repC c m n).toArray.toList.take m ++ List.replicate k (Value.int .i64 c) ++ (repC c m n).toArray.toList.drop (m + (List.replicate k (Value.int .i64 c)).length)).toArray = D1 by
        rw [List.length_replicate, hD1]
        congr 1
        exact repC_put)
      have hcg : goInt (List.replicate k (Value.int .i64 c)).length = .int .i64 k := by rw [List.length_replicate]; rfl
      have HCG := Lib.hid hcg
      clear hkk hD1 hcg
      go_upto_region 9 with fail
      refine R3.wp_region_i g [[], [3]] [0, 0, 0, 0, 0, 0, 0, 1, 0, 0]
        [([], .val (.int .i64 m)), ([], .val (.slice (some ⟨g, 0, none⟩) n n)), ([], .val (.int .i64 m)), ([1, 2], .val (.slice (some ⟨g, m, none⟩) (n - m) (n - m))), ([], .val (.slice (some ⟨g, 0, none⟩) n n)), ([], .val (.int .i64 m)), ([4, 5], .val (.slice (some ⟨g, 0, none⟩) m n)), ([3, 6], pfBV g D1 (.int .i64 k)), ([0, 7], .val (.int .i64 (m + k))), ([8], .val (.int .i64 (m + k)))] [9, 7] (by kernel_rfl) (by kernel_rfl) (fun us => ?_) ?_
      · refine R3.pgo_pure _ rfl rfl (fun wv hw hu => ⟨.int .i64 m, ?_, rfl⟩) ?_
        · have tok := True.intro
          clear hw hu
          go_simp
        refine R3.pgo_pure _ rfl rfl (fun wv hw hu => ⟨.slice (some ⟨g, 0, none⟩) n n, ?_, rfl⟩) ?_
        · have tok := True.intro
          clear hw hu
          go_simp
        refine R3.pgo_pure _ rfl rfl (fun wv hw hu => ⟨.int .i64 m, ?_, rfl⟩) ?_
        · have tok := True.intro
          clear hw hu
          go_simp
        refine R3.pgo_pure _ rfl rfl (fun wv hw hu => ⟨.slice (some ⟨g, m, none⟩) (n - m) (n - m), ?_, rfl⟩) ?_
        · have tok := True.intro
          have h1 : us 1 = .slice (some ⟨g, 0, none⟩) n n := hu.1
          have h2 : us 2 = .int .i64 m := hu.2.1
          have hnm : ¬ n = m := by omega
          clear hw hu
          go_simp
        refine R3.pgo_pure _ rfl rfl (fun wv hw hu => ⟨.slice (some ⟨g, 0, none⟩) n n, ?_, rfl⟩) ?_
        · have tok := True.intro
          clear hw hu
          go_simp
        refine R3.pgo_pure _ rfl rfl (fun wv hw hu => ⟨.int .i64 m, ?_, rfl⟩) ?_
        · have tok := True.intro
          clear hw hu
          go_simp
        refine R3.pgo_pure _ rfl rfl (fun wv hw hu => ⟨.slice (some ⟨g, 0, none⟩) m n, ?_, rfl⟩) ?_
        · have tok := True.intro
          have h4 : us 4 = .slice (some ⟨g, 0, none⟩) n n := hu.1
          have h5 : us 5 = .int .i64 m := hu.2.1
          clear hw hu
          go_simp
        refine R3.pgo_val _ rfl rfl (fun wv hw hu => ?_) ?_
        · have tok := True.intro
          have h3 : us 3 = .slice (some ⟨g, m, none⟩) (n - m) (n - m) := hu.1
          have h6 : us 6 = .slice (some ⟨g, 0, none⟩) m n := hu.2.1
          have h3 : us 3 = .slice (some ⟨g, m, none⟩) (n - m) (n - m) := hu.1
          have h6 : us 6 = .slice (some ⟨g, 0, none⟩) m n := hu.2.1
          have hbv : Blk wv g 3 (repC c m n).toArray := (HBL.out.drew.evo hw (.inr (of_decide_eq_true (by kernel_rfl))))
          have hrun := hcp.out wv hbv
          have hbl2 := setRow_heap wv g (repC c m n).toArray ((repC c m n).toArray.toList.take m ++ List.replicate k (Value.int .i64 c) ++ (repC c m n).toArray.toList.drop (m + (List.replicate k (Value.int .i64 c)).length)).toArray 3 (0, 0) hbv
          rw [HCG.out] at hrun
          rw [HCD.out] at hrun hbl2
          refine ⟨.int .i64 k, wv.setRow g D1, ?_, Evo.setRow hbv (by simp) (Nat.le_refl _) _, rfl, hbl2⟩
          clear hw hu hbv hbl2
          go_simp
        refine R3.pgo_pure _ rfl rfl (fun wv hw hu => ⟨.int .i64 (m + k), ?_, rfl⟩) ?_
        · have tok := True.intro
          have h0 : us 0 = .int .i64 m := hu.1
          have h7 : us 7 = .int .i64 k := hu.2.1.1
          clear hw hu
          go_simp
        refine R3.pgo_pure _ rfl rfl (fun wv hw hu => ⟨.int .i64 (m + k), ?_, rfl⟩) ?_
        · have tok := True.intro
          have h8 : us 8 = .int .i64 (m + k) := hu.1
          clear hw hu
          go_simp
        trivial
      · intro us w6 hw hu
        have h9 : us 9 = .int .i64 (m + k) := hu.1
        have HB6 := Lib.hid (show Blk w6 g 3 (repC c (m + k) n).toArray by rw [← HD1.out]; exact hu.2.1.2)
        have HW6 := Lib.hid (HB.out.trans (below_undrew' (hw.below (by simp only [World.size_drew]; omega))))
        clear hw hu
        simp only [lexL]
        go_simp
        go_wp2_with fail
        go_roundg (n - (m + k))
        case measure => rw [Hk.out]; omega
        case rel => exact ⟨m + k, by go_num, by omega, hk1, rfl, HW6.out, HB6.out⟩
    · have hme : m = n := by omega
      have hlt' : ¬ (m : Int) < n := by omega
      have HF := Lib.hid (show Blk wr g 3 (intCells (List.replicate n c)).toArray by
        have := HBL.out
        rw [hme] at this
        simpa [repC] using this)
      clear HBL hme
      go_wp2_with fail
      go_ret
      exact ⟨g, rfl, Nat.le_refl _, HB.out, HF.out⟩
end Go.Proofs.YtelcofkjpkdjiaaGreat
/-
  angle.fit: what it computes. Written by an AI agent.
-/
namespace Go.Proofs.YtelcofkjpkdjiaaGreat
open Go.RowKit

/-- how many great angles each face must have, of the first k angles -/
def roomT (Fc Kd : Nat → Nat) (F f0 k : Nat) : List Int := (List.range F).map fun f => (if f = f0 then 1 else -1) + (((List.range k).countP fun h => decide (Kd h = 2) && decide (Fc h = f) : Nat) : Int)
theorem roomT_length (Fc Kd : Nat → Nat) (F f0 k : Nat) : (roomT Fc Kd F f0 k).length = F := by simp [roomT]
theorem roomT_zero (Fc Kd : Nat → Nat) (F f0 : Nat) : roomT Fc Kd F f0 0 = (List.replicate F (-1)).set f0 1 := by
  apply List.ext_getElem
  · simp [roomT]
  · intro i h1 h2
    rw [List.getElem_set]
    by_cases h : i = f0
    · subst h; simp [roomT]
    · have h' : ¬ f0 = i := fun e => h e.symm
      simp [roomT, h, h']
theorem roomT_succ {Fc Kd : Nat → Nat} {F f0 k : Nat} : roomT Fc Kd F f0 (k + 1) = if Kd k = 2 then (roomT Fc Kd F f0 k).set (Fc k) ((roomT Fc Kd F f0 k).getD (Fc k) 0 + 1) else roomT Fc Kd F f0 k := by
  by_cases h : Kd k = 2
  · rw [if_pos h]
    apply List.ext_getElem
    · simp [roomT]
    · intro i h1 h2
      have hi : i < F := by simpa [roomT] using h1
      rw [List.getElem_set]
      simp only [roomT, List.getElem_map, List.getElem_range, List.range_succ, List.countP_append, List.countP_cons, List.countP_nil]
      by_cases e : Fc k = i
      · subst e
        rw [if_pos rfl, List.getD_eq_getElem?_getD, List.getElem?_map, List.getElem?_range hi]
        simp [h]
        omega
      · rw [if_neg e, decide_eq_false e]
        simp
  · rw [if_neg h]
    apply List.ext_getElem
    · simp [roomT]
    · intro i h1 h2
      simp only [roomT, List.getElem_map, List.getElem_range, List.range_succ, List.countP_append, List.countP_cons, List.countP_nil]
      rw [decide_eq_false h]
      simp
theorem roomT_le {Fc Kd : Nat → Nat} {F f0 k : Nat} {x : Int} (h : x ∈ roomT Fc Kd F f0 k) : -1 ≤ x ∧ x ≤ k + 1 := by
  obtain ⟨f, _, rfl⟩ := List.mem_map.1 h
  have : ((List.range k).countP fun h => decide (Kd h = 2) && decide (Fc h = f)) ≤ k := Nat.le_trans List.countP_le_length (by simp)
  split <;> omega
theorem sum_bound {l : List Int} (h : ∀ x ∈ l, -1 ≤ x ∧ x ≤ 10000) : ∀ i : Nat, -(i : Int) ≤ (l.take i).sum ∧ (l.take i).sum ≤ 10000 * i
  | 0 => by simp
  | i + 1 => by
    have ih := sum_bound h i
    by_cases hi : i < l.length
    · have := h _ (List.getElem_mem hi)
      rw [List.take_succ_eq_append_getElem hi, List.sum_append]
      simp only [List.sum_cons, List.sum_nil]
      omega
    · rw [List.take_of_length_le (by omega)] at ih ⊢
      omega
theorem sum_take_succ {l : List Int} {i : Nat} (hi : i < l.length) : (l.take (i + 1)).sum = (l.take i).sum + l[i] := by
  rw [List.take_succ_eq_append_getElem hi, List.sum_append]
  simp
theorem minL_le {l : List Int} : ∀ k, k ≤ l.length → ∀ x ∈ l.take k, minL l k ≤ x
  | 0, _, x, h => by simp at h
  | k + 1, hk, x, h => by
    rw [List.take_succ_eq_append_getElem (by omega), List.mem_append, List.mem_singleton] at h
    rw [minL_succ (by omega)]
    rcases h with h | h
    · have := minL_le k (by omega) x h; omega
    · subst h; omega
theorem minL_mem {l : List Int} : ∀ k, 0 < k → k ≤ l.length → minL l k ∈ l
  | 0, h, _ => absurd h (Nat.lt_irrefl _)
  | 1, _, h => by rw [minL_one (by omega)]; exact List.getElem_mem _
  | k + 2, _, h => by
    have ih := minL_mem (l := l) (k + 1) (by omega) (by omega)
    rw [minL_succ (by omega)]
    rcases Int.le_total (minL l (k + 1)) l[k + 1] with e | e
    · rw [Int.min_eq_left e]; exact ih
    · rw [Int.min_eq_right e]; exact List.getElem_mem _
theorem min_neg {l : List Int} (hp : 0 < l.length) : (minL l l.length < 0) ↔ ¬ (l.all fun n => decide (0 ≤ n)) = true := by
  rw [List.all_eq_true]
  constructor
  · intro h h2
    have := h2 _ (minL_mem l.length hp (Nat.le_refl _))
    simp at this
    omega
  · intro h
    apply Classical.byContradiction
    intro h2
    apply h
    intro x hx
    have := minL_le l.length (Nat.le_refl _) x (by rwa [List.take_length])
    simp
    omega
/-- the program's fit -/
def fitR (V Fc Kd : Nat → Nat) (n M F f0 : Nat) (E : List Nat) : Option (List Int) :=
  if (roomT Fc Kd F f0 M).all (fun n => decide (0 ≤ n)) = true ∧ (roomT Fc Kd F f0 M).sum = (E.length : Int) then fitL V Fc n M (roomT Fc Kd F f0 M) E (List.replicate n (-1)) else none
def FitPost (r : Option (List Int)) (n : Nat) (w : World) (e : Ending) (w' : World) : Prop :=
  Below w.heap.size w w' ∧ match r with
    | none => e = .returned (.tuple #[.slice none 0 0, .bool false])
    | some G => ∃ g, e = .returned (.tuple #[.slice (some ⟨g, 0, none⟩) n n, .bool true]) ∧ w.heap.size ≤ g ∧ Blk w' g 3 (intCells G).toArray
theorem fitL_len {V Fc : Nat → Nat} {n M : Nat} {rm : List Int} : ∀ (E : List Nat) (G : List Int), OkG n M G → ∀ G', fitL V Fc n M rm E G = some G' → OkG n M G'
  | [], G, h, G', e => by simp only [fitL, Option.some.injEq] at e; subst e; exact h
  | x :: E, G, h, G', e => by
    unfold fitL at e
    split at e
    · exact fitL_len E _ (settle_step _ x (G, List.replicate rm.length false) h).1 G' e
    · cases e
set_option maxRecDepth 20000 in
set_option maxHeartbeats 4000000 in
theorem fit_any (A Ae : Option Addr) (ca ce : Nat) (V Fc Kd : Nat → Nat) (n M F f0 : Nat) (E : List Nat) (w : World) (hA : Cells w w.heap.size A (qCells (quL V Fc Kd M))) (hE : Cells w w.heap.size Ae (intCells (E.map fun z : Nat => (z : Int)))) (hFc : ∀ h, h < M → Fc h < F) (hV : ∀ h, h < M → V h < 8192) (hKd : ∀ h, h < M → Kd h ≤ 2) (hEn : ∀ x ∈ E, x < n) (hn : n ≤ 1000) (hn0 : 0 < n) (hM : M ≤ 2000) (hF : F ≤ 1000) (hf : f0 < F) (hEl : E.length ≤ 2000) :
    Calls Tryz.prog 48 #[.slice A M ca, .slice Ae E.length ce, .int .i64 n, .int .i64 F, .int .i64 f0] w (FitPost (fitR V Fc Kd n M F f0 E) n w) := by
  have HA := Lib.hid hA
  have HE := Lib.hid hE
  have HF := Lib.hid hFc
  have HV := Lib.hid hV
  have HK := Lib.hid hKd
  have HEN := Lib.hid hEn
  clear hA hE hFc hV hKd hEn
  have HB1 := Lib.hid (Blk.new w 3 #[.int .i64 (-1)])
  have hb1 := (Below.refl w.heap.size w).alloc (Nat.le_refl _) (.cells #[.int .i64 (-1)] 3)
  have hz1 := World.size_alloc w (.cells #[.int .i64 (-1)] 3)
  have HBL1 := Lib.hid hb1
  clear hb1
  go_enter Tryz.func48, Tryz.ntmps48
  go_wp2_with fail
  generalize w.alloc (.cells #[.int .i64 (-1)] 3) = w1 at *
  refine (repeat_any (-1) w.heap.size F w1 HB1.out (by omega) hF).mono ?_
  rintro e w2 ⟨gr, rfl, hgr, hb2, hR2⟩
  have HBL2 := Lib.hid (HBL1.out.trans (hb2.mono (by omega)))
  have HR2 := Lib.hid hR2
  have hz2 := hb2.size
  have hrl := hR2.lt
  clear hb2 hR2
  have HB3 := Lib.hid (Blk.new w2 3 #[.int .i64 (-1)])
  have hb3 := (Below.refl w2.heap.size w2).alloc (Nat.le_refl _) (.cells #[.int .i64 (-1)] 3)
  have hz3 := World.size_alloc w2 (.cells #[.int .i64 (-1)] 3)
  have HBL3 := Lib.hid (HBL2.out.trans (hb3.mono (by omega)))
  have HR3 := Lib.hid (HR2.out.below hb3 hrl)
  clear hb3
  go_wp2_with fail
  generalize w2.alloc (.cells #[.int .i64 (-1)] 3) = w3 at *
  refine (repeat_any (-1) w2.heap.size n w3 HB3.out hn0 hn).mono ?_
  rintro e w4 ⟨gg, rfl, hgg, hb4, hG4⟩
  have HBL4 := Lib.hid (HBL3.out.trans (hb4.mono (by omega)))
  have HR4 := Lib.hid (HR3.out.below hb4 (by omega))
  have HG4 := Lib.hid hG4
  have hz4 := hb4.size
  have hgl := hG4.lt
  clear hb4 hG4 HR2 HR3 HB1 HB3 HBL1 HBL2 HBL3
  have HC5 := Lib.hid (Blk.new w4 135 #[.slice A M ca, .slice (some ⟨gr, 0, none⟩) F F, .slice (some ⟨gg, 0, none⟩) n n, .slice none 0 0])
  have hb5 := (Below.refl w4.heap.size w4).alloc (Nat.le_refl _) (.cells #[.slice A M ca, .slice (some ⟨gr, 0, none⟩) F F, .slice (some ⟨gg, 0, none⟩) n n, .slice none 0 0] 135)
  have hz5 := World.size_alloc w4 (.cells #[.slice A M ca, .slice (some ⟨gr, 0, none⟩) F F, .slice (some ⟨gg, 0, none⟩) n n, .slice none 0 0] 135)
  have HR5 := Lib.hid (HR4.out.below hb5 (by omega))
  have HG5 := Lib.hid (HG4.out.below hb5 (by omega))
  have HBL5 := Lib.hid (HBL4.out.trans (hb5.mono (by omega)))
  clear hb5 HR4 HG4
  go_upto_region 2 with fail
  obtain ⟨gc, hgc⟩ : ∃ gc, gc = w4.heap.size := ⟨_, rfl⟩
  rw [← hgc] at HC5 hz5 hz4 hgl
  rw [← hgc]
  generalize w4.alloc (.cells #[.slice A M ca, .slice (some ⟨gr, 0, none⟩) F F, .slice (some ⟨gg, 0, none⟩) n n, .slice none 0 0] 135) = w5 at *
  have HGL := Lib.hid (show w.heap.size < gr ∧ gr < gg ∧ gg < gc ∧ gc < w5.heap.size by omega)
  have hord := HGL.out
  clear hz1 hz2 hz3 hz4 hz5 hgr hgg hrl hgl hgc
  have c1 := HC5.out.cell 1
  have fr := HR5.out.frozen f0
  have cr := HR5.out.int_ (k := f0) (by simpa using hf)
  simp only [List.getElem?_toArray, List.getElem?_cons_zero, List.getElem?_cons_succ] at c1
  have hf' : (f0 : Int) < F := by omega
  have HR6 := Lib.hid (show Blk (w5.setCell ⟨gr, f0, none⟩ (.int .i64 1)) gr 3 (intCells (roomT Fc Kd F f0 0)).toArray by rw [roomT_zero]; exact HR5.out.setInt f0 1)
  have HC6 := Lib.hid (show Blk (w5.setCell ⟨gr, f0, none⟩ (.int .i64 1)) gc _ _ from HC5.out.far (by show gc ≠ gr; omega) _)
  have HG6 := Lib.hid (show Blk (w5.setCell ⟨gr, f0, none⟩ (.int .i64 1)) gg _ _ from HG5.out.far (by show gg ≠ gr; omega) _)
  have HBL6 := Lib.hid (HBL5.out.setCell (p := ⟨gr, f0, none⟩) (show w.heap.size ≤ gr by omega) (.int .i64 1))
  have hz6 : (w5.setCell ⟨gr, f0, none⟩ (.int .i64 1)).heap.size = w5.heap.size := by simp
  obtain ⟨v0, hv0⟩ : ∃ v0, v0 = (List.replicate F (-1 : Int)).getD f0 0 := ⟨_, rfl⟩
  rw [← hv0] at cr
  clear hv0
  go_upto_region 3 with fail
  generalize w5.setCell ⟨gr, f0, none⟩ (.int .i64 1) = w6 at *
  have HZ6 := Lib.hid (show gc < w6.heap.size by omega)
  clear c1 fr cr HR5 HC5 HG5 HBL5 hz6 HGL
  go_wp2_with fail
  go_loopg [37] M (fun k s37 wr => ∃ i : Nat, s37 = .int .i64 i ∧ i ≤ M ∧ k = M - i ∧ But [gr] w6 wr ∧ Blk wr gr 3 (intCells (roomT Fc Kd F f0 i)).toArray)
  case atStart => exact ⟨0, rfl, Nat.zero_le _, rfl, But.refl _ _, HR6.out⟩
  case round =>
    obtain ⟨i, rfl, hi, hk, hb, hr⟩ := hrel
    have Hk := Lib.hid hk
    have HB := Lib.hid hb
    have HR := Lib.hid hr
    clear hk hb hr
    have hzw := HB.out.size
    have hz6 := HZ6.out
    have HC7 := Lib.hid (HB.out.blk HC6.out (by simp; omega))
    by_cases hil : i < M
    · have hil' : (i : Int) < M := by omega
      obtain ⟨ba, oa, rfl, hba, hca⟩ := HA.out.qu (by omega)
      obtain ⟨d0, d1, d2, d3⟩ := hca i hil
      have hkeep : ∀ j, wr.cell? ⟨ba, j, none⟩ = w.cell? ⟨ba, j, none⟩ := fun j => (World.cell?_of_block (HB.out.block ba (by omega) (by simp; omega))).trans (HBL6.out.cell (p := ⟨ba, j, none⟩) hba)
      have e0 := (hkeep _).trans d0
      have e1 := (hkeep _).trans d1
      have e2 := (hkeep _).trans d2
      have e3 := (hkeep _).trans d3
      have hfl := HF.out i hil
      have hk2 := HK.out i hil
      have HS := Lib.hid (roomT_succ (Fc := Fc) (Kd := Kd) (F := F) (f0 := f0) (k := i))
      have HBD := Lib.hid (show ∀ x ∈ roomT Fc Kd F f0 i, -1 ≤ x ∧ x ≤ i + 1 from fun x hx => roomT_le hx)
      have HLR := roomT_length Fc Kd F f0 i
      have HLR := Lib.hid HLR
      obtain ⟨v, hv⟩ : ∃ v, v = V i := ⟨_, rfl⟩
      obtain ⟨fc, hfc⟩ : ∃ fc, fc = Fc i := ⟨_, rfl⟩
      obtain ⟨kd, hkd⟩ : ∃ kd, kd = Kd i := ⟨_, rfl⟩
      rw [← hv] at e1
      rw [← hfc] at e2 hfl HS
      rw [← hkd] at e3 hk2 HS
      clear hv hfc hkd hca d0 d1 d2 d3 hkeep
      have HA4 := Lib.hid (Blk.new wr 68 #[.int .i64 (i : Int), .int .i64 (v : Nat), .int .i64 (fc : Nat), .int .i64 (kd : Nat)])
      have HB4 := Lib.hid ((Below.refl wr.heap.size wr).alloc (Nat.le_refl _) (.cells #[.int .i64 (i : Int), .int .i64 (v : Nat), .int .i64 (fc : Nat), .int .i64 (kd : Nat)] 68))
      have hz4 := World.size_alloc wr (.cells #[.int .i64 (i : Int), .int .i64 (v : Nat), .int .i64 (fc : Nat), .int .i64 (kd : Nat)] 68)
      have HC8 := Lib.hid (HC7.out.below HB4.out HC7.out.lt)
      have HR8 := Lib.hid (HR.out.below HB4.out HR.out.lt)
      have HB8 := Lib.hid (HB.out.trans (But.of_below [gr] HB4.out (Nat.le_refl _)))
      go_upto_region 6 with fail
      obtain ⟨gA, hgA⟩ : ∃ gA, gA = wr.heap.size := ⟨_, rfl⟩
      rw [← hgA] at HA4
      rw [← hgA]
      generalize wr.alloc (.cells #[.int .i64 (i : Int), .int .i64 (v : Nat), .int .i64 (fc : Nat), .int .i64 (kd : Nat)] 68) = w8 at *
      clear e0 e1 e2 e3 HB4 HC7 hgA
      have a3 := HA4.out.cell 3
      have a2 := HA4.out.cell 2
      have c1 := HC8.out.cell 1
      have fr := HR8.out.frozen fc
      have cr := HR8.out.int_ (k := fc) (by rw [HLR.out]; exact hfl)
      simp only [List.getElem?_toArray, List.getElem?_cons_zero, List.getElem?_cons_succ] at a3 a2 c1
      have hvb := HBD.out ((roomT Fc Kd F f0 i).getD fc 0) (by
        rw [List.getD_eq_getElem?_getD, List.getElem?_eq_getElem (by rw [HLR.out]; exact hfl)]
        exact List.getElem_mem _)
      obtain ⟨rv, hrv⟩ : ∃ rv, rv = (roomT Fc Kd F f0 i).getD fc 0 := ⟨_, rfl⟩
      rw [← hrv] at cr hvb
      have HRV := Lib.hid hrv
      have hfl' : (fc : Int) < F := by omega
      clear hrv
      by_cases hk : kd = 2
      · subst hk
        have HN := Lib.hid (show Blk (w8.setCell ⟨gr, fc, none⟩ (.int .i64 (rv + 1))).drew gr 3 (intCells (roomT Fc Kd F f0 (i + 1))).toArray by
          rw [HS.out, if_pos rfl, ← HRV.out]; exact (HR8.out.setInt fc (rv + 1)).drew)
        have HBN := Lib.hid ((HB8.out.trans (But.set_ w8 (show gr ∈ [gr] by simp) fc (.int .i64 (rv + 1)))).drewN 1)
        have hwv : IntKind.i64.wrap (rv + 1) = rv + 1 := by rw [IntKind.wrap_i64]; omega
        go_wp2_with fail
        go_region
        go_wp2_with fail
        go_roundg (M - (i + 1))
        case measure => rw [Hk.out]; omega
        case rel => exact ⟨i + 1, by go_num, by omega, rfl, HBN.out, HN.out⟩
      · have hk' : ((kd : Int) == 2) = false := by rw [beq_eq_false_iff_ne]; omega
        have HN := Lib.hid (show Blk w8 gr 3 (intCells (roomT Fc Kd F f0 (i + 1))).toArray by rw [HS.out, if_neg hk]; exact HR8.out)
        clear hk
        go_wp2_with fail
        go_roundg (M - (i + 1))
        case measure => rw [Hk.out]; omega
        case rel => exact ⟨i + 1, by go_num, by omega, rfl, HB8.out, HN.out⟩
    · have hie : i = M := by omega
      have hil' : ¬ (i : Int) < M := by omega
      obtain ⟨rm, hrm⟩ : ∃ rm, rm = roomT Fc Kd F f0 M := ⟨_, rfl⟩
      have HR9 := Lib.hid (show Blk wr gr 3 (intCells rm).toArray by rw [hrm, ← hie]; exact HR.out)
      have HLR := Lib.hid (show rm.length = F by rw [hrm]; exact roomT_length _ _ _ _ _)
      have HFR := Lib.hid (show fitR V Fc Kd n M F f0 E = if rm.all (fun n => decide (0 ≤ n)) = true ∧ rm.sum = (E.length : Int) then fitL V Fc n M rm E (List.replicate n (-1)) else none by rw [hrm]; rfl)
      have HBD := Lib.hid (show ∀ x ∈ rm, -1 ≤ x ∧ x ≤ 10000 from fun x hx => by
        rw [hrm] at hx
        have := roomT_le hx
        omega)
      have HG9 := Lib.hid (HB.out.blk HG6.out (by simp; omega))
      have HBL9 := Lib.hid (HBL6.out.trans (HB.out.below (B := w.heap.size) (by have := HBL6.out.size; exact this) (by simp; omega)))
      clear hrm hie HR HB HC6 HG6 HR6 hz6 hzw
      go_upto_region 10 with fail
      obtain ⟨w9, rfl⟩ : ∃ y, y = wr := ⟨_, rfl⟩
      have c1 := HC7.out.cell 1
      simp only [List.getElem?_toArray, List.getElem?_cons_zero, List.getElem?_cons_succ] at c1
      go_wp2_with fail
      go_loopg [15, 60] F (fun k s15 s60 wr => ∃ i : Nat, s60 = .int .i64 i ∧ s15 = .int .i64 (rm.take i).sum ∧ i ≤ F ∧ k = F - i ∧ w9 = wr)
      case atStart => exact ⟨0, rfl, rfl, Nat.zero_le _, rfl, rfl⟩
      case round =>
        obtain ⟨i, rfl, rfl, hi, hk, rfl⟩ := hrel
        have Hk := Lib.hid hk
        clear hk
        by_cases hil : i < F
        · have hil' : (i : Int) < F := by omega
          have hir : i < rm.length := by rw [HLR.out]; exact hil
          have cr := HR9.out.int_ (k := i) hir
          rw [List.getD_eq_getElem?_getD, List.getElem?_eq_getElem hir, Option.getD_some] at cr
          have HS := Lib.hid (sum_take_succ hir)
          have hb1 := sum_bound HBD.out i
          have hb2 := HBD.out rm[i] (List.getElem_mem hir)
          generalize rm[i] = v at *
          generalize (rm.take i).sum = t at *
          have hwv : IntKind.i64.wrap (t + v) = t + v := by rw [IntKind.wrap_i64]; omega
          clear hir
          go_wp2_with fail
          go_roundg (F - (i + 1))
          case measure => rw [Hk.out]; omega
          case rel => exact ⟨i + 1, by go_num, by rw [HS.out], by omega, rfl, rfl⟩
        · have hie : i = F := by omega
          have hil' : ¬ (i : Int) < F := by omega
          have HSE := Lib.hid (show (rm.take i).sum = rm.sum by rw [List.take_of_length_le (by rw [HLR.out]; omega)])
          have hb1 := sum_bound HBD.out i
          have HMN := Lib.hid (min_neg (l := rm) (by rw [HLR.out]; omega))
          have hmin := min_any (some ⟨gr, 0, none⟩) F rm w9 ((Cells.blk' HR9.out).more HR9.out.lt) (by rw [HLR.out]; omega) (by rw [HLR.out]; omega)
          rw [HLR.out] at hmin HMN
          rw [HSE.out] at hb1
          rw [HSE.out]
          obtain ⟨m, hm⟩ : ∃ m, m = minL rm F := ⟨_, rfl⟩
          rw [← hm] at hmin HMN
          obtain ⟨t, ht⟩ : ∃ t, t = rm.sum := ⟨_, rfl⟩
          rw [← ht] at hb1
          rw [← ht]
          have HT := Lib.hid ht
          clear hie hm ht
          go_wp2_with fail
          refine hmin.mono ?_
          rintro e w10 ⟨rfl, rfl⟩
          clear hmin
          by_cases hm0 : m < 0
          · have HN := Lib.hid (HMN.out.1 hm0)
            go_wp2_with fail
            go_ret2
            rw [HFR.out, if_neg (fun h => HN.out h.1)]
            exact ⟨HBL9.out, rfl⟩
          · have hm0' : decide (m < 0) = false := decide_eq_false hm0
            have HN := Lib.hid (show rm.all (fun n => decide (0 ≤ n)) = true from Classical.byContradiction fun h => hm0 (HMN.out.2 h))
            by_cases hse : t = (E.length : Int)
            · have hse' : (t != (E.length : Int)) = false := by rw [hse]; simp
              have HFS := Lib.hid (HFR.out.trans (if_pos ⟨HN.out, by rw [← HT.out]; exact hse⟩))
              clear HMN hm0 hse
              have hmk := fun W => run_make1 elemBool rfl F (by omega) (by omega) W
              go_wp2_with fail
              clear hse' hm0' hb1 c1 hil' hi
              go_loopg [82] E.length (fun k s82 wr => ∃ (j : Nat) (G : List Int) (sv : Value), s82 = .int .i64 j ∧ j ≤ E.length ∧ k = E.length - j ∧ OkG n M G ∧ Below w.heap.size w wr ∧ w9.heap.size ≤ wr.heap.size ∧ Blk wr gc 135 #[.slice A M ca, .slice (some ⟨gr, 0, none⟩) F F, .slice (some ⟨gg, 0, none⟩) n n, sv] ∧ Blk wr gr 3 (intCells rm).toArray ∧ Blk wr gg 3 (intCells G).toArray ∧ fitL V Fc n M rm (E.drop j) G = fitR V Fc Kd n M F f0 E)
              case atStart =>
                refine ⟨0, List.replicate n (-1), _, rfl, Nat.zero_le _, rfl, ⟨by simp, fun x hx => ?_⟩, HBL9.out, Nat.le_refl _, HC7.out, HR9.out, HG9.out, HFS.out.symm⟩
                rw [List.getD_eq_getElem?_getD, List.getElem?_replicate, if_pos hx]
                simp
                omega
              case round =>
                obtain ⟨j, G, sv, rfl, hj, hk, hok, hbl, hszw, hc, hr, hg, hres⟩ := hrel
                have Hk := Lib.hid hk
                have HOK := Lib.hid hok
                have HBW := Lib.hid hbl
                have HCW := Lib.hid hc
                have HRW := Lib.hid hr
                have HGW := Lib.hid hg
                have HRE := Lib.hid hres
                have hgcw : gc < wr.heap.size := hc.lt
                clear hk hok hbl hc hr hg hres
                by_cases hjl : j < E.length
                · have hjl' : (j : Int) < E.length := by omega
                  obtain ⟨be, oe, rfl, hbe, hce⟩ := (HE.out.below HBW.out).ints (by simpa using (show 0 < E.length by omega))
                  have cj := hce j (by simpa using hjl)
                  simp only [List.getElem_map] at cj
                  have hxn := HEN.out _ (List.getElem_mem hjl)
                  have HD := Lib.hid (List.drop_eq_getElem_cons hjl)
                  have c3 := HCW.out.cell 3
                  have f3 := HCW.out.frozen 3
                  simp only [List.getElem?_toArray, List.getElem?_cons_zero, List.getElem?_cons_succ] at c3
                  obtain ⟨x, hx⟩ : ∃ x, x = E[j] := ⟨_, rfl⟩
                  rw [← hx] at cj hxn HD
                  clear hce hx
                  go_upto_region 21 with fail
                  obtain ⟨gs, hgs⟩ : ∃ gs, gs = wr.heap.size := ⟨_, rfl⟩
                  rw [← hgs]
                  have hszb := HBW.out.size
                  have HGS := Lib.hid (show gc < gs ∧ w.heap.size ≤ gs by omega)
                  have HCA := Lib.hid (show Blk (wr.setCell ⟨gc, 3, none⟩ (.slice (some ⟨gs, 0, none⟩) F F)) gc 135 #[.slice A M ca, .slice (some ⟨gr, 0, none⟩) F F, .slice (some ⟨gg, 0, none⟩) n n, .slice (some ⟨gs, 0, none⟩) F F] from HCW.out.set_ 3 _)
                  have HRA := Lib.hid (HRW.out.far (p := ⟨gc, 3, none⟩) (by simp only; omega) (.slice (some ⟨gs, 0, none⟩) F F))
                  have HGA := Lib.hid (HGW.out.far (p := ⟨gc, 3, none⟩) (by simp only; omega) (.slice (some ⟨gs, 0, none⟩) F F))
                  have HBB := Lib.hid (HBW.out.setCell (p := ⟨gc, 3, none⟩) (by simp only; omega) (.slice (some ⟨gs, 0, none⟩) F F))
                  have hz12 : (wr.setCell ⟨gc, 3, none⟩ (.slice (some ⟨gs, 0, none⟩) F F)).heap.size = gs := by rw [hgs]; simp
                  generalize wr.setCell ⟨gc, 3, none⟩ (.slice (some ⟨gs, 0, none⟩) F F) = w11 at *
                  have HSA := Lib.hid (Blk.new w11 4 (Array.replicate F (.bool false)))
                  have HBA := Lib.hid ((Below.refl w11.heap.size w11).alloc (Nat.le_refl _) (.cells (Array.replicate F (.bool false)) 4))
                  have hzA := World.size_alloc w11 (.cells (Array.replicate F (.bool false)) 4)
                  rw [hz12] at HSA hzA
                  have HCB := Lib.hid (HCA.out.below HBA.out HCA.out.lt)
                  have HRB := Lib.hid (HRA.out.below HBA.out HRA.out.lt)
                  have HGB := Lib.hid (HGA.out.below HBA.out HGA.out.lt)
                  have HSB := HSA
                  have HBC := Lib.hid (HBB.out.trans (HBA.out.mono (by omega)))
                  have hz13 : w9.heap.size ≤ (w11.alloc (.cells (Array.replicate F (.bool false)) 4)).heap.size := by omega
                  clear HSA HBA HCA HRA HGA HBB
                  generalize w11.alloc (.cells (Array.replicate F (.bool false)) 4) = w12 at *
                  have HCM := Lib.hid (show CM ⟨gc, gr, gg, gs, w.heap.size, A, ca⟩ V Fc Kd n M rm w12 G (List.replicate F false) by
                    refine ⟨by rw [HLR.out]; exact HCB.out, HA.out.below HBC.out, HRB.out, HGB.out, ?_, by show gr ≠ gg; omega, by show w.heap.size ≤ gg; omega, HGS.out.2⟩
                    have := HSB.out
                    simpa [boolCells] using this)
                  have hset := settle_any ⟨gc, gr, gg, gs, w.heap.size, A, ca⟩ V Fc Kd n M rm (by rw [HLR.out]; exact HF.out) hn (by omega) (by rw [HLR.out]; omega) HV.out (rm.length + 1) x G (List.replicate F false) w12 (by
                    have : unS (List.replicate F false) ≤ F := by
                      unfold unS
                      exact Nat.le_trans List.countP_le_length (by simp)
                    rw [HLR.out]; omega) hxn HOK.out (by rw [HLR.out]; simp) HCM.out
                  have hstp := settle_step (V := V) (Fc := Fc) (n := n) (M := M) (rm := rm) (rm.length + 1) x (G, List.replicate F false) HOK.out
                  have HRN := Lib.hid (show (if (settleF V Fc n M rm (rm.length + 1) x (G, List.replicate F false)).1 = true then fitL V Fc n M rm (E.drop (j + 1)) (settleF V Fc n M rm (rm.length + 1) x (G, List.replicate F false)).2.1 else none) = fitR V Fc Kd n M F f0 E by
                    rw [← HRE.out, HD.out]
                    conv => rhs; unfold fitL
                    rw [HLR.out])
                  obtain ⟨q, hq⟩ : ∃ q, q = settleF V Fc n M rm (rm.length + 1) x (G, List.replicate F false) := ⟨_, rfl⟩
                  rw [← hq] at hset hstp HRN
                  have HST := Lib.hid hstp
                  clear hq hstp hzA hz12 hgs cj c3 f3
                  cases hqb : q.1 with
                  | true =>
                    rw [hqb] at hset
                    have HRN2 := Lib.hid (show fitL V Fc n M rm (E.drop (j + 1)) q.2.1 = fitR V Fc Kd n M F f0 E from (if_pos hqb).symm.trans HRN.out)
                    clear hqb
                    go_wp2_with fail
                    refine hset.mono ?_
                    rintro e w13 ⟨rfl, hb13, hc13⟩
                    have HB13 := Lib.hid (HBC.out.trans (hb13.below (B := w.heap.size) HBC.out.size (by
                      have := HGS.out
                      simp
                      omega)))
                    have hs13 := hb13.size
                    have HC13 := Lib.hid (show Blk w13 gc 135 #[.slice A M ca, .slice (some ⟨gr, 0, none⟩) F F, .slice (some ⟨gg, 0, none⟩) n n, .slice (some ⟨gs, 0, none⟩) F F] by have h1 := hc13.C; rw [HLR.out] at h1; exact h1)
                    have HR13 := Lib.hid hc13.R
                    have HG13 := Lib.hid hc13.G
                    clear hb13 hc13 hset
                    go_wp2_with fail
                    go_roundg (E.length - (j + 1))
                    case measure => rw [Hk.out]; omega
                    case rel => exact ⟨j + 1, q.2.1, _, by go_num, by omega, rfl, HST.out.1, HB13.out, by omega, HC13.out, HR13.out, HG13.out, HRN2.out⟩
                  | false =>
                    rw [hqb] at hset
                    have HRN2 := Lib.hid (show fitR V Fc Kd n M F f0 E = none from HRN.out.symm.trans (if_neg (by rw [hqb]; simp)))
                    clear hqb
                    go_wp2_with fail
                    refine hset.mono ?_
                    rintro e w13 ⟨rfl, hb13, hc13⟩
                    have HB13 := Lib.hid (HBC.out.trans (hb13.below (B := w.heap.size) HBC.out.size (by
                      have := HGS.out
                      simp
                      omega)))
                    clear hb13 hc13 hset
                    go_wp2_with fail
                    go_ret2
                    rw [HRN2.out]
                    exact ⟨HB13.out, rfl⟩
                · have hje : j = E.length := by omega
                  have hjl' : ¬ (j : Int) < E.length := by omega
                  have HRF := Lib.hid (show fitR V Fc Kd n M F f0 E = some G by
                    have h1 := HRE.out
                    rw [hje, List.drop_length] at h1
                    exact h1.symm)
                  have c2 := HCW.out.cell 2
                  simp only [List.getElem?_toArray, List.getElem?_cons_zero, List.getElem?_cons_succ] at c2
                  clear hje
                  go_wp2_with fail
                  go_ret2
                  rw [HRF.out]
                  exact ⟨HBW.out, gg, rfl, by omega, HGW.out⟩
            · have hse' : (t != (E.length : Int)) = true := by rw [bne_iff_ne]; exact hse
              go_wp2_with fail
              go_ret2
              rw [HFR.out, if_neg (fun h => hse (by rw [HT.out]; exact h.2))]
              exact ⟨HBL9.out, rfl⟩
end Go.Proofs.YtelcofkjpkdjiaaGreat
