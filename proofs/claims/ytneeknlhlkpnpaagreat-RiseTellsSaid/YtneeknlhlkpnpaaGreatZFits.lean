import Derived.Test.YtneeknlhlkpnpaaGreatZAng0
import Derived.Test.YtneeknlhlkpnpaaGreatZAng1
import Derived.Test.YtneeknlhlkpnpaaGreatZReg
import Derived.Test.YtneeknlhlkpnpaaGreatZVw
import Derived.Laws.CopyRow
import Derived.Laws.CopyOwn
import Derived.Laws.Bits64b
/-
 The choice in memory; (*angle.choice).holders. Written by an AI agent.
-/
namespace Go.Proofs.YtneeknlhlkpnpaaGreat
open Go.RowKit
theorem blk_ne {w : World} {g h : Nat} {t t' : TypeId} {cs cs' : Array Value} (h1 : Blk w g t cs) (h2 : Blk w h t' cs') (ht : t ≠ t') : g ≠ h := fun e => by
 subst e
 unfold Blk at h1 h2
 rw [h1] at h2
 injection h2 with h2
 injection h2 with _ h2
 exact ht h2
def quL (V Fc Kd : Nat → Nat) (M : Nat) : List (Nat × Nat × Nat × Nat) := (List.range M).map fun h => (h, V h, Fc h, Kd h)
theorem quL_length (V Fc Kd : Nat → Nat) (M : Nat) : (quL V Fc Kd M).length = M := by simp [quL]
theorem Cells.qu {w : World} {B : Nat} {A : Option Addr} {V Fc Kd : Nat → Nat} {M : Nat} (h : Cells w B A (qCells (quL V Fc Kd M))) (hn : 0 < M) :
  ∃ b off, A = some ⟨b, off, none⟩ ∧ b < B ∧ ∀ k, k < M → w.cell? ⟨b, off + k * 4, none⟩ = some (.int .i64 k) ∧ w.cell? ⟨b, off + k * 4 + 1, none⟩ = some (.int .i64 (V k : Nat)) ∧ w.cell? ⟨b, off + k * 4 + 2, none⟩ = some (.int .i64 (Fc k : Nat)) ∧ w.cell? ⟨b, off + k * 4 + 3, none⟩ = some (.int .i64 (Kd k : Nat)) := by
 obtain ⟨b, off, e, hb, hc⟩ := h.quads (by rw [quL_length]; omega)
 refine ⟨b, off, e, hb, fun k hk => ?_⟩
 have := hc k (by rw [quL_length]; exact hk)
 simpa [quL] using this
theorem angL_qu (n : Int) (es : List (Int × Int)) (rs : List (List Int)) : angL n es rs = quL (vtx es) (angF n es rs) (angK es rs) (2 * es.length) := rfl
structure CLay where
 gc : Nat
 gr : Nat
 gg : Nat
 gs : Nat
 B : Nat
 Aa : Option Addr
 ca : Nat
section
variable {y : CLay} {V Fc Kd : Nat → Nat} {n M : Nat} {rm : List Int} {w w' : World} {G : List Int} {S : List Bool}
end
end Go.Proofs.YtneeknlhlkpnpaaGreat
namespace Go.Proofs.YtneeknlhlkpnpaaGreat
open Go.RowKit
section
variable {V Fc : Nat → Nat} {n M : Nat} {rm : List Int}
end
end Go.Proofs.YtneeknlhlkpnpaaGreat
namespace Go.Proofs.YtneeknlhlkpnpaaGreat
open Go.RowKit
def minL (l : List Int) (k : Nat) : Int := (l.take k).foldl min (l.getD 0 0)
theorem minL_succ {l : List Int} {k : Nat} (h : k < l.length) : minL l (k + 1) = min (minL l k) l[k] := by
 unfold minL
 rw [List.take_succ_eq_append_getElem h, List.foldl_append]
 rfl
theorem minL_one {l : List Int} (h : 0 < l.length) : minL l 1 = l[0] := by
 rw [minL_succ h]
 unfold minL
 rw [List.getD_eq_getElem?_getD, List.getElem?_eq_getElem h]
 simp
set_option maxRecDepth 20000 in
set_option maxHeartbeats 1000000 in
theorem min_any (A : Option Addr) (c : Nat) (l : List Int) (w : World) (h : Cells w w.heap.size A (intCells l)) (hp : 0 < l.length) (hl : l.length ≤ 100000) :
  Calls Tryz.prog 133 #[.slice A l.length c] w (fun e w' => e = .returned (.int .i64 (minL l l.length)) ∧ w = w') := by
 have H := Lib.hid h
 clear h
 obtain ⟨b, off, rfl, hb, hc⟩ := H.out.ints hp
 have e0 := hc 0 hp
 simp only [Nat.add_zero] at e0
 have HC := Lib.hid hc
 have hp' : ¬ (l.length : Int) < 1 := by omega
 have hp2 : (0 : Int) < l.length := by omega
 have HM := Lib.hid (minL_one hp)
 generalize l[0] = v0 at *
 clear hc
 go_enter Tryz.func133, Tryz.ntmps133
 go_wp2_with fail
 go_loopg [3, 4] (l.length - 1) (fun k s3 s4 wr => ∃ i : Nat, s4 = .int .i64 i ∧ s3 = .int .i64 (minL l i) ∧ i ≤ l.length ∧ k = l.length - i ∧ w = wr)
 case atStart => exact ⟨1, rfl, by rw [HM.out], by omega, rfl, rfl⟩
 case round =>
  obtain ⟨i, rfl, rfl, hi, hk, rfl⟩ := hrel
  have Hk := Lib.hid hk
  clear hk
  by_cases hlt : i < l.length
  ·have hlt' : (i : Int) < l.length := by omega
   have ei := HC.out i hlt
   have HS := Lib.hid (minL_succ hlt)
   generalize l[i] = v at *
   generalize minL l i = m at *
   have hmx : (if v < m then v else m) = min m v := by split <;> omega
   go_wp2_with fail
   go_roundg (l.length - (i + 1))
   case measure => rw [Hk.out]; omega
   case rel => exact ⟨i + 1, by go_num, by rw [HS.out], by omega, rfl, rfl⟩
  ·have hie : i = l.length := by omega
   subst hie
   have hlt' : ¬ (l.length : Int) < l.length := by omega
   go_wp2_with fail
   go_ret
   exact ⟨rfl, rfl⟩
end Go.Proofs.YtneeknlhlkpnpaaGreat
namespace Go.Proofs.YtneeknlhlkpnpaaGreat
open Go.RowKit
theorem mul_one (n : Nat) (hn : n ≤ 1000) (w : World) : Calls Tryz.prog 171 #[.int .u64 1, .int .u64 n] w fun e w' => e = .returned (.tuple #[.int .u64 0, .int .u64 n]) ∧ w = w' := by
 have e1 : bits .and .u64 (n : Int) 4294967295 = n := by
  have := bits_and_u64_nat n 4294967295 (by omega) (by omega)
  rw [show ((4294967295 : Nat) : Int) = 4294967295 from rfl] at this
  rw [this, show (4294967295 : Nat) = 2 ^ 32 - 1 from rfl, Nat.and_two_pow_sub_one_eq_mod, Nat.mod_eq_of_lt (by omega)]
 have e2 : (n : Int) / 4294967296 = 0 := by omega
 have e3 : IntKind.u64.wrap (n : Int) = n := by rw [IntKind.wrap_u64]; omega
 go_enter Tryz.func171, Tryz.ntmps171
 go_wp2_with fail
 go_ret2
 refine ⟨?_, rfl⟩
 rw [show bits .and .u64 1 4294967295 = 1 by decide, Int.one_mul, e3, e2]
 rw [show IntKind.u64.wrap 0 = 0 by decide, show (0 : Int) / 4294967296 = 0 by decide, show bits .and .u64 0 4294967295 = 0 by decide]
 simp
 decide
theorem mul_any (n : Nat) (hn : n ≤ 1000) (w : World) : Calls Tryz.prog 168 #[.int .u64 1, .int .u64 n] w fun e w' => e = .returned (.tuple #[.int .u64 0, .int .u64 n]) ∧ w = w' := by
 go_enter Tryz.func168, Tryz.ntmps168
 go_wp2_with fail
 refine (mul_one n hn w).mono ?_
 rintro e w2 ⟨rfl, rfl⟩
 go_wp2_with fail
 go_ret2
 exact ⟨rfl, rfl⟩
theorem Evo.setRow {B : Nat} {T : List TypeId} {w : World} {g : Nat} {t : TypeId} {cs : Array Value} (h : Blk w g t cs) (ht : t ∈ T) (hb : B ≤ g) (cs' : Array Value) : Evo B T w (w.setRow g cs') := by
 refine ⟨rfl, rfl, rfl, by simp [World.setRow], fun k hk hc => ?_⟩
 by_cases hkg : k = g
 ·subst hkg
  rcases hc with h1 | h1
  ·omega
  ·exact absurd ht (h1 _ _ _ h)
 ·exact setRow_other w g k cs' (fun e => hkg e)
def pfBV {B : Nat} (g : Nat) (D : Array Value) (u : Value) : PFact B :=
 ⟨[3], [], fun _ v w => v = u ∧ Blk w g 3 D, fun _ hT _ _ _ _ he hb => ⟨hb.1, hb.2.evo he (.inr (hT _ (by simp)))⟩, fun _ _ _ _ _ h => h⟩
def repC (c : Int) (m n : Nat) : List Value := intCells (List.replicate m c ++ List.replicate (n - m) 0)
theorem repC_length {c : Int} {m n : Nat} (h : m ≤ n) : (repC c m n).length = n := by simp [repC, intCells]; omega
theorem repC_put {c : Int} {m k n : Nat} : (repC c m n).take m ++ (List.replicate k (Value.int .i64 c)) ++ (repC c m n).drop (m + k) = repC c (m + k) n := by
 unfold repC intCells
 rw [List.map_append, List.map_append, List.take_left' (by simp), List.drop_append, List.drop_of_length_le (by simp), ← List.replicate_append_replicate, List.map_append]
 simp
 omega
set_option maxRecDepth 20000 in
set_option maxHeartbeats 4000000 in
theorem repeat_any (c : Int) (a n : Nat) (w : World) (ha : Blk w a 3 #[.int .i64 c]) (hp : 0 < n) (hn : n ≤ 1000) :
  Calls Tryz.prog 153 #[.slice (some ⟨a, 0, none⟩) 1 1, .int .i64 n] w fun e w' => ∃ g, e = .returned (.slice (some ⟨g, 0, none⟩) n n) ∧ w.heap.size ≤ g ∧ Below w.heap.size w w' ∧ Blk w' g 3 (intCells (List.replicate n c)).toArray := by
 have e2 : IntKind.u64.wrap (n : Int) = n := by rw [IntKind.wrap_u64]; omega
 have e3 : IntKind.i64.wrap (n : Int) = n := by rw [IntKind.wrap_i64]; omega
 have e4 : IntKind.u64.wrap (1 : Int) = 1 := by rw [IntKind.wrap_u64]; omega
 have hmul := mul_any n hn w
 have Ha := Lib.hid ha
 go_enter Tryz.func153, Tryz.ntmps153
 go_wp2_with fail
 refine hmul.mono ?_
 rintro e w2 ⟨rfl, rfl⟩
 have hmk := fun W => run_make1 elemInt rfl n (by omega) (by omega) W
 have HB3 := Lib.hid (Blk.new w 3 (Array.replicate n (.int .i64 0)))
 have HW3 := Lib.hid ((Below.refl w.heap.size w).alloc (Nat.le_refl _) (.cells (Array.replicate n (.int .i64 0)) 3))
 have hz3 := World.size_alloc w (.cells (Array.replicate n (.int .i64 0)) 3)
 have hal := ha.lt
 clear hmul ha
 go_upto_region 7 with fail
 generalize w.alloc (.cells (Array.replicate n (.int .i64 0)) 3) = w3 at *
 have HZ3 := Lib.hid hz3
 clear hz3
 generalize hg : w.heap.size = g at *
 have HG := Lib.hid hg.symm
 have hcp := run_copy_row (P := Tryz.prog) w3 25 25 3 3 g 0 n n ⟨a, 0, none⟩ 1 1 (Array.replicate n (.int .i64 0)) 3 [.int .i64 c] Tryz.underlying25 (by kernel_rfl) HB3.out
  (by show 1 = min 1 n; omega) (fun j u hj => by
   have h1 := (Ha.out.below HW3.out hal).cell j
   rw [show (⟨a, 0, none⟩ : Addr).add j = ⟨a, j, none⟩ by unfold Addr.add; split <;> simp_all, h1]
   simpa using hj) (by simp; omega) (by simp [Value.oneCell'])
 have HB4 := Lib.hid (show Blk (w3.setRow g ((Array.replicate n (Value.int .i64 0)).toList.take 0 ++ [Value.int .i64 c] ++ (Array.replicate n (Value.int .i64 0)).toList.drop (0 + [Value.int .i64 c].length)).toArray) g 3 (repC c 1 n).toArray by
  have := setRow_heap w3 g (Array.replicate n (.int .i64 0)) ((Array.replicate n (Value.int .i64 0)).toList.take 0 ++ [Value.int .i64 c] ++ (Array.replicate n (Value.int .i64 0)).toList.drop (0 + [Value.int .i64 c].length)).toArray 3 (0, 0) HB3.out
  unfold Blk
  rw [this]
  simp [repC, intCells])
 have HW4 := Lib.hid (below_setRow HW3.out (Nat.le_refl _) ((Array.replicate n (Value.int .i64 0)).toList.take 0 ++ [Value.int .i64 c] ++ (Array.replicate n (Value.int .i64 0)).toList.drop (0 + [Value.int .i64 c].length)).toArray)
 have hgo : goInt [Value.int .i64 c].length = .int .i64 1 := rfl
 rw [hgo] at hcp
 generalize w3.setRow g ((Array.replicate n (Value.int .i64 0)).toList.take 0 ++ [Value.int .i64 c] ++ (Array.replicate n (Value.int .i64 0)).toList.drop (0 + [Value.int .i64 c].length)).toArray = w4 at *
 clear hmk hal hgo
 go_wp2_with fail
 clear hcp
 go_loopg [8] (n - 1) (fun k s8 wr => ∃ m : Nat, s8 = .int .i64 m ∧ 0 < m ∧ m ≤ n ∧ k = n - m ∧ Below g w wr ∧ Blk wr g 3 (repC c m n).toArray)
 case atStart => exact ⟨1, rfl, by omega, by omega, rfl, HW4.out, HB4.out⟩
 case round =>
  obtain ⟨m, rfl, hm0, hm, hk, hb, hbl⟩ := hrel
  have Hk := Lib.hid hk
  have HB := Lib.hid hb
  have HBL := Lib.hid hbl
  have hgr := hbl.lt
  clear hk hb hbl
  by_cases hlt : m < n
  ·have hlt' : (m : Int) < n := by omega
   obtain ⟨k, hkk⟩ : ∃ k, k = min m (n - m) := ⟨_, rfl⟩
   have HK := Lib.hid hkk
   have hk1 : m + k ≤ n := by omega
   have hk0 : 0 < k := by omega
   have hwk : IntKind.i64.wrap ((m : Int) + k) = (m : Int) + k := by rw [IntKind.wrap_i64]; omega
   obtain ⟨D1, hD1⟩ : ∃ D, D = (repC c (m + k) n).toArray := ⟨_, rfl⟩
   have HD1 := Lib.hid hD1
   have hcp := Lib.hid (fun (wv : World) (h : Blk wv g 3 (repC c m n).toArray) => run_copy_row (P := Tryz.prog) wv 25 25 3 3 g m (n - m) (n - m) ⟨g, 0, none⟩ m n (repC c m n).toArray 3 (List.replicate k (Value.int .i64 c)) Tryz.underlying25 (by kernel_rfl) h
    (by rw [List.length_replicate]; exact hkk) (fun j u hj => by
     have h1 := h.cell j
     rw [show (⟨g, 0, none⟩ : Addr).add j = ⟨g, j, none⟩ by unfold Addr.add; split <;> simp_all, h1]
     rw [List.getElem?_replicate] at hj
     split at hj
     ·rename_i hjk
      injection hj with hj
      subst hj
      unfold repC intCells
      simp [List.getElem?_append, show j < m by omega]
     ·cases hj) (by simp [repC_length hm]; exact hk1) (fun v hv => by rw [(List.mem_replicate.1 hv).2]; rfl))
   have HCD := Lib.hid (show ((repC c m n).toArray.toList.take m ++ List.replicate k (Value.int .i64 c) ++ (repC c m n).toArray.toList.drop (m + (List.replicate k (Value.int .i64 c)).length)).toArray = D1 by
    rw [List.length_replicate, hD1]
    congr 1
    exact repC_put)
   have hcg : goInt (List.replicate k (Value.int .i64 c)).length = .int .i64 k := by rw [List.length_replicate]; rfl
   have HCG := Lib.hid hcg
   clear hkk hD1 hcg
   go_upto_region 9 with fail
   refine R3.wp_region_i g [[], [3]] [0, 0, 0, 0, 0, 0, 0, 1, 0, 0]
    [([], .val (.int .i64 m)), ([], .val (.slice (some ⟨g, 0, none⟩) n n)), ([], .val (.int .i64 m)), ([1, 2], .val (.slice (some ⟨g, m, none⟩) (n - m) (n - m))), ([], .val (.slice (some ⟨g, 0, none⟩) n n)), ([], .val (.int .i64 m)), ([4, 5], .val (.slice (some ⟨g, 0, none⟩) m n)), ([3, 6], pfBV g D1 (.int .i64 k)), ([0, 7], .val (.int .i64 (m + k))), ([8], .val (.int .i64 (m + k)))] [9, 7] (by kernel_rfl) (by kernel_rfl) (fun us => ?_) ?_
   ·refine R3.pgo_pure _ rfl rfl (fun wv hw hu => ⟨.int .i64 m, ?_, rfl⟩) ?_
    ·have tok := True.intro
     clear hw hu
     go_simp
    refine R3.pgo_pure _ rfl rfl (fun wv hw hu => ⟨.slice (some ⟨g, 0, none⟩) n n, ?_, rfl⟩) ?_
    ·have tok := True.intro
     clear hw hu
     go_simp
    refine R3.pgo_pure _ rfl rfl (fun wv hw hu => ⟨.int .i64 m, ?_, rfl⟩) ?_
    ·have tok := True.intro
     clear hw hu
     go_simp
    refine R3.pgo_pure _ rfl rfl (fun wv hw hu => ⟨.slice (some ⟨g, m, none⟩) (n - m) (n - m), ?_, rfl⟩) ?_
    ·have tok := True.intro
     have h1 : us 1 = .slice (some ⟨g, 0, none⟩) n n := hu.1
     have h2 : us 2 = .int .i64 m := hu.2.1
     have hnm : ¬ n = m := by omega
     clear hw hu
     go_simp
    refine R3.pgo_pure _ rfl rfl (fun wv hw hu => ⟨.slice (some ⟨g, 0, none⟩) n n, ?_, rfl⟩) ?_
    ·have tok := True.intro
     clear hw hu
     go_simp
    refine R3.pgo_pure _ rfl rfl (fun wv hw hu => ⟨.int .i64 m, ?_, rfl⟩) ?_
    ·have tok := True.intro
     clear hw hu
     go_simp
    refine R3.pgo_pure _ rfl rfl (fun wv hw hu => ⟨.slice (some ⟨g, 0, none⟩) m n, ?_, rfl⟩) ?_
    ·have tok := True.intro
     have h4 : us 4 = .slice (some ⟨g, 0, none⟩) n n := hu.1
     have h5 : us 5 = .int .i64 m := hu.2.1
     clear hw hu
     go_simp
    refine R3.pgo_val _ rfl rfl (fun wv hw hu => ?_) ?_
    ·have tok := True.intro
     have h3 : us 3 = .slice (some ⟨g, m, none⟩) (n - m) (n - m) := hu.1
     have h6 : us 6 = .slice (some ⟨g, 0, none⟩) m n := hu.2.1
     have h3 : us 3 = .slice (some ⟨g, m, none⟩) (n - m) (n - m) := hu.1
     have h6 : us 6 = .slice (some ⟨g, 0, none⟩) m n := hu.2.1
     have hbv : Blk wv g 3 (repC c m n).toArray := (HBL.out.drew.evo hw (.inr (of_decide_eq_true (by kernel_rfl))))
     have hrun := hcp.out wv hbv
     have hbl2 := setRow_heap wv g (repC c m n).toArray ((repC c m n).toArray.toList.take m ++ List.replicate k (Value.int .i64 c) ++ (repC c m n).toArray.toList.drop (m + (List.replicate k (Value.int .i64 c)).length)).toArray 3 (0, 0) hbv
     rw [HCG.out] at hrun
     rw [HCD.out] at hrun hbl2
     refine ⟨.int .i64 k, wv.setRow g D1, ?_, Evo.setRow hbv (by simp) (Nat.le_refl _) _, rfl, hbl2⟩
     clear hw hu hbv hbl2
     go_simp
    refine R3.pgo_pure _ rfl rfl (fun wv hw hu => ⟨.int .i64 (m + k), ?_, rfl⟩) ?_
    ·have tok := True.intro
     have h0 : us 0 = .int .i64 m := hu.1
     have h7 : us 7 = .int .i64 k := hu.2.1.1
     clear hw hu
     go_simp
    refine R3.pgo_pure _ rfl rfl (fun wv hw hu => ⟨.int .i64 (m + k), ?_, rfl⟩) ?_
    ·have tok := True.intro
     have h8 : us 8 = .int .i64 (m + k) := hu.1
     clear hw hu
     go_simp
    trivial
   ·intro us w6 hw hu
    have h9 : us 9 = .int .i64 (m + k) := hu.1
    have HB6 := Lib.hid (show Blk w6 g 3 (repC c (m + k) n).toArray by rw [← HD1.out]; exact hu.2.1.2)
    have HW6 := Lib.hid (HB.out.trans (below_undrew' (hw.below (by simp only [World.size_drew]; omega))))
    clear hw hu
    simp only [lexL]
    go_simp
    go_wp2_with fail
    go_roundg (n - (m + k))
    case measure => rw [Hk.out]; omega
    case rel => exact ⟨m + k, by go_num, by omega, hk1, rfl, HW6.out, HB6.out⟩
  ·have hme : m = n := by omega
   have hlt' : ¬ (m : Int) < n := by omega
   have HF := Lib.hid (show Blk wr g 3 (intCells (List.replicate n c)).toArray by
    have := HBL.out
    rw [hme] at this
    simpa [repC] using this)
   clear HBL hme
   go_wp2_with fail
   go_ret
   exact ⟨g, rfl, Nat.le_refl _, HB.out, HF.out⟩
end Go.Proofs.YtneeknlhlkpnpaaGreat
namespace Go.Proofs.YtneeknlhlkpnpaaGreat
open Go.RowKit
def roomT (Fc Kd : Nat → Nat) (F f0 k : Nat) : List Int := (List.range F).map fun f => (if f = f0 then 1 else -1) + (((List.range k).countP fun h => decide (Kd h = 2) && decide (Fc h = f) : Nat) : Int)
theorem roomT_length (Fc Kd : Nat → Nat) (F f0 k : Nat) : (roomT Fc Kd F f0 k).length = F := by simp [roomT]
theorem roomT_zero (Fc Kd : Nat → Nat) (F f0 : Nat) : roomT Fc Kd F f0 0 = (List.replicate F (-1)).set f0 1 := by
 apply List.ext_getElem
 ·simp [roomT]
 ·intro i h1 h2
  rw [List.getElem_set]
  by_cases h : i = f0
  ·subst h; simp [roomT]
  ·have h' : ¬ f0 = i := fun e => h e.symm
   simp [roomT, h, h']
theorem roomT_succ {Fc Kd : Nat → Nat} {F f0 k : Nat} : roomT Fc Kd F f0 (k + 1) = if Kd k = 2 then (roomT Fc Kd F f0 k).set (Fc k) ((roomT Fc Kd F f0 k).getD (Fc k) 0 + 1) else roomT Fc Kd F f0 k := by
 by_cases h : Kd k = 2
 ·rw [if_pos h]
  apply List.ext_getElem
  ·simp [roomT]
  ·intro i h1 h2
   have hi : i < F := by simpa [roomT] using h1
   rw [List.getElem_set]
   simp only [roomT, List.getElem_map, List.getElem_range, List.range_succ, List.countP_append, List.countP_cons, List.countP_nil]
   by_cases e : Fc k = i
   ·subst e
    rw [if_pos rfl, List.getD_eq_getElem?_getD, List.getElem?_map, List.getElem?_range hi]
    simp [h]
    omega
   ·rw [if_neg e, decide_eq_false e]
    simp
 ·rw [if_neg h]
  apply List.ext_getElem
  ·simp [roomT]
  ·intro i h1 h2
   simp only [roomT, List.getElem_map, List.getElem_range, List.range_succ, List.countP_append, List.countP_cons, List.countP_nil]
   rw [decide_eq_false h]
   simp
theorem roomT_le {Fc Kd : Nat → Nat} {F f0 k : Nat} {x : Int} (h : x ∈ roomT Fc Kd F f0 k) : -1 ≤ x ∧ x ≤ k + 1 := by
 obtain ⟨f, _, rfl⟩ := List.mem_map.1 h
 have : ((List.range k).countP fun h => decide (Kd h = 2) && decide (Fc h = f)) ≤ k := Nat.le_trans List.countP_le_length (by simp)
 split <;> omega
theorem minL_mem {l : List Int} : ∀ k, 0 < k → k ≤ l.length → minL l k ∈ l
 | 0, h, _ => absurd h (Nat.lt_irrefl _)
 | 1, _, h => by rw [minL_one (by omega)]; exact List.getElem_mem _
 | k + 2, _, h => by
  have ih := minL_mem (l := l) (k + 1) (by omega) (by omega)
  rw [minL_succ (by omega)]
  rcases Int.le_total (minL l (k + 1)) l[k + 1] with e | e
  ·rw [Int.min_eq_left e]; exact ih
  ·rw [Int.min_eq_right e]; exact List.getElem_mem _
end Go.Proofs.YtneeknlhlkpnpaaGreat
