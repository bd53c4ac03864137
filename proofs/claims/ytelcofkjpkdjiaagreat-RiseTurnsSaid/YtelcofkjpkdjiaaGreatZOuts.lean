import Derived.Shelf.Sort.Plain
import Derived.Shelf.Slices.CompactI
import Derived.Shelf.Slices.In.SortNone
import Derived.Test.YtelcofkjpkdjiaaGreatZMem
import Derived.Test.YtelcofkjpkdjiaaGreatZVw
import Derived.Test.YtelcofkjpkdjiaaGreatZPts2
import Derived.Test.YtelcofkjpkdjiaaGreatZAsg
/-
  slices.Sort and slices.Compact over numbers: the shelf's contracts at this program (their layings printed by the kit's lay-plain.mjs, turned by shelft.py), and what is drawn from them. Written by an AI agent.
-/
namespace Go.Proofs.YtelcofkjpkdjiaaGreat
open Go.RowKit Go.Shelf Go.Sort

def lays189_ren : Go.Shelf.Ren := ⟨fun | 189 => 35 | 125 => 78 | 257 => 77 | 128 => 119 | 129 => 120 | 294 => 110 | 295 => 111 | 296 => 112 | 297 => 113 | 298 => 114 | 299 => 115 | 216 => 116 | 300 => 117 | 301 => 118 | 328 => 147 | 329 => 148 | 330 => 149 | 331 => 150 | 332 => 151 | 215 => 152 | 343 => 159 | n => n, fun | 28 => 30 | 3 => 3 | 46 => 128 | 0 => 0 | 51 => 176 | 53 => 165 | 4 => 4 | 183 => 169 | 182 => 168 | 131 => 112 | 5 => 5 | 9 => 9 | 218 => 198 | 222 => 202 | 228 => 208 | 229 => 209 | n => n, fun | n => n⟩
theorem lays189 : Go.Proofs.Lays.n189 Tryz.prog lays189_ren := {
  mixed := by kernel_rfl
  f125 := Tryz.func78.trans (congrArg some (by kernel_rfl))
  f128 := Tryz.func119.trans (congrArg some (by kernel_rfl))
  f129 := Tryz.func120.trans (congrArg some (by kernel_rfl))
  f189 := Tryz.func35.trans (congrArg some (by kernel_rfl))
  f215 := Tryz.func152.trans (congrArg some (by kernel_rfl))
  f216 := Tryz.func116.trans (congrArg some (by kernel_rfl))
  f257 := Tryz.func77.trans (congrArg some (by kernel_rfl))
  f294 := Tryz.func110.trans (congrArg some (by kernel_rfl))
  f295 := Tryz.func111.trans (congrArg some (by kernel_rfl))
  f296 := Tryz.func112.trans (congrArg some (by kernel_rfl))
  f297 := Tryz.func113.trans (congrArg some (by kernel_rfl))
  f298 := Tryz.func114.trans (congrArg some (by kernel_rfl))
  f299 := Tryz.func115.trans (congrArg some (by kernel_rfl))
  f300 := Tryz.func117.trans (congrArg some (by kernel_rfl))
  f301 := Tryz.func118.trans (congrArg some (by kernel_rfl))
  f328 := Tryz.func147.trans (congrArg some (by kernel_rfl))
  f329 := Tryz.func148.trans (congrArg some (by kernel_rfl))
  f330 := Tryz.func149.trans (congrArg some (by kernel_rfl))
  f331 := Tryz.func150.trans (congrArg some (by kernel_rfl))
  f332 := Tryz.func151.trans (congrArg some (by kernel_rfl))
  f343 := Tryz.func159.trans (congrArg some (by kernel_rfl))
  t0 := Tryz.underlying0
  a0 := Tryz.isAgg0
  z0 := Tryz.sizeOf0
  v0 := Tryz.zeroValue0
  t3 := Tryz.underlying3
  a3 := Tryz.isAgg3
  z3 := Tryz.sizeOf3
  v3 := Tryz.zeroValue3
  t4 := Tryz.underlying4
  a4 := Tryz.isAgg4
  z4 := Tryz.sizeOf4
  v4 := Tryz.zeroValue4
  t5 := Tryz.underlying5
  a5 := Tryz.isAgg5
  z5 := Tryz.sizeOf5
  v5 := Tryz.zeroValue5
  t9 := Tryz.underlying9
  a9 := Tryz.isAgg9
  z9 := Tryz.sizeOf9
  v9 := Tryz.zeroValue9
  t28 := Tryz.underlying30
  a28 := Tryz.isAgg30
  z28 := Tryz.sizeOf30
  v28 := Tryz.zeroValue30
  t46 := Tryz.underlying128
  a46 := Tryz.isAgg128
  z46 := Tryz.sizeOf128
  v46 := Tryz.zeroValue128
  t51 := Tryz.underlying176
  a51 := Tryz.isAgg176
  z51 := Tryz.sizeOf176
  v51 := Tryz.zeroValue176
  t53 := Tryz.underlying165
  a53 := Tryz.isAgg165
  z53 := Tryz.sizeOf165
  v53 := Tryz.zeroValue165
  t131 := Tryz.underlying112
  a131 := Tryz.isAgg112
  z131 := Tryz.sizeOf112
  v131 := Tryz.zeroValue112
  t182 := Tryz.underlying168
  a182 := Tryz.isAgg168
  z182 := Tryz.sizeOf168
  v182 := Tryz.zeroValue168
  t183 := Tryz.underlying169
  a183 := Tryz.isAgg169
  z183 := Tryz.sizeOf169
  v183 := Tryz.zeroValue169
  t218 := Tryz.underlying198
  a218 := Tryz.isAgg198
  z218 := Tryz.sizeOf198
  v218 := Tryz.zeroValue198
  t222 := Tryz.underlying202
  a222 := Tryz.isAgg202
  z222 := Tryz.sizeOf202
  v222 := Tryz.zeroValue202
  t228 := Tryz.underlying208
  a228 := Tryz.isAgg208
  z228 := Tryz.sizeOf208
  v228 := Tryz.zeroValue208
  t229 := Tryz.underlying209
  a229 := Tryz.isAgg209
  z229 := Tryz.sizeOf209
  v229 := Tryz.zeroValue209 }
def leI (x y : Int) : Bool := decide (x ≤ y)
theorem below_put {B : Nat} {w : World} {g q : Nat} {d : Array Int} {os : Array Obj} (hg : B ≤ g) (hB : B ≤ w.heap.size) : Below B w (grow (putRow (Value.int .i64) (Sort.ahead w q) g 0 d) os) :=
  ⟨rfl, rfl, rfl, by simp [putRow, mapBlock, Sort.ahead], fun k hk => by
    rw [heap_grow_old _ _ (by simp [putRow, mapBlock, Sort.ahead]; omega)]
    simp [putRow, mapBlock, Sort.ahead, Array.getElem?_modify, show g ≠ k by omega]⟩
theorem sortI_any (B g cap : Nat) (l : List Int) (w : World) (hH : Holds (Value.int .i64) w g 0 l.toArray) (hg : g < w.heap.size) (hB : B ≤ g) (hl : l.length ≤ 100000) :
    Calls Tryz.prog 35 #[.slice (some ⟨g, 0, none⟩) l.length cap] w (fun e w' => e = .returned (.tuple #[]) ∧ Below B w w' ∧ Holds (Value.int .i64) w' g 0 (l.mergeSort leI).toArray ∧ g < w'.heap.size) :=
  (Any.slices_Sort_int lays189 g 0 cap l w hH hg (by omega)).mono fun e w' ⟨he, n, os, hw⟩ => by
    subst hw
    exact ⟨he, below_put hB (by omega), holds_grow _ _ os g 0 _ (by simpa [putRow, mapBlock, Sort.ahead] using hg) (holds_putRow _ _ g 0 _ _ (holds_ahead _ w n g 0 _ hH) (by simp [leI])), by simp [putRow, mapBlock, Sort.ahead]; omega⟩
theorem sortI_none (a : Option Addr) (cap : Nat) (w : World) : Calls Tryz.prog 35 #[.slice a 0 cap] w (fun e w' => e = .returned (.tuple #[]) ∧ w = w') :=
  (Any.slices_Sort_int_none lays189 a cap w).mono fun e w' ⟨he, hw⟩ => ⟨he, hw.symm⟩
end Go.Proofs.YtelcofkjpkdjiaaGreat
/-
  slices.DeleteFunc over numbers (how many are left), by forest.Outers' closure; (Part).tree, (View).Outs. Written by an AI agent.
-/
namespace Go.Proofs.YtelcofkjpkdjiaaGreat
open Go.RowKit

def IdxIPost (p : Int → Bool) (l : List Int) (B : Nat) (w : World) (e : Ending) (w' : World) : Prop :=
  ∃ r : Int, e = .returned (.int .i64 r) ∧ Below B w w' ∧ (r = -1 ∧ (∀ i, i < l.length → p (l.getD i 0) = false) ∨ ∃ k : Nat, r = k ∧ k < l.length ∧ p (l.getD k 0) = true ∧ ∀ i, i < k → p (l.getD i 0) = false)
set_option maxHeartbeats 1000000 in
theorem idxI_any (B : Nat) (A : Option Addr) (cap : Nat) (l : List Int) (fid : FuncId) (caps : Array Value) (p : Int → Bool) (w : World) (hlen : l.length ≤ 1000) (hB : B = w.heap.size) (h : Cells w B A (intCells l))
    (hcf : ∀ (u : World) (args : Array Value), (callFunc fid args).run Tryz.prog u = .ok (.enter fid args) u)
    (hcl : ∀ (i : Nat) (hi : i < l.length) (w' : World), Below B w w' → Calls Tryz.prog fid (#[.int .i64 l[i]] ++ caps) w' fun e w'' => e = .returned (.bool (p l[i])) ∧ Below w'.heap.size w' w'') :
    Calls Tryz.prog 71 #[.slice A l.length cap, .func (.func fid) #[] caps] w (IdxIPost p l B w) := by
  have H := Lib.hid h
  have Hcl := Lib.hid hcl
  have HBE := Lib.hid hB
  clear h hcl hB
  go_enter Tryz.func71, Tryz.ntmps71
  go_wp2_with fail
  go_loopg [8] l.length (fun k s8 wr => ∃ i : Nat, s8 = .int .i64 i ∧ i ≤ l.length ∧ k = l.length - i ∧ Below B w wr ∧ ∀ j, j < i → p (l.getD j 0) = false)
  case atStart => exact ⟨0, rfl, Nat.zero_le _, rfl, Below.refl _ _, fun j hj => absurd hj (by omega)⟩
  case round =>
    obtain ⟨i, rfl, hi, hk, hbw, hf⟩ := hrel
    have Hk := Lib.hid hk
    have Hf := Lib.hid hf
    have HB := Lib.hid hbw
    clear hk hf hbw
    by_cases hlt : i < l.length
    · have hlt' : (i : Int) < l.length := by omega
      obtain ⟨b, off, rfl, hb, hc⟩ := H.out.ints (by omega)
      have e0 := (HB.out.cell (p := ⟨b, off + i, none⟩) (by show b < B; exact hb)).trans (hc i hlt)
      have HV := Lib.hid (show l.getD i 0 = l[i] by rw [List.getD_eq_getElem?_getD, List.getElem?_eq_getElem hlt]; rfl)
      have HC := Lib.hid (Hcl.out i hlt wr HB.out)
      clear hc
      obtain ⟨v, hv⟩ : ∃ v, v = l[i] := ⟨_, rfl⟩
      rw [← hv] at e0 HV HC
      clear hv
      go_wp2_with fail
      refine HC.out.mono ?_
      rintro e w' ⟨rfl, hb2⟩
      have HB2 := Lib.hid (HB.out.trans (hb2.mono (by have := HB.out.size; have := HBE.out; omega)))
      clear hb2 e0 HC
      cases hp : p v with
      | true =>
        have HP := Lib.hid (show p (l.getD i 0) = true by rw [HV.out]; exact hp)
        clear hp
        go_wp2_with fail
        go_ret
        exact ⟨_, rfl, HB2.out, .inr ⟨i, rfl, hlt, HP.out, Hf.out⟩⟩
      | false =>
        have HP := Lib.hid (show p (l.getD i 0) = false by rw [HV.out]; exact hp)
        clear hp
        go_wp2_with fail
        go_roundg (l.length - (i + 1))
        case measure => rw [Hk.out]; omega
        case rel => exact ⟨i + 1, by go_num, by omega, rfl, HB2.out, fun j hj => by
          by_cases h : j = i
          · rw [h]; exact HP.out
          · exact Hf.out j (by omega)⟩
    · have hlt' : ¬ (i : Int) < l.length := by omega
      go_wp2_with fail
      go_ret
      exact ⟨_, rfl, HB.out, .inl ⟨rfl, fun j hj => Hf.out j (by omega)⟩⟩
end Go.Proofs.YtelcofkjpkdjiaaGreat
