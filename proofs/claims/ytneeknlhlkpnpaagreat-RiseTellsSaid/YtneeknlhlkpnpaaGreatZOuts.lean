import Derived.Shelf.Sort.Plain
import Derived.Shelf.Slices.CompactI
import Derived.Shelf.Slices.In.SortNone
import Derived.Test.YtneeknlhlkpnpaaGreatZMem
import Derived.Test.YtneeknlhlkpnpaaGreatZVw
import Derived.Test.YtneeknlhlkpnpaaGreatZPtM
import Derived.Test.YtneeknlhlkpnpaaGreatZWeb
import Derived.Test.YtneeknlhlkpnpaaGreatZAsg
import Derived.Test.YtneeknlhlkpnpaaGreatZFit2
import Derived.Test.YtneeknlhlkpnpaaGreatZAng1
/-
 slices.Sort and slices.Compact over numbers: the shelf's contracts at this program (their layings printed by the kit's lay-plain.mjs, turned by shelft.py), and what is drawn from them. Written by an AI agent.
-/
namespace Go.Proofs.YtneeknlhlkpnpaaGreat
open Go.RowKit Go.Shelf Go.Sort
def lays189_ren : Go.Shelf.Ren := ⟨fun | 189 => 57 | 125 => 112 | 257 => 111 | 128 => 151 | 129 => 152 | 294 => 142 | 295 => 143 | 296 => 144 | 297 => 145 | 298 => 146 | 299 => 147 | 216 => 148 | 300 => 149 | 301 => 150 | 328 => 162 | 329 => 163 | 330 => 164 | 331 => 165 | 332 => 166 | 215 => 167 | 343 => 169 | n => n, fun | 28 => 25 | 3 => 3 | 46 => 163 | 0 => 0 | 51 => 196 | 53 => 156 | 4 => 4 | 183 => 189 | 182 => 188 | 131 => 137 | 5 => 5 | 9 => 9 | 218 => 201 | 222 => 205 | 228 => 209 | 229 => 210 | n => n, fun | n => n⟩
theorem lays189 : Go.Proofs.Lays.n189 Tryz.prog lays189_ren := {
 mixed := by kernel_rfl
 f125 := Tryz.func112.trans (congrArg some (by kernel_rfl))
 f128 := Tryz.func151.trans (congrArg some (by kernel_rfl))
 f129 := Tryz.func152.trans (congrArg some (by kernel_rfl))
 f189 := Tryz.func57.trans (congrArg some (by kernel_rfl))
 f215 := Tryz.func167.trans (congrArg some (by kernel_rfl))
 f216 := Tryz.func148.trans (congrArg some (by kernel_rfl))
 f257 := Tryz.func111.trans (congrArg some (by kernel_rfl))
 f294 := Tryz.func142.trans (congrArg some (by kernel_rfl))
 f295 := Tryz.func143.trans (congrArg some (by kernel_rfl))
 f296 := Tryz.func144.trans (congrArg some (by kernel_rfl))
 f297 := Tryz.func145.trans (congrArg some (by kernel_rfl))
 f298 := Tryz.func146.trans (congrArg some (by kernel_rfl))
 f299 := Tryz.func147.trans (congrArg some (by kernel_rfl))
 f300 := Tryz.func149.trans (congrArg some (by kernel_rfl))
 f301 := Tryz.func150.trans (congrArg some (by kernel_rfl))
 f328 := Tryz.func162.trans (congrArg some (by kernel_rfl))
 f329 := Tryz.func163.trans (congrArg some (by kernel_rfl))
 f330 := Tryz.func164.trans (congrArg some (by kernel_rfl))
 f331 := Tryz.func165.trans (congrArg some (by kernel_rfl))
 f332 := Tryz.func166.trans (congrArg some (by kernel_rfl))
 f343 := Tryz.func169.trans (congrArg some (by kernel_rfl))
 t0 := Tryz.underlying0
 a0 := Tryz.isAgg0
 z0 := Tryz.sizeOf0
 v0 := Tryz.zeroValue0
 t3 := Tryz.underlying3
 a3 := Tryz.isAgg3
 z3 := Tryz.sizeOf3
 v3 := Tryz.zeroValue3
 t4 := Tryz.underlying4
 a4 := Tryz.isAgg4
 z4 := Tryz.sizeOf4
 v4 := Tryz.zeroValue4
 t5 := Tryz.underlying5
 a5 := Tryz.isAgg5
 z5 := Tryz.sizeOf5
 v5 := Tryz.zeroValue5
 t9 := Tryz.underlying9
 a9 := Tryz.isAgg9
 z9 := Tryz.sizeOf9
 v9 := Tryz.zeroValue9
 t28 := Tryz.underlying25
 a28 := Tryz.isAgg25
 z28 := Tryz.sizeOf25
 v28 := Tryz.zeroValue25
 t46 := Tryz.underlying163
 a46 := Tryz.isAgg163
 z46 := Tryz.sizeOf163
 v46 := Tryz.zeroValue163
 t51 := Tryz.underlying196
 a51 := Tryz.isAgg196
 z51 := Tryz.sizeOf196
 v51 := Tryz.zeroValue196
 t53 := Tryz.underlying156
 a53 := Tryz.isAgg156
 z53 := Tryz.sizeOf156
 v53 := Tryz.zeroValue156
 t131 := Tryz.underlying137
 a131 := Tryz.isAgg137
 z131 := Tryz.sizeOf137
 v131 := Tryz.zeroValue137
 t182 := Tryz.underlying188
 a182 := Tryz.isAgg188
 z182 := Tryz.sizeOf188
 v182 := Tryz.zeroValue188
 t183 := Tryz.underlying189
 a183 := Tryz.isAgg189
 z183 := Tryz.sizeOf189
 v183 := Tryz.zeroValue189
 t218 := Tryz.underlying201
 a218 := Tryz.isAgg201
 z218 := Tryz.sizeOf201
 v218 := Tryz.zeroValue201
 t222 := Tryz.underlying205
 a222 := Tryz.isAgg205
 z222 := Tryz.sizeOf205
 v222 := Tryz.zeroValue205
 t228 := Tryz.underlying209
 a228 := Tryz.isAgg209
 z228 := Tryz.sizeOf209
 v228 := Tryz.zeroValue209
 t229 := Tryz.underlying210
 a229 := Tryz.isAgg210
 z229 := Tryz.sizeOf210
 v229 := Tryz.zeroValue210 }
def leI (x y : Int) : Bool := decide (x ≤ y)
theorem below_put {B : Nat} {w : World} {g q : Nat} {d : Array Int} {os : Array Obj} (hg : B ≤ g) (hB : B ≤ w.heap.size) : Below B w (grow (putRow (Value.int .i64) (Sort.ahead w q) g 0 d) os) :=
 ⟨rfl, rfl, rfl, by simp [putRow, mapBlock, Sort.ahead], fun k hk => by
  rw [heap_grow_old _ _ (by simp [putRow, mapBlock, Sort.ahead]; omega)]
  simp [putRow, mapBlock, Sort.ahead, Array.getElem?_modify, show g ≠ k by omega]⟩
theorem sortI_any (B g cap : Nat) (l : List Int) (w : World) (hH : Holds (Value.int .i64) w g 0 l.toArray) (hg : g < w.heap.size) (hB : B ≤ g) (hl : l.length ≤ 100000) :
  Calls Tryz.prog 57 #[.slice (some ⟨g, 0, none⟩) l.length cap] w (fun e w' => e = .returned (.tuple #[]) ∧ Below B w w' ∧ Holds (Value.int .i64) w' g 0 (l.mergeSort leI).toArray ∧ g < w'.heap.size) :=
 (Any.slices_Sort_int lays189 g 0 cap l w hH hg (by omega)).mono fun e w' ⟨he, n, os, hw⟩ => by
  subst hw
  exact ⟨he, below_put hB (by omega), holds_grow _ _ os g 0 _ (by simpa [putRow, mapBlock, Sort.ahead] using hg) (holds_putRow _ _ g 0 _ _ (holds_ahead _ w n g 0 _ hH) (by simp [])), by simp [putRow, mapBlock, Sort.ahead]; omega⟩
theorem sortI_none (a : Option Addr) (cap : Nat) (w : World) : Calls Tryz.prog 57 #[.slice a 0 cap] w (fun e w' => e = .returned (.tuple #[]) ∧ w = w') :=
 (Any.slices_Sort_int_none lays189 a cap w).mono fun _e _w' ⟨he, hw⟩ => ⟨he, hw.symm⟩
end Go.Proofs.YtneeknlhlkpnpaaGreat
namespace Go.Proofs.YtneeknlhlkpnpaaGreat
open Go.RowKit
def IdxIPost (p : Int → Bool) (l : List Int) (B : Nat) (w : World) (e : Ending) (w' : World) : Prop :=
 ∃ r : Int, e = .returned (.int .i64 r) ∧ Below B w w' ∧ (r = -1 ∧ (∀ i, i < l.length → p (l.getD i 0) = false) ∨ ∃ k : Nat, r = k ∧ k < l.length ∧ p (l.getD k 0) = true ∧ ∀ i, i < k → p (l.getD i 0) = false)
set_option maxHeartbeats 1000000 in
theorem idxI_any (B : Nat) (A : Option Addr) (cap : Nat) (l : List Int) (fid : FuncId) (caps : Array Value) (p : Int → Bool) (w : World) (hlen : l.length ≤ 1000) (hB : B = w.heap.size) (h : Cells w B A (intCells l))
  (hcf : ∀ (u : World) (args : Array Value), (callFunc fid args).run Tryz.prog u = .ok (.enter fid args) u)
  (hcl : ∀ (i : Nat) (hi : i < l.length) (w' : World), Below B w w' → Calls Tryz.prog fid (#[.int .i64 l[i]] ++ caps) w' fun e w'' => e = .returned (.bool (p l[i])) ∧ Below w'.heap.size w' w'') :
  Calls Tryz.prog 108 #[.slice A l.length cap, .func (.func fid) #[] caps] w (IdxIPost p l B w) := by
 have H := Lib.hid h
 have Hcl := Lib.hid hcl
 have HBE := Lib.hid hB
 clear h hcl hB
 go_enter Tryz.func108, Tryz.ntmps108
 go_wp2_with fail
 go_loopg [8] l.length (fun k s8 wr => ∃ i : Nat, s8 = .int .i64 i ∧ i ≤ l.length ∧ k = l.length - i ∧ Below B w wr ∧ ∀ j, j < i → p (l.getD j 0) = false)
 case atStart => exact ⟨0, rfl, Nat.zero_le _, rfl, Below.refl _ _, fun j hj => absurd hj (by omega)⟩
 case round =>
  obtain ⟨i, rfl, hi, hk, hbw, hf⟩ := hrel
  have Hk := Lib.hid hk
  have Hf := Lib.hid hf
  have HB := Lib.hid hbw
  clear hk hf hbw
  by_cases hlt : i < l.length
  ·have hlt' : (i : Int) < l.length := by omega
   obtain ⟨b, off, rfl, hb, hc⟩ := H.out.ints (by omega)
   have e0 := (HB.out.cell (p := ⟨b, off + i, none⟩) (by show b < B; exact hb)).trans (hc i hlt)
   have HV := Lib.hid (show l.getD i 0 = l[i] by rw [List.getD_eq_getElem?_getD, List.getElem?_eq_getElem hlt]; rfl)
   have HC := Lib.hid (Hcl.out i hlt wr HB.out)
   clear hc
   obtain ⟨v, hv⟩ : ∃ v, v = l[i] := ⟨_, rfl⟩
   rw [← hv] at e0 HV HC
   clear hv
   go_wp2_with fail
   refine HC.out.mono ?_
   rintro e w' ⟨rfl, hb2⟩
   have HB2 := Lib.hid (HB.out.trans (hb2.mono (by have := HB.out.size; have := HBE.out; omega)))
   clear hb2 e0 HC
   cases hp : p v with
   | true =>
    have HP := Lib.hid (show p (l.getD i 0) = true by rw [HV.out]; exact hp)
    clear hp
    go_wp2_with fail
    go_ret
    exact ⟨_, rfl, HB2.out, .inr ⟨i, rfl, hlt, HP.out, Hf.out⟩⟩
   | false =>
    have HP := Lib.hid (show p (l.getD i 0) = false by rw [HV.out]; exact hp)
    clear hp
    go_wp2_with fail
    go_roundg (l.length - (i + 1))
    case measure => rw [Hk.out]; omega
    case rel => exact ⟨i + 1, by go_num, by omega, rfl, HB2.out, fun j hj => by
     by_cases h : j = i
     ·rw [h]; exact HP.out
     ·exact Hf.out j (by omega)⟩
  ·have hlt' : ¬ (i : Int) < l.length := by omega
   go_wp2_with fail
   go_ret
   exact ⟨_, rfl, HB.out, .inl ⟨rfl, fun j hj => Hf.out j (by omega)⟩⟩
end Go.Proofs.YtneeknlhlkpnpaaGreat
namespace Go.Proofs.YtneeknlhlkpnpaaGreat
open Go.RowKit
section
variable {n : Int} {es : List (Int × Int)} {rs : List (List Int)}
end
end Go.Proofs.YtneeknlhlkpnpaaGreat
namespace Go.Proofs.YtneeknlhlkpnpaaGreat
open Go.RowKit
section
variable {tb : Nat → Bool} {ci : Nat → Nat}
end
end Go.Proofs.YtneeknlhlkpnpaaGreat
namespace Go.Proofs.YtneeknlhlkpnpaaGreat
open Go.RowKit
end Go.Proofs.YtneeknlhlkpnpaaGreat
namespace Go.Proofs.YtneeknlhlkpnpaaGreat
open Go.RowKit
end Go.Proofs.YtneeknlhlkpnpaaGreat
namespace Go.Proofs.YtneeknlhlkpnpaaGreat
open Go.RowKit
end Go.Proofs.YtneeknlhlkpnpaaGreat
