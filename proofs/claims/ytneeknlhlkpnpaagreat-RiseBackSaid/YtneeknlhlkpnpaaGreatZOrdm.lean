import Derived.Test.YtneeknlhlkpnpaaGreatZVw
import Derived.Test.YtneeknlhlkpnpaaGreatZEul
import Derived.Test.YtneeknlhlkpnpaaGreatZGol
/-
 The order of all vertices is told just where the edges rise along something (plain law). Written by an AI agent.
-/
namespace Go.Proofs.YtneeknlhlkpnpaaGreat
open Go.RowKit
theorem Zl{α β : Type}{f : α → β}{l:List α}(h:l.Nodup)(hf:∀a∈l,∀b∈l,f a=f b→a=b):(l.map f).Nodup:=
 List.pairwise_map.2 (h.imp_of_mem fun ha hb hne e=>hne (hf _ ha _ hb e))
section
variable {es:List (Int×Int)}
theorem ew{N:Nat}:∀(f:Nat) (out:List Int),kC es N (YR es N f out)=none∨(YR es N f out).length=out.length+f
 | 0,_=>.inr rfl
 | f+1,out=>by
  unfold YR
  cases hx:kC es N out with
  | none=>exact .inl hx
  | some x=>
   rcases ew (N:=N) f (out++[(x:Int)]) with h | h
   ·exact .inl h
   ·right
    simp only;rw [h];simp;omega
theorem uN:∀ {l l':List Int},l.Nodup→(∀a∈l,a∈l')→l.length≤l'.length
 | [],_,_,_=>Nat.zero_le _
 | a::l,l',h,hs=>by
  obtain ⟨h1,h2⟩:=List.nodup_cons.1 h;have ha:=hs a (by simp);have:=uN (l':=l'.erase a) h2 fun b hb=>(List.mem_erase_of_ne (fun e=>h1 (by rw [←e];exact hb))).2 (hs b (by simp [hb]));rw [List.length_erase_of_mem ha] at this;have hp:=List.length_pos_of_mem ha;rw [List.length_cons];omega
theorem dI{N:Nat}{out:List Int}(h:∀x,x<N→(x:Int)∈out):N≤out.length:=by
 have h1:((List.range N).map fun x:Nat=>(x:Int)).Nodup:=Zl List.nodup_range fun a _ b _ e=>by omega
 have h2:=uN h1 (l':=out) fun a ha=>by
  obtain ⟨x,hx,rfl⟩:=List.mem_map.1 ha;exact h x (List.mem_range.1 hx)
 simpa using h2
theorem xt{N:Nat}(hin:InN N es)(h:kO N es=true):∃L:Nat→Nat,∀e∈es,L e.1.toNat<L e.2.toNat:=by
 unfold kO at h;rw [decide_eq_true_eq] at h;have hl:=mm (show XE N es from hin) h;refine ⟨fun v=>((re N es).getD v 0).toNat,fun e he=>?_⟩;have h1:=hl.up e he;have h2:=hl.nn e.1.toNat;simp only at h1 h2 ⊢;omega
end
end Go.Proofs.YtneeknlhlkpnpaaGreat
