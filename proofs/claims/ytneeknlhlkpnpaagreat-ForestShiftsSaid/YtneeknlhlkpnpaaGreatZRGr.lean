import Derived.Test.YtneeknlhlkpnpaaGreatZRPl
import Derived.Test.YtneeknlhlkpnpaaGreatZAsg
import Derived.Test.YtneeknlhlkpnpaaGreatZAng1
import Derived.Test.YtneeknlhlkpnpaaGreatZRRun
import Derived.Test.YtneeknlhlkpnpaaGreatZOuts
import Derived.Test.YtneeknlhlkpnpaaGreatZWeb
/-
 rise.tips, rise.rooms. Written by an AI agent.
-/
namespace Go.Proofs.YtneeknlhlkpnpaaGreat
open Go.RowKit
/-- is x a source or a sink, with edges? -/
def zD(es:List (Int×Int))(x:Nat):Bool:=(decide ((jK es Prod.snd x es.length).length=0)) != (decide ((jK es Prod.fst x es.length).length=0))
end Go.Proofs.YtneeknlhlkpnpaaGreat
/-
 rise.Great. Written by an AI agent.
-/
namespace Go.Proofs.YtneeknlhlkpnpaaGreat
open Go.RowKit
/-- the last half edge of a vertex's list -/
def Jh(rs:List (List Int))(x:Nat):Int:=(rs.getD x []).getD ((rs.getD x []).length-1) 0
def Kr(es:List (Int×Int))(rs:List (List Int))(x:Nat):Int:=if zD es x=true then Jh rs x else -1
/-- the first i great angles -/
def ZL(es:List (Int×Int))(rs:List (List Int))(i:Nat):List Int:=(List.range i).map (Kr es rs)
/-- the outer face, told by the first i vertices -/
def fZ(n:Int)(es:List (Int×Int))(rs:List (List Int)):Nat→Int
 | 0=>0
 | k+1=>if zD es k=true∧(Jh rs k).toNat%2=0 then ((jT n es rs (Jh rs k).toNat:Nat):Int) else fZ n es rs k
theorem Wt(es:List (Int×Int))(rs:List (List Int))(i:Nat):(ZL es rs i).length=i:=by simp [ZL]
/-- a vertex with edges has a list -/
theorem pV{n:Int}{es:List (Int×Int)}{rs:List (List Int)}(hP:RightP n es rs){x:Nat}(ht:zD es x=true):x<rs.length∧0<(rs.getD x []).length ∧ ∃h:Nat,Jh rs x=h∧h<2*es.length∧vtx es h=x:=by
 have hin:=ya hP
 have key:∃h,h<2*es.length∧vtx es h=x:=by
  unfold zD at ht;by_cases h1:(jK es Prod.snd (x:Nat) es.length).length=0
  ·have h2:(jK es Prod.fst (x:Nat) es.length).length≠0:=fun e=>by rw [h1,e] at ht;simp at ht
   obtain ⟨a,ha⟩:=List.exists_mem_of_length_pos (Nat.pos_of_ne_zero h2);obtain ⟨i,_,hi,he⟩:=qs.1 ha;obtain ⟨h3,_,_⟩:=xB hin hi;refine ⟨2*i,by omega,?_⟩;have e:es.getD i (0,0)=es[i]:=by rw [List.getD_eq_getElem?_getD,List.getElem?_eq_getElem hi];rfl
   rw [e,h3] at he;simp only at he;omega
  ·obtain ⟨a,ha⟩:=List.exists_mem_of_length_pos (Nat.pos_of_ne_zero h1);obtain ⟨i,_,hi,he⟩:=qs.1 ha;obtain ⟨h3,_,_⟩:=xB hin hi;refine ⟨2*i+1,by omega,?_⟩;have e:es.getD i (0,0)=es[i]:=by rw [List.getD_eq_getElem?_getD,List.getElem?_eq_getElem hi];rfl
   rw [e,h3] at he;simp only at he;omega
 obtain ⟨h,hh,hv⟩:=key;obtain ⟨y,i,hy,hi,_,hv2⟩:=hP.pos hh;have hxy:y=x:=by rw [←hv,←hv2]
 subst hxy;have eg:rs.getD y []=rs[y]:=by rw [List.getD_eq_getElem?_getD,List.getElem?_eq_getElem hy];rfl
 refine ⟨hy,by rw [eg];omega,?_⟩;obtain ⟨d,h1,h2,h3⟩:=hP.nat hy (i:=rs[y].length-1) (by omega);refine ⟨d,?_,h2,h3⟩;unfold Jh;rw [eg,List.getD_eq_getElem?_getD,List.getElem?_eq_getElem (by omega),Option.getD_some];exact h1
end Go.Proofs.YtneeknlhlkpnpaaGreat
/-
 rise.Fits. (Printed by fitsgen.py.) Written by an AI agent.
-/
namespace Go.Proofs.YtneeknlhlkpnpaaGreat
open Go.RowKit
def nz(x:Int):Bool:=x != 0
/-- the great angle of x takes a place of its face; none: it isn't x's own -/
def Qu(n:Int)(es:List (Int×Int))(rs:List (List Int))(great:List Int)(st:Option (List Int))(x:Nat):Option (List Int):=
 match st with
 | none=>none
 | some room=>if zD es x=true then (if 0≤great.getD x 0∧great.getD x 0<((2*es.length:Nat):Int)∧vtx es (great.getD x 0).toNat=x then some (room.set (jT n es rs (great.getD x 0).toNat) (room.getD (jT n es rs (great.getD x 0).toNat) 0-1)) else none)
  else if great.getD x 0 = -1 then some room else none
def ZG(n:Int)(es:List (Int×Int))(rs:List (List Int))(great:List Int)(room:List Int)(k:Nat):Option (List Int):=(List.range k).foldl (Qu n es rs great) (some room)
noncomputable def xD(n:Int)(es:List (Int×Int))(rs:List (List Int))(outer:Int)(great:List Int):Bool:=
 if (jo n es rs).length=0 then decide (outer=0)&&decide (great.getD 0 0 = -1) else
  if 0≤outer∧outer<((jo n es rs).length:Int) then (match ZG n es rs great (vr n es rs outer.toNat) rs.length with | none=>false | some room=>!room.any nz) else false
/-- do great angles fit? -/
noncomputable def YO(n:Int)(es:List (Int×Int))(rs:List (List Int))(outer:Int)(great:List Int):Bool:=
 uD n es&&((xp n es rs&&VU rs)&&(decide ((great.length:Int)=n)&&xD n es rs outer great))
section
variable {n:Int}{es:List (Int×Int)}{rs:List (List Int)}{great room:List Int}
theorem Ul{k:Nat}:ZG n es rs great room (k+1)=Qu n es rs great (ZG n es rs great room k) k:=by
 unfold ZG;rw [List.range_succ,List.foldl_append];rfl
end
end Go.Proofs.YtneeknlhlkpnpaaGreat
/-
 rise.Fits. (Printed by fitsgen.py.) Written by an AI agent.
-/
namespace Go.Proofs.YtneeknlhlkpnpaaGreat
open Go.RowKit
end Go.Proofs.YtneeknlhlkpnpaaGreat
