import Derived.Test.YtneeknlhlkpnpaaGreatZEul
import Derived.Test.YtneeknlhlkpnpaaGreatZFrm
import Derived.Test.YtneeknlhlkpnpaaGreatZEulL
/-
 Plain law: lists begun elsewhere. Written by an AI agent.
-/
namespace Go.Proofs.YtneeknlhlkpnpaaGreat
open Go.RowKit
theorem Jp{l:List Int}{i k:Nat}(hi:i<l.length)(hk:k<l.length):(rot l i)[k]'(by rw [qG];exact hk)=l[(i+k)%l.length]'(Nat.mod_lt _ (by omega)):=by
 unfold rot;rw [List.getElem_append];by_cases h:k<(l.drop i).length
 ·rw [dif_pos h,List.getElem_drop];have h2:i+k<l.length:=by rw [List.length_drop] at h;omega
  simp only [Nat.mod_eq_of_lt h2]
 ·rw [dif_neg h,List.getElem_take]
  have h2:(i+k)%l.length=k-(l.drop i).length:=by
   rw [List.length_drop] at h ⊢;rw [show i+k=(k-(l.length-i))+l.length by omega,Nat.add_mod_right];exact Nat.mod_eq_of_lt (by omega)
  simp only [h2]
/-- where nothing of one kind stands behind one of the other, one kind comes first -/
theorem uJ{l:List Int}{i:Nat}(h:l.length≤i):rot l i=l:=by
 unfold rot;rw [List.drop_eq_nil_of_le h,List.take_of_length_le h,List.nil_append]
theorem xY(l:List Int):rot l 0=l:=by unfold rot;simp
/-- rows begun elsewhere -/
theorem nu(l:List Int)(i:Nat):∃j,rot (rot l i) j=l:=by
 by_cases hi:i≤l.length
 ·refine ⟨l.length-i,?_⟩;unfold rot;have h1:(l.drop i).length=l.length-i:=List.length_drop;rw [List.drop_left' h1,List.take_left' h1,List.take_append_drop]
 ·exact ⟨0,by rw [xY,uJ (by omega)]⟩
theorem rd(l:List Int)(i j:Nat):∃k,rot (rot l i) j=rot l k:=by
 by_cases hl:l.length=0
 ·have:=List.length_eq_zero_iff.1 hl;subst this;exact ⟨0,by unfold rot;simp⟩
 have red:∀(l:List Int) (i:Nat),0<l.length → ∃i',i'<l.length∧rot l i=rot l i':=fun l i h0=>by
  by_cases hi:i<l.length
  ·exact ⟨i,hi,rfl⟩
  ·exact ⟨0,h0,by rw [uJ (by omega),xY]⟩
 obtain ⟨i',hi,e1⟩:=red l i (by omega);obtain ⟨j',hj,e2⟩:=red (rot l i) j (by rw [qG];omega);rw [e2,e1];rw [qG] at hj;refine ⟨(i'+j')%l.length,?_⟩;have hm:(i'+j')%l.length<l.length:=Nat.mod_lt _ (by omega);apply List.ext_getElem
 ·rw [qG,qG,qG]
 ·intro k h1 h2;rw [qG,qG] at h1;rw [Jp (by rw [qG];exact hj) (by rw [qG];exact h1),Jp hm h1,Jp hi (by rw [qG];exact Nat.mod_lt _ (by omega))]
  have e:(i'+(j'+k)%(rot l i').length)%l.length=((i'+j')%l.length+k)%l.length:=by
   rw [qG,Nat.add_mod,Nat.mod_mod,←Nat.add_mod,Nat.add_mod ((i'+j')%l.length),Nat.mod_mod,←Nat.add_mod,Nat.add_assoc]
  simp only [e]
theorem VC{l:List Int}{i:Nat}{a:Int}:a∈rot l i↔a∈l:=by
 unfold rot
 conv=>rhs;rw [←List.take_append_drop i l]
 rw [List.mem_append,List.mem_append,or_comm]
theorem ib{α : Int→Int}(l:List Int)(i:Nat):rot (l.map α) i=(rot l i).map α :=by
 unfold rot;rw [List.map_append,List.map_drop,List.map_take]
theorem nr(l:List Int)(i:Nat):(rot l i).Perm l:=by
 unfold rot;have:=List.perm_append_comm (l₁ :=l.drop i) (l₂ :=l.take i);rw [List.take_append_drop] at this;exact this
theorem ia{l:List Int}(i:Nat)(h0:0<l.length):∃i',i'<l.length∧rot l i=rot l i':=by
 by_cases hi:i<l.length
 ·exact ⟨i,hi,rfl⟩
 ·exact ⟨0,h0,by rw [uJ (by omega),xY]⟩
theorem dg{l:List Int}{i:Nat}(hi:i<l.length):(rot l i).getLast? = some (l[(i+(l.length-1))%l.length]'(Nat.mod_lt _ (by omega))):=by
 rw [List.getLast?_eq_getElem?,List.getElem?_eq_getElem (by rw [qG];omega)];congr 1;have e:(rot l i).length-1=l.length-1:=by rw [qG]
 simp only [e];exact Jp hi (by omega)
/-- a list begun elsewhere is told by its last one -/
theorem re{l:List Int}(hn:l.Nodup){i j:Nat}{z:Int}(h1:(rot l i).getLast? = some z)(h2:(rot l j).getLast? = some z):rot l i=rot l j:=by
 have h0:0<l.length:=by
  apply Nat.pos_of_ne_zero;intro e;have:=List.length_eq_zero_iff.1 e;subst this;unfold rot at h1;simp at h1
 obtain ⟨i',hi,e1⟩:=ia (l:=l) i h0;obtain ⟨j',hj,e2⟩:=ia (l:=l) j h0;rw [e1,dg hi] at h1;rw [e2,dg hj] at h2;have h3:=xZ hn (Nat.mod_lt _ (by omega)) (Nat.mod_lt _ (by omega)) ((Option.some.inj h1).trans (Option.some.inj h2).symm)
 have h4:i'=j':=by
  have red:∀a,a<l.length→(a+(l.length-1))%l.length=if a=0 then l.length-1 else a-1:=fun a ha=>by
   by_cases h:a=0
   ·rw [if_pos h,h,Nat.zero_add,Nat.mod_eq_of_lt (by omega)]
   ·rw [if_neg h,show a+(l.length-1)=a-1+l.length by omega,Nat.add_mod_right,Nat.mod_eq_of_lt (by omega)]
  rw [red _ hi,red _ hj] at h3
  split at h3<;>split at h3<;>omega
 rw [e1,e2,h4]
end Go.Proofs.YtneeknlhlkpnpaaGreat
/-
 Plain law: a vertex' list, begun so that ups come first, from left to right, then downs; at sources and sinks the great half is the last one. Written by an AI agent.
-/
namespace Go.Proofs.YtneeknlhlkpnpaaGreat
open Go.RowKit
theorem cZ{α : Type}(p : α → Bool):∀l:List α,(∀k (h:k+1<l.length),p l[k]=false→p l[k+1]=false) → ∃A B,l=A++B∧(∀a∈A,p a=true) ∧ ∀b∈B,p b=false
 | [],_=>⟨[],[],rfl,by simp,by simp⟩
 | x::l,h=>by
  have hl:∀k (h':k+1<l.length),p l[k]=false→p l[k+1]=false:=fun k hk=>h (k+1) (by simpa using hk)
  cases hx:p x with
  | true=>
   obtain ⟨A,B,e,hA,hB⟩:=cZ p l hl;refine ⟨x::A,B,by rw [e];rfl,fun a ha=>?_,hB⟩;rcases List.mem_cons.1 ha with rfl | ha
   ·exact hx
   ·exact hA a ha
  | false=>
   refine ⟨[],x::l,rfl,by simp,?_⟩
   have key:∀k (hk:k<(x::l).length),p (x::l)[k]=false:=by
    intro k
    induction k with
    | zero=>intro _;exact hx
    | succ k ih=>intro hk;exact h k hk (ih (by omega))
   intro b hb;obtain ⟨k,hk,rfl⟩:=List.getElem_of_mem hb;exact key k hk
section
variable {N:Nat}{es:List (Int×Int)}{rs:List (List Int)}{o s:Nat}{gr:Nat→Nat}
/-- a vertex' list: its ups from left to right, its downs from right to left -/
structure NormR(es:List (Int×Int))(rs:List (List Int))(gr:Nat→Nat)(w:Nat)(D:List Nat)(P Q:List Nat):Prop where
 turned:∃i,rot (rs.getD w []) i=D.map fun d:Nat=>(d:Int)
 parts:D=P.map (fun a=>2*a)++Q.reverse.map fun a=>2*a+1
 nd:D.Nodup
 mem:∀d,d∈D↔d<2*es.length∧vtx es d=w
 next:∀k (h:k+1<D.length),sig es rs (D[k]'(by omega))=D[k+1]
 wrap:∀h:0<D.length,sig es rs (D[D.length-1]'(by omega))=D[0]
 great:zD es w=true→D.getLast? = some (gr w)
/-- a vertex' list begun behind g -/
theorem rC(hR:RightP N es rs)(hb:VU rs=true){g w:Nat}(hg:g<2*es.length)(hgv:vtx es g=w)(hg2:zI es w→qe es w→ev g=false∧ev (sig es rs g)=true):∃D P Q,NormR es rs (fun _=>g) w D P Q:=by
 obtain ⟨y,j,hy,hj,hjd,hyv⟩:=hR.pos hg;have:y=w:=by rw [←hyv,hgv]
 subst this;have eg:rs.getD y []=rs[y]:=by rw [List.getD_eq_getElem?_getD,List.getElem?_eq_getElem hy];rfl
 -- the list begun behind it
 obtain ⟨i,hi⟩:∃i,i=(j+1)%rs[y].length:=⟨_,rfl⟩;have hil:i<rs[y].length:=by rw [hi];exact Nat.mod_lt _ (by omega)
 obtain ⟨D,hD⟩:∃D,D=(rot rs[y] i).map Int.toNat:=⟨_,rfl⟩;have hDl:D.length=rs[y].length:=by rw [hD,List.length_map,qG]
 have hget:∀k (hk:k<D.length),rs[y][(i+k)%rs[y].length]'(Nat.mod_lt _ (by omega))=(D[k]:Int)∧D[k]<2*es.length∧vtx es D[k]=y:=fun k hk=>by
  have hk':k<rs[y].length:=by omega
  obtain ⟨d,h1,h2,h3⟩:=hR.nat hy (i:=(i+k)%rs[y].length) (Nat.mod_lt _ (by omega))
  have e:D[k]=d:=by
   simp only [hD,List.getElem_map];rw [Jp hil hk',h1];rfl
  rw [e];exact ⟨h1,h2,h3⟩
 have hsig:∀k (hk:k<D.length),sig es rs D[k]=(rs[y][(i+k+1)%rs[y].length]'(Nat.mod_lt _ (by omega))).toNat:=fun k hk=>by
  have h1:=(hget k hk).1;have h2:=UX hR hy (Nat.mod_lt _ (by omega)) h1;rw [h2];have e:((i+k)%rs[y].length+1)%rs[y].length=(i+k+1)%rs[y].length:=by rw [Nat.add_mod ((i+k)) 1,Nat.add_mod ((i+k)%rs[y].length) 1,Nat.mod_mod]
  simp only [e]
 have hnext:∀k (h:k+1<D.length),sig es rs (D[k]'(by omega))=D[k+1]:=fun k h=>by
  rw [hsig k (by omega)];have h1:=(hget (k+1) h).1;have e:i+k+1=i+(k+1):=by omega
  simp only [e,h1];rfl
 have hwrap:∀h:0<D.length,sig es rs (D[D.length-1]'(by omega))=D[0]:=fun h=>by
  rw [hsig _ (by omega)];have h1:=(hget 0 h).1
  have e:(i+(D.length-1)+1)%rs[y].length=(i+0)%rs[y].length:=by
   rw [show i+(D.length-1)+1=i+rs[y].length by omega,Nat.add_mod_right];rfl
  simp only [e,h1];rfl
 have hlast:∀h:0<D.length,D[D.length-1]'(by omega)=g:=fun h=>by
  have h1:=(hget (D.length-1) (by omega)).1
  have e:(i+(D.length-1))%rs[y].length=j:=by
   rw [hi];by_cases h2:j+1=rs[y].length
   ·rw [h2,Nat.mod_self,hDl,Nat.mod_eq_of_lt (by omega)];omega
   ·rw [Nat.mod_eq_of_lt (show j+1<rs[y].length by omega),hDl,show j+1+(rs[y].length-1)=j+rs[y].length by omega,Nat.add_mod_right,Nat.mod_eq_of_lt hj]
  simp only [e,hjd] at h1;omega
 have hpos:0<D.length:=by omega
 have hmap:(D.map fun d:Nat=>(d:Int))=rot rs[y] i:=by
  apply List.ext_getElem
  ·rw [List.length_map,hDl,qG]
  ·intro k h1 h2;rw [List.length_map] at h1;rw [List.getElem_map,Jp hil (by omega),(hget k h1).1]
 have hndD:D.Nodup:=by
  have h1:(rot rs[y] i).Nodup:=by
   unfold rot;have:=hR.nd y hy;rw [←List.take_append_drop i rs[y]] at this;exact (List.perm_append_comm.nodup_iff).1 this
  rw [←hmap] at h1;rw [List.nodup_iff_pairwise_ne,List.pairwise_map] at h1;rw [List.nodup_iff_pairwise_ne];exact h1.imp fun h e=>h (by rw [e])
 have hmemD:∀d,d∈D↔d<2*es.length∧vtx es d=y:=fun d=>by
  constructor
  ·intro h;obtain ⟨k,hk,rfl⟩:=List.getElem_of_mem h;exact ⟨(hget k hk).2.1,(hget k hk).2.2⟩
  ·rintro ⟨h1,h2⟩;obtain ⟨x,t,hx,ht,e,hv⟩:=hR.pos h1;have:x=y:=by rw [←hv,h2]
   subst this
   have hm:(d:Int)∈rot rs[x] i:=by
    have h3:(d:Int)∈rs[x]:=by rw [←e];exact List.getElem_mem _
    unfold rot;rw [←List.take_append_drop i rs[x]] at h3;exact List.mem_append.2 (List.mem_append.1 h3).symm
   rw [←hmap] at hm;obtain ⟨d',h3,h4⟩:=List.mem_map.1 hm;rw [show d=d' by omega];exact h3
 have hstep:∀k (h:k+1<D.length),ev D[k]=false→ev D[k+1]=false:=fun k hk h1=>by
  have hdk:=(hmemD D[k]).1 (List.getElem_mem _);have hdk1:=(hmemD D[k+1]).1 (List.getElem_mem _)
  cases h2:ev D[k+1] with
  | false=>rfl
  | true=>
   exfalso;have hodd:zI es y:=⟨D[k],hdk.1,hdk.2,h1⟩;have heven:qe es y:=⟨D[k+1],hdk1.1,hdk1.2,h2⟩;obtain ⟨q1,q2⟩:=hg2 hodd heven
   have hkg:D[k]≠g:=fun e=>by
    have:=xZ hndD (i:=k) (j:=D.length-1) (by omega) (by omega) (by rw [e,hlast hpos]);omega
   have h3:=(VJ hR).1 hb y hy;rw [Xg hR] at h3;unfold Je at h3;have h4:=yJ (p:=fun d=>decide (vtx es d=y)&&(!ev d&&ev (sig es rs d))) (q:=fun d=>(decide (vtx es d=y)&&(!ev d&&ev (sig es rs d))) && !decide (d=g)) (m:=g) (by rw [hgv,q1,q2];simp) (fun _=>rfl) (2*es.length);rw [if_pos hg] at h4;have h5:0<(List.range (2*es.length)).countP fun d=>(decide (vtx es d=y)&&(!ev d&&ev (sig es rs d))) && !decide (d=g):=List.countP_pos_iff.2 ⟨D[k],List.mem_range.2 hdk.1,by rw [hdk.2,h1,hnext k hk,h2,decide_eq_false hkg];simp⟩;omega
 obtain ⟨A,B,e,hA,hB⟩:=cZ ev D hstep;refine ⟨D,A.map (· / 2),(B.map (· / 2)).reverse,⟨⟨i,by rw [eg];exact hmap.symm⟩,?_,hndD,hmemD,hnext,hwrap,fun ht=>?_⟩⟩
 ·rw [List.reverse_reverse,List.map_map,List.map_map]
  have e1:A.map ((fun a=>2*a) ∘ fun x=>x/2)=A:=by
   conv=>rhs;rw [←List.map_id A]
   apply List.map_congr_left;intro a ha;have:=hA a ha;have:a%2=0:=by unfold ev at this;simpa using this
   show 2*(a/2)=a
   omega
  have e2:B.map ((fun a=>2*a+1) ∘ fun x=>x/2)=B:=by
   conv=>rhs;rw [←List.map_id B]
   apply List.map_congr_left;intro a ha;have:=hB a ha;have:a%2=1:=by unfold ev at this;simpa using this
   show 2*(a/2)+1=a
   omega
  rw [e1,e2,←e]
 ·rw [List.getLast?_eq_getElem?,List.getElem?_eq_getElem (by omega),hlast hpos]
theorem nL(hf:FitT N es rs o s gr){w:Nat}(hw:w<N):∃D P Q,NormR es rs gr w D P Q:=by
 have hR:=hf.right
 -- the half the list is to end with
 have hend:∃g,g<2*es.length∧vtx es g=w∧(zD es w=true→g=gr w)∧(zD es w=false→ev g=false∧ev (sig es rs g)=true):=by
  cases ht:zD es w with
  | true=>
   obtain ⟨g1,g2⟩:=hf.tip w hw ht;exact ⟨gr w,g1,g2,fun _=>rfl,(fun h=>by cases h)⟩
  | false=>
   have hws:w≠s:=fun e=>by rw [e,hf.srcG.1] at ht;cases ht
   have he:qe es w:=Classical.byContradiction fun hno=>by rw [(hf.tip_even hw hws).2 hno] at ht;cases ht
   have h1:=(UB hR w).2 ⟨hf.odd_at hw hws,he⟩;unfold Je at h1;obtain ⟨g,hg,hp⟩:=List.countP_pos_iff.1 h1;simp only [Bool.and_eq_true,decide_eq_true_eq,Bool.not_eq_true'] at hp;exact ⟨g,List.mem_range.1 hg,hp.1,(fun h=>by cases h),fun _=>hp.2⟩
 obtain ⟨g,hg,hgv,hg1,hg2⟩:=hend
 obtain ⟨D,P,Q,hN⟩:=rC hR hf.bim hg hgv fun hodd heven=>by
  have hys:w≠s:=fun e=>by
   obtain ⟨z,hz,hzv,hzo⟩:=hodd;have hz2:z%2=1:=by unfold ev at hzo;simpa using hzo
   have h3:=vn hf.inN (i:=z/2) (by omega);rw [show 2*(z/2)+1=z by omega,hzv,e] at h3;exact yN.1 hf.sin (z/2) (by omega) h3.symm
  refine hg2 ?_
  cases hq:zD es w with
  | false=>rfl
  | true=>exact absurd heven ((hf.tip_even hw hys).1 hq)
 exact ⟨D,P,Q,hN.turned,hN.parts,hN.nd,hN.mem,hN.next,hN.wrap,fun ht=>by
  have h2:D.getLast? = some g:=hN.great ht
  rw [h2,hg1 ht]⟩
end
end Go.Proofs.YtneeknlhlkpnpaaGreat
/-
 Plain law: a row split at two gaps of one face: the two arcs hang together no more. Written by an AI agent.
-/
namespace Go.Proofs.YtneeknlhlkpnpaaGreat
open Go.RowKit
section
variable {N:Nat}{es:List (Int×Int)}{rs:List (List Int)}{o s:Nat}{gr:Nat→Nat}{pl:Nat→Prop}{ρ : List Nat}
/-- what hangs together by a permutation and the pairs, from the unplaced vertices down -/
theorem dp{s':Nat→Nat}(hu:∀d,¬pl (vtx es d)→s' d=sig es rs d):∀d,d<2*es.length → ¬pl (vtx es d)→ppR s' es.length d (sig es rs d):=fun d _ h=>vC ⟨1,by show s' d=_;exact hu d h⟩ _
/-- the contracted map is plane: labels tell its vertices and faces -/
theorem tx(hf:FitT N es rs o s gr)(hc:Cut N es rs o s pl ρ)(hne : ρ ≠ []) :
  (∀d e,d<2*es.length→e<2*es.length→VT N es pl d=VT N es pl e→Orb (sP es rs pl ρ) d e)∧(∀d e,d<2*es.length→e<2*es.length→aY N es rs pl d=aY N es rs pl e→Orb (ppk (sP es rs pl ρ) es.length) d e) ∧
  es.length+2*(1+YP es pl)≤cls (Orb (sP es rs pl ρ)) (2*es.length)+cls (Orb (ppk (sP es rs pl ρ) es.length)) (2*es.length):=by
 have hP:=gX hf.right hc;have hPP:=xC hP es.length (Nat.le_refl _);have hE:=kD hP es.length (Nat.le_refl _);have hpair:∀i,i<es.length→ppR (sP es rs pl ρ) es.length (2*i) (2*i+1):=fun i hi=>kG hP _ (Nat.le_refl _) hi;have hlen:0 < ρ.length:=List.length_pos_iff.2 hne;have hz:2 * ρ[0]<2*es.length:=by have:=(qr hc (List.getElem_mem hlen)).2.2;omega
 have hparts:cls (ppR (sP es rs pl ρ) es.length) (2*es.length)≤1+YP es pl:=by
  refine dn hE hpair hz fun d hd hn=>?_;obtain ⟨a,ha,ht⟩:=gC hf hc hE (dp fun d h=>ZC h) hpair d hd hn;obtain ⟨i,hi,rfl⟩:=List.getElem_of_mem ha;have hb:2 * ρ[i]<2*es.length:=by have:=(qr hc ha).2.2;omega
  exact hE.trans _ _ _ hz hb hd (vC (hZ hc i hi) _) (hE.symm _ _ hd hb ht)
 have hl:=ag hf hc.src;obtain ⟨h1,h2⟩:=cM hP (fun d hd=>Gr hf.right hc hd) (fun d hd=>Gt hf.right hc hd) XI (Kb hf) (WM hf hc hne) (GG hf hc hne) (by omega);refine ⟨h1,h2,?_⟩;have k1:=xI (xm hP (fun d hd=>Gr hf.right hc hd)) XI (WM hf hc hne);have k2:=xI (xm hPP (v:=aY N es rs pl) (fun d hd=>by rw [Ye hP d hd];exact Gt hf.right hc hd)) (Kb hf) (GG hf hc hne);omega
/-- the map split at the gaps behind a and behind p -/
noncomputable def sS(es:List (Int×Int))(rs:List (List Int))(pl:Nat→Prop)(ρ : List Nat)(a p:Nat)(z:Nat):Nat:=sP es rs pl ρ (swp (2*a) (2*p) z)
theorem sO{x y z:Nat}:ot (swp x y z)=swp (ot x) (ot y) (ot z):=by
 unfold swp;by_cases h1:z=x
 ·rw [if_pos h1,if_pos (by rw [h1])]
 ·rw [if_neg h1,if_neg (fun e=>h1 (bm e))];by_cases h2:z=y
  ·rw [if_pos h2,if_pos (by rw [h2])]
  ·rw [if_neg h2,if_neg (fun e=>h2 (bm e))]
theorem XK(hf:FitT N es rs o s gr)(hc:Cut N es rs o s pl ρ){a p:Nat}(ha:a ∈ ρ)(hp:p ∈ ρ)(hap:a≠p)(hfe:jT N es rs (ot (2*a+1))=jT N es rs (ot (2*p+1))) :
  Perm (2*es.length) (sS es rs pl ρ a p) ∧ ¬ppR (sS es rs pl ρ a p) es.length (2*a) (2*p) ∧ ∀b ∈ ρ,Orb (sS es rs pl ρ a p) (2*b) (2*a)∨Orb (sS es rs pl ρ a p) (2*b) (2*p):=by
 have hne : ρ ≠ []:=List.ne_nil_of_mem ha;have hP:=gX hf.right hc;have hPP:=xC hP es.length (Nat.le_refl _);obtain ⟨q1,q2,q3⟩:=tx hf hc hne;obtain ⟨a1,a2,a3⟩:=qr hc ha;obtain ⟨p1,p2,p3⟩:=qr hc hp;have hS:Perm (2*es.length) (sS es rs pl ρ a p):=hP.swp (by omega) (by omega);have hSS:=xC hS es.length (Nat.le_refl _);have hE:=kD hS es.length (Nat.le_refl _);have o1:Orb (sP es rs pl ρ) (2*a) (2*p):=q1 _ _ (by omega) (by omega) (by rw [kF a1 a2,kF p1 p2]);have n1:¬yV es pl (2*a+1):=fun h=>a1 (by have:=(YM (es:=es) (pl:=pl) (2*a+1)).2 h;rwa [uR] at this);have n2:¬yV es pl (2*p+1):=fun h=>p1 (by have:=(YM (es:=es) (pl:=pl) (2*p+1)).2 h;rwa [uR] at this);have o2:Orb (ppk (sP es rs pl ρ) es.length) (2*a+1) (2*p+1):=q2 _ _ (by omega) (by omega) (by rw [xi n1,xi n2,hfe]);have c1:cls (Orb (sS es rs pl ρ a p)) (2*es.length)=cls (Orb (sP es rs pl ρ)) (2*es.length)+1:=Qm hP (by omega) (by omega) (by omega) o1
 have c2:cls (Orb (ppk (sS es rs pl ρ a p) es.length)) (2*es.length)=cls (Orb (ppk (sP es rs pl ρ) es.length)) (2*es.length)+1:=by
  rw [←Qm hPP (a:=2*a+1) (b:=2*p+1) (by omega) (by omega) (by omega) o2];refine xO fun x y hx hy=>Gi hSS (fun z hz=>?_) hx;rw [Ye hS z hz]
  show sP es rs pl ρ (swp (2*a) (2*p) (ot z))=ppk (sP es rs pl ρ) es.length (swp (2*a+1) (2*p+1) z)
  rw [Ye hP _ (bd (by omega) (by omega) hz),sO,uR,uR]
 have hno:¬Orb (sS es rs pl ρ a p) (2*a) (2*p):=Gh hP (by omega) (by omega) (by omega) o1
 have hrow:∀b ∈ ρ,Orb (sS es rs pl ρ a p) (2*b) (2*a)∨Orb (sS es rs pl ρ a p) (2*b) (2*p):=fun b hb=>by
  obtain ⟨b1,b2,b3⟩:=qr hc hb;have o3:Orb (sP es rs pl ρ) (2*b) (2*a):=q1 _ _ (by omega) (by omega) (by rw [kF a1 a2,kF b1 b2]);have e:(fun z=>sS es rs pl ρ a p (swp (2*a) (2*p) z))=sP es rs pl ρ :=db _ _ _;rw [←e] at o3;rcases (Xm hS (by omega) (by omega) hno (by omega) (by omega)).1 o3 with h | ⟨h,_⟩ | ⟨h,_⟩
  ·exact .inl h
  ·exact .inl h
  ·exact .inr h
 refine ⟨hS,fun hr=>?_,hrow⟩;have hpair:∀i,i<es.length→ppR (sS es rs pl ρ a p) es.length (2*i) (2*i+1):=fun i hi=>kG hS _ (Nat.le_refl _) hi
 have hun:∀d,¬pl (vtx es d)→sS es rs pl ρ a p d=sig es rs d:=fun d h=>by
  unfold sS swp;rw [if_neg (fun e=>h (by rw [e];exact a2)),if_neg (fun e=>h (by rw [e];exact p2)),ZC h]
 have hparts:cls (ppR (sS es rs pl ρ a p) es.length) (2*es.length)≤1+YP es pl:=by
  refine dn hE hpair (z:=2*a) (by omega) fun d hd hn=>?_;obtain ⟨b,hb,ht⟩:=gC hf hc hE (dp hun) hpair d hd hn;have hb2:2*b<2*es.length:=by have:=(qr hc hb).2.2;omega
  have h3:ppR (sS es rs pl ρ a p) es.length (2*a) (2*b):=by
   rcases hrow b hb with h | h
   ·exact hE.symm _ _ hb2 (by omega) (vC h _)
   ·exact hE.trans _ _ _ (by omega) (by omega) hb2 hr (hE.symm _ _ hb2 (by omega) (vC h _))
  exact hE.trans _ _ _ (by omega) hb2 hd h3 (hE.symm _ _ hd hb2 ht)
 obtain ⟨g,hg⟩:=UY hS es.length (Nat.le_refl _);omega
end
end Go.Proofs.YtneeknlhlkpnpaaGreat
/-
 Plain law: what stands between two edges that end side by side has no outer gap. Written by an AI agent.
-/
namespace Go.Proofs.YtneeknlhlkpnpaaGreat
open Go.RowKit
theorem Xf{m:Nat}{s' g:Nat→Nat}(hs:Perm (2*m) s')(h1:∀d,d<2*m→g (s' d)=g d)(h2:∀i,i<m→g (2*i)=g (2*i+1)):∀k,k≤m → ∀x y,x<2*m→y<2*m→ppR s' k x y→g x=g y
 | 0,_,x,y,hx,hy,h=>xm hs h1 x y hx hy h
 | k+1,hk,x,y,hx,hy,h=>by
  have ih:=Xf hs h1 h2 k (by omega);have e:=h2 k (by omega);rcases h with h | ⟨h3,h4⟩ | ⟨h3,h4⟩
  ·exact ih x y hx hy h
  ·rw [ih x _ hx (by omega) h3,e,ih _ y (by omega) hy h4]
  ·rw [ih x _ hx (by omega) h3,←e,ih _ y (by omega) hy h4]
section
variable {N:Nat}{es:List (Int×Int)}{rs:List (List Int)}{o s:Nat}{gr:Nat→Nat}{pl:Nat→Prop}{ρ : List Nat}
theorem pz{a p:Nat}(hc:Cut N es rs o s pl ρ)(ha:a ∈ ρ)(hp:p ∈ ρ){d:Nat}(h:¬pl (vtx es d)):sS es rs pl ρ a p d=sig es rs d:=by
 unfold sS swp;rw [if_neg (fun e=>h (by rw [e];exact (qr hc ha).2.1)),if_neg (fun e=>h (by rw [e];exact (qr hc hp).2.1)),ZC h]
theorem bh{a p b:Nat}(hc:Cut N es rs o s pl ρ)(ha:a ∈ ρ)(hp:p ∈ ρ)(hb:b ∈ ρ):∃c ∈ ρ,sS es rs pl ρ a p (2*b)=2*nxr ρ c∧(b=a→c=p)∧(b≠a→b=p→c=a)∧(b≠a→b≠p→c=b):=by
 unfold sS swp;by_cases h1:b=a
 ·subst h1;exact ⟨p,hp,by rw [if_pos rfl,uP hc hp],fun _=>rfl,fun h=>absurd rfl h,fun h=>absurd rfl h⟩
 ·rw [if_neg (by omega)];by_cases h2:b=p
  ·subst h2;exact ⟨a,ha,by rw [if_pos rfl,uP hc ha],fun h=>absurd h h1,fun _ _=>rfl,fun _ h=>absurd rfl h⟩
  ·exact ⟨b,hb,by rw [if_neg (by omega),uP hc hb],fun h=>absurd h h1,fun _ h=>absurd h h2,fun _ _=>rfl⟩
theorem pY{a p:Nat}(hc:Cut N es rs o s pl ρ)(ha:a ∈ ρ)(hp:p ∈ ρ){d:Nat}(hd:d<2*es.length)(h:yV es pl d):sS es rs pl ρ a p d=d:=by
 unfold sS swp;rw [if_neg (fun e=>(qr hc ha).1 (by rw [←e];exact h)),if_neg (fun e=>(qr hc hp).1 (by rw [←e];exact h))];refine Jo (Js hc hd h) fun ⟨h1,h2⟩=>(qr hc h2).1 ?_
 rwa [show 2*(d/2)=d by omega]
/-- the split map keeps: dead ones apart; vertices; faces -/
theorem aJ{a p:Nat}(hf:FitT N es rs o s gr)(hc:Cut N es rs o s pl ρ)(ha:a ∈ ρ)(hp:p ∈ ρ)(hfe:jT N es rs (ot (2*a+1))=jT N es rs (ot (2*p+1))){d:Nat}(hd:d<2*es.length)(hn:¬yV es pl d) :
  ¬yV es pl (sS es rs pl ρ a p d)∧VT N es pl (sS es rs pl ρ a p d)=VT N es pl d∧jT N es rs (ot (sS es rs pl ρ a p d))=jT N es rs d:=by
 rcases Jn (es:=es) d pl ρ with h | ⟨h,b,hb,rfl⟩ | ⟨h,h2⟩
 ·rw [pz hc ha hp h];obtain ⟨k1,k2⟩:=qS hf.right hd;have n2:¬yV es pl (sig es rs d):=fun e=>h (by have:=Js hc k1 e;rwa [k2] at this);exact ⟨n2,by rw [YL n2 (by rw [k2];exact h),YL hn h,k2],vg hf.right hd⟩
 ·obtain ⟨c,hcm,e,c1,c2,c3⟩:=bh hc ha hp hb;obtain ⟨b1,b2,_⟩:=qr hc (Jq hc.nd hcm);rw [e];refine ⟨b1,by rw [kF b1 b2,kF hn h],?_⟩;rw [←hc.ring c hcm,←uR b];by_cases h1:b=a
  ·rw [c1 h1,←hfe,h1]
  ·by_cases h2:b=p
   ·rw [c2 h1 h2,hfe,h2]
   ·rw [c3 h1 h2]
 ·exact absurd (Xs hc hd h h2) hn
/-- two half edges at an unplaced vertex hang together -/
theorem rZ{s':Nat→Nat}(hR:RightP N es rs)(_hs:Perm (2*es.length) s')(hu:∀d,¬pl (vtx es d)→s' d=sig es rs d){d e:Nat}(hd:d<2*es.length)(he:e<2*es.length)(hv:vtx es d=vtx es e)(hp:¬pl (vtx es d)):Orb s' d e:=by
 obtain ⟨j,hj⟩:=(kE hR hd he).2 hv;subst hj
 have walk:∀(j x:Nat),x<2*es.length → ¬pl (vtx es x)→Orb s' x (qL (sig es rs) j x):=by
  intro j
  induction j with
  | zero=>intro x _ _;exact Orb.refl _ _
  | succ j ihj=>
   intro x hx hpx;obtain ⟨k1,k2⟩:=qS hR hx;have:=ihj _ k1 (by rw [k2];exact hpx);rw [←hu x hpx] at this
   show Orb s' x (qL (sig es rs) j (sig es rs x))
   rw [←hu x hpx];exact (Orb.step _ _).trans this
 exact walk j d hd hp
/-- THE OUTER GAP: the first edge of the row does not hang together with what stands between -/
theorem cm(hf:FitT N es rs o s gr)(hc:Cut N es rs o s pl ρ){a p t:Nat}(ha:a ∈ ρ)(hp:p ∈ ρ)(hap:a≠p)(hfe:jT N es rs (ot (2*a+1))=jT N es rs (ot (2*p+1)))
  (ht:t<2*es.length) (htop:kv es rs gr t=true) (htf:jT N es rs t=jT N es rs (ot (2*a+1))) (htI:¬ppR (sS es rs pl ρ a p) es.length t (2*p)) {b:Nat} (hb:b ∈ ρ) (hbo:jT N es rs (ot (2*b))=o):¬ppR (sS es rs pl ρ a p) es.length (2*b) (2*p):=by
 intro hbI;obtain ⟨hS,hap2,hrow⟩:=XK hf hc ha hp hap hfe;have hE:=kD hS es.length (Nat.le_refl _);obtain ⟨p1,p2,p3⟩:=qr hc hp;have h2p:2*p<2*es.length:=by omega
 obtain ⟨I,hI⟩:∃I:Nat→Prop,I=fun d=>ppR (sS es rs pl ρ a p) es.length d (2*p):=⟨_,rfl⟩;have hId:∀d,I d↔ppR (sS es rs pl ρ a p) es.length d (2*p):=fun d=>by rw [hI]
 have hpair:∀i,i<es.length→ppR (sS es rs pl ρ a p) es.length (2*i) (2*i+1):=fun i hi=>kG hS _ (Nat.le_refl _) hi
 have I_rel:∀d e,d<2*es.length→e<2*es.length→ppR (sS es rs pl ρ a p) es.length d e→(I d↔I e):=fun d e hd he h=>by
  rw [hId,hId];exact ⟨fun k=>hE.trans _ _ _ he hd h2p (hE.symm _ _ hd he h) k,fun k=>hE.trans _ _ _ hd he h2p h k⟩
 have I_s:∀d,d<2*es.length→(I (sS es rs pl ρ a p d)↔I d):=fun d hd=>(I_rel d _ hd (hS.lt d hd) (vC (Orb.step _ _) _)).symm
 have I_ot:∀d,d<2*es.length→(I (ot d)↔I d):=fun d hd=>by
  rcases Nat.mod_two_eq_zero_or_one d with e | e
  ·obtain ⟨i,rfl⟩:∃i,d=2*i:=⟨d/2,by omega⟩;rw [ud];exact (I_rel _ _ (by omega) (by omega) (hpair i (by omega))).symm
  ·obtain ⟨i,rfl⟩:∃i,d=2*i+1:=⟨d/2,by omega⟩;rw [uR];exact I_rel _ _ (by omega) (by omega) (hpair i (by omega))
 have I_half:∀d,d<2*es.length→(I (2*(d/2))↔I d):=fun d hd=>by
  rcases Nat.mod_two_eq_zero_or_one d with e | e
  ·rw [show 2*(d/2)=d by omega]
  ·have:=I_ot d hd;rw [show ot d=2*(d/2) by unfold ot;rw [if_neg (by omega)];omega] at this;exact this
 have I_alive:∀d,d<2*es.length→I d → ¬yV es pl d:=fun d hd h hdead=>by
  obtain ⟨g,hg⟩:∃g:Nat→Nat,g=fun d=>if tst (yV es pl d)=true then 1+d/2 else 0:=⟨_,rfl⟩
  have e:=Xf (g:=g) hS (fun d hd=>by
   by_cases h1:yV es pl d
   ·rw [pY hc ha hp hd h1]
   ·obtain ⟨k1,_,_⟩:=aJ hf hc ha hp hfe hd h1;rw [hg];simp only;rw [if_neg (by rw [jt];exact k1),if_neg (by rw [jt];exact h1)]) (fun i hi=>by
   have e1:yV es pl (2*i+1)↔yV es pl (2*i):=by rw [←ud];exact YM _
   rw [hg];simp only;by_cases h1:yV es pl (2*i)
   ·rw [if_pos (jt.2 h1),if_pos (jt.2 (e1.2 h1))];omega
   ·rw [if_neg (by rw [jt];exact h1),if_neg (by rw [jt];exact fun h=>h1 (e1.1 h))]) es.length (Nat.le_refl _) d (2*p) hd h2p ((hId d).1 h)
  rw [hg] at e;simp only at e;rw [if_pos (jt.2 hdead),if_neg (by rw [jt];exact p1)] at e;omega
 -- the map of this part alone
 obtain ⟨q,hq⟩:∃q:Nat→Nat,q=fun d=>if tst (I d)=true then sS es rs pl ρ a p d else d:=⟨_,rfl⟩
 have q_in:∀d,I d→q d=sS es rs pl ρ a p d:=fun d h=>by rw [hq];simp only;rw [if_pos (jt.2 h)]
 have q_out:∀d,¬I d→q d=d:=fun d h=>by rw [hq];simp only;rw [if_neg (by rw [jt];exact h)]
 have hQ:Perm (2*es.length) q:=by
  refine ⟨fun d hd=>?_,fun d e hd he hde=>?_⟩
  ·by_cases h:I d
   ·rw [q_in d h];exact hS.lt d hd
   ·rw [q_out d h];exact hd
  ·by_cases h:I d
   ·by_cases k:I e
    ·rw [q_in d h,q_in e k] at hde;exact hS.inj _ _ hd he hde
    ·rw [q_in d h,q_out e k] at hde;exact absurd (by rw [←hde];exact (I_s d hd).2 h) k
   ·by_cases k:I e
    ·rw [q_out d h,q_in e k] at hde;exact absurd (by rw [hde];exact (I_s e he).2 k) h
    ·rw [q_out d h,q_out e k] at hde;exact hde
 have hEQ:=kD hQ es.length (Nat.le_refl _);have hqpair:∀i,i<es.length→ppR q es.length (2*i) (2*i+1):=fun i hi=>kG hQ _ (Nat.le_refl _) hi
 have I_q:∀d e,d<2*es.length→e<2*es.length→ppR q es.length d e→(I d↔I e):=fun d e hd he h=>by
  have:=Xf (g:=fun d=>if tst (I d)=true then 1 else 0) hQ (fun d hd=>by
   by_cases h:I d
   ·rw [q_in d h,if_pos (jt.2 h),if_pos (jt.2 ((I_s d hd).2 h))]
   ·rw [q_out d h]) (fun i hi=>by
   have e1:=I_ot (2*i) (by omega);rw [ud] at e1;by_cases h:I (2*i)
   ·rw [if_pos (jt.2 h),if_pos (jt.2 (e1.2 h))]
   ·rw [if_neg (by rw [jt];exact h),if_neg (by rw [jt];exact fun k=>h (e1.1 k))]) es.length (Nat.le_refl _) d e hd he h
  by_cases h1:I d
  ·rw [if_pos (jt.2 h1)] at this;by_cases h2:I e
   ·exact ⟨fun _=>h2,fun _=>h1⟩
   ·rw [if_neg (by rw [jt];exact h2)] at this;omega
  ·rw [if_neg (by rw [jt];exact h1)] at this;by_cases h2:I e
   ·rw [if_pos (jt.2 h2)] at this;omega
   ·exact ⟨fun h=>absurd h h1,fun h=>absurd h h2⟩
 -- its parts: itself, and an edge each outside
 have q_orb:∀(i d:Nat),d<2*es.length→I d→Orb q d (qL (sS es rs pl ρ a p) i d):=by
  intro i
  induction i with
  | zero=>intro d _ _;exact Orb.refl _ _
  | succ i ih=>
   intro d hd h;have:=ih _ (hS.lt d hd) ((I_s d hd).2 h)
   show Orb q d (qL (sS es rs pl ρ a p) i (sS es rs pl ρ a p d))
   have h1:=Orb.step q d;rw [q_in d h] at h1;exact h1.trans this
 have hWequ:Equ (2*es.length) (fun x y=>ppR q es.length x y∨(¬I x ∧ ¬I y)):=by
  refine ⟨fun x hx=>.inl (hEQ.refl x hx),fun x y hx hy h=>?_,fun x y z hx hy hz h k=>?_⟩
  ·rcases h with h | h
   ·exact .inl (hEQ.symm _ _ hx hy h)
   ·exact .inr ⟨h.2,h.1⟩
  ·rcases h with h | h
   ·rcases k with k | k
    ·exact .inl (hEQ.trans _ _ _ hx hy hz h k)
    ·exact .inr ⟨fun e=>k.1 ((I_q x y hx hy h).1 e),k.2⟩
   ·rcases k with k | k
    ·exact .inr ⟨h.1,fun e=>h.2 ((I_q y z hy hz k).2 e)⟩
    ·exact .inr ⟨h.1,k.2⟩
 have hun:∀d,¬pl (vtx es d)→sS es rs pl ρ a p d=sig es rs d:=fun d h=>pz hc ha hp h
 have hall:∀d,d<2*es.length→I d→ppR q es.length (2*p) d:=fun d hd h=>by
  obtain ⟨c,hcm,hw⟩:=gC hf hc hWequ (fun d hd h=>by
   by_cases k:I d
   ·refine .inl (vC ⟨1,?_⟩ _)
    show q d=_
    rw [q_in d k,hun d h]
   ·exact .inr ⟨k,fun e=>k ((I_s d hd).1 (by rw [hun d h];exact e))⟩) (fun i hi=>.inl (hqpair i hi)) d hd (I_alive d hd h)
  have hc2:2*c<2*es.length:=by have:=(qr hc hcm).2.2;omega
  rcases hw with hw | hw
  ·have hIc:=(I_q d _ hd hc2 hw).1 h
   have:Orb (sS es rs pl ρ a p) (2*c) (2*p):=by
    rcases hrow c hcm with k | k
    ·exfalso;have a3:=(qr hc ha).2.2;exact hap2 ((hId _).1 ((I_rel _ _ hc2 (by omega) (vC k _)).1 hIc))
    ·exact k
   obtain ⟨i,hi⟩:=this;have h3:=q_orb i _ hc2 hIc;rw [hi] at h3;exact hEQ.symm _ _ hd h2p (hEQ.trans _ _ _ hd hc2 h2p hw (vC h3 _))
  ·exact absurd h hw.1
 obtain ⟨E2,hE2⟩:∃E2,E2=(List.range es.length).countP fun i=>tst (I (2*i)):=⟨_,rfl⟩;obtain ⟨X2,hX2⟩:∃X2,X2=(List.range es.length).countP fun i=>tst (¬I (2*i)):=⟨_,rfl⟩
 have hEX:E2+X2=es.length:=by
  have:=List.length_eq_countP_add_countP (fun i=>tst (I (2*i))) (l:=List.range es.length);rw [List.length_range] at this
  have e:(List.range es.length).countP (fun a=>decide ¬tst (I (2*a))=true)=(List.range es.length).countP fun i=>tst (¬I (2*i)):=jP fun k _=>by
   rw [Bool.eq_iff_iff,decide_eq_true_eq,jt,jt]
  omega
 have hparts:cls (ppR q es.length) (2*es.length)≤1+X2:=by
  have:=eq hEQ (2*p::((List.range es.length).filter fun i=>tst (¬I (2*i))).map fun i=>2*i) (fun x hx=>by
   by_cases hd:I x
   ·exact ⟨2*p,List.mem_cons_self ..,h2p,hall x hx hd⟩
   ·refine ⟨2*(x/2),List.mem_cons_of_mem _ (List.mem_map.2 ⟨x/2,List.mem_filter.2 ⟨List.mem_range.2 (by omega),jt.2 fun e=>hd ((I_half x hx).1 e)⟩,rfl⟩),by omega,?_⟩;rcases Nat.mod_two_eq_zero_or_one x with e | e
    ·rw [show 2*(x/2)=x by omega];exact hEQ.refl x hx
    ·have:=hqpair (x/2) (by omega)
     rwa [show 2*(x/2)+1=x by omega] at this)
  simp only [List.length_cons,List.length_map,←List.countP_eq_length_filter] at this;omega
 -- edges of the part: a top each, but for one at each vertex
 obtain ⟨U2,hU2⟩:∃U2,U2=(List.range N).countP fun x=>tst (¬pl x ∧ ∃d,d<2*es.length∧vtx es d=x∧I d):=⟨_,rfl⟩;obtain ⟨T2,hT2⟩:∃T2,T2=(List.range (2*es.length)).countP fun d=>tst (I d)&&kv es rs gr d:=⟨_,rfl⟩;have free:∀d,d<2*es.length→d%2=1→I d → ¬pl (vtx es d):=fun d hd h1 h hp=>I_alive d hd h (by unfold yV;rwa [show 2*(d/2)+1=d by omega])
 have hcount:T2+U2=E2:=by
  have h1:(List.range (2*es.length)).countP (fun d=>decide (d%2=1)&&tst (I (2*(d/2))))=(List.range es.length).countP fun i=>tst (I (2*i)):=Zu (fun i=>tst (I (2*i))) es.length
  have h3:(List.range (2*es.length)).countP (fun d=>decide (d%2=1)&&tst (I (2*(d/2))))=T2+(List.range (2*es.length)).countP (fun d=>(!ev d && !kv es rs gr d)&&tst (I d)):=by
   rw [qy _ _ (kv es rs gr),hT2];congr 1
   ·apply jP;intro d hd;rw [Bool.eq_iff_iff];simp only [Bool.and_eq_true,decide_eq_true_eq,jt,I_half d hd];constructor
    ·rintro ⟨⟨_,h2⟩,h3⟩;exact ⟨h2,h3⟩
    ·rintro ⟨h1,h2⟩;have:=UC h2;exact ⟨⟨by unfold ev at this;simpa using this,h1⟩,h2⟩
   ·apply jP;intro d hd;rw [Bool.eq_iff_iff];simp only [Bool.and_eq_true,decide_eq_true_eq,jt,I_half d hd,Bool.not_eq_true'];constructor
    ·rintro ⟨⟨h1,h2⟩,h3⟩;exact ⟨⟨by unfold ev;simpa using h1,h3⟩,h2⟩
    ·rintro ⟨⟨h1,h2⟩,h3⟩;exact ⟨⟨by unfold ev at h1;simpa using h1,h3⟩,h2⟩
  have h4:(List.range (2*es.length)).countP (fun d=>(!ev d && !kv es rs gr d)&&tst (I d))=U2:=by
   rw [zU (v:=vtx es) (M:=N) _ _ (fun k hk=>xc hf.inN hk),hU2,←vY];apply zg;intro x hx;by_cases hpx:¬pl x ∧ ∃d,d<2*es.length∧vtx es d=x∧I d
   ·rw [if_pos (jt.2 hpx),←hf.tops_at hx (fun e=>hpx.1 (by rw [e];exact hc.src))];obtain ⟨hpx,d,hd,hv,hId2⟩:=hpx;apply jP;intro k hk;by_cases hvk:vtx es k=x
    ·have:I k:=(I_rel d k hd hk (vC (rZ hf.right hS hun hd hk (hv.trans hvk.symm) (by rw [hv];exact hpx)) _)).1 hId2;rw [jt.2 this,Bool.and_true]
    ·rw [decide_eq_false hvk,Bool.false_and,Bool.false_and]
   ·rw [if_neg (by rw [jt];exact hpx)];apply Qk;intro k hk;apply Bool.eq_false_iff.2;intro hq;simp only [Bool.and_eq_true,decide_eq_true_eq,jt,Bool.not_eq_true'] at hq;obtain ⟨k1,⟨k2,_⟩,k3⟩:=hq;exact hpx ⟨by rw [←k1];exact free k hk (by unfold ev at k2;simpa using k2) k3,k,hk,k1,k3⟩
  omega
 -- labels
 obtain ⟨v,hv⟩:∃v:Nat→Nat,v=fun d=>if tst (I d)=true then VT N es pl d else N+1+d:=⟨_,rfl⟩
 obtain ⟨f,hff⟩:∃f:Nat→Nat,f=fun d=>if tst (I d)=true then jT N es rs (ot d) else (jo N es rs).length+d/2:=⟨_,rfl⟩
 have v_in:∀d,I d→v d=VT N es pl d:=fun d h=>by rw [hv];simp only;rw [if_pos (jt.2 h)]
 have v_out:∀d,¬I d→v d=N+1+d:=fun d h=>by rw [hv];simp only;rw [if_neg (by rw [jt];exact h)]
 have f_in:∀d,I d→f d=jT N es rs (ot d):=fun d h=>by rw [hff];simp only;rw [if_pos (jt.2 h)]
 have f_out:∀d,¬I d→f d=(jo N es rs).length+d/2:=fun d h=>by rw [hff];simp only;rw [if_neg (by rw [jt];exact h)]
 have hIp:I (2*p):=(hId _).2 (hE.refl _ h2p);have hIb:I (2*b):=(hId _).2 hbI;have hIp1:I (2*p+1):=(I_rel _ _ h2p (by omega) (hpair p p3)).1 hIp;have htI':¬I t:=fun h=>htI ((hId _).1 h);obtain ⟨to1,to2⟩:=hf.top_face ht htop
 have key:=my (v:=v) (f:=f) hQ (fun d hd=>by
   by_cases h:I d
   ·have h1:=(I_s d hd).2 h;rw [q_in d h,v_in _ h1,v_in _ h];exact (aJ hf hc ha hp hfe hd (I_alive d hd h)).2.1
   ·rw [q_out d h]) (fun d hd=>by
   have hod:=vA hd;by_cases h:I d
   ·have h1:=(I_ot d hd).2 h;have h2:=(I_s _ hod).2 h1;rw [q_in _ h1,f_in _ h2,f_in _ h];exact (aJ hf hc ha hp hfe hod (I_alive _ hod h1)).2.2
   ·have h1:¬I (ot d):=fun k=>h ((I_ot d hd).1 k);rw [q_out _ h1,f_out _ h1,f_out _ h];have:ot d/2=d/2:=by unfold ot;split<;>omega
    rw [this])
  (V:=N::((List.range N).filter (fun x=>tst (¬pl x ∧ ∃d,d<2*es.length∧vtx es d=x∧I d))++((List.range (2*es.length)).filter fun d=>tst (¬I (2*(d/2)))).map fun d=>N+1+d))
  (F:=o::jT N es rs t::((((List.range (2*es.length)).filter fun d=>tst (I d)&&kv es rs gr d).map (jT N es rs))++((List.range es.length).filter fun i=>tst (¬I (2*i))).map fun i=>(jo N es rs).length+i)) (by
   rw [List.nodup_cons];refine ⟨fun h=>?_,?_⟩
   ·rcases List.mem_append.1 h with h | h
    ·have:=List.mem_range.1 (List.mem_filter.1 h).1;omega
    ·obtain ⟨d,_,e⟩:=List.mem_map.1 h;omega
   ·rw [List.nodup_append];refine ⟨List.nodup_range.filter _,vL (List.nodup_range.filter _) (fun a _ b _ e=>by omega),fun a ha b hb e=>?_⟩;have:=List.mem_range.1 (List.mem_filter.1 ha).1;obtain ⟨d,_,e2⟩:=List.mem_map.1 hb;omega) (by
   have hlt:∀c∈((List.range (2*es.length)).filter fun d=>tst (I d)&&kv es rs gr d).map (jT N es rs),c<(jo N es rs).length∧c≠o∧c≠jT N es rs t:=fun c hcm=>by
    obtain ⟨d,hd,rfl⟩:=List.mem_map.1 hcm;obtain ⟨d1,d2⟩:=List.mem_filter.1 hd;have d1:=List.mem_range.1 d1;rw [Bool.and_eq_true,jt] at d2;refine ⟨(yh hf.right d1).1,(hf.top_face d1 d2.2).1,fun e=>htI' ?_⟩;rw [←to2 d d1 d2.2 e];exact d2.1
   rw [List.nodup_cons,List.nodup_cons];refine ⟨fun h=>?_,fun h=>?_,?_⟩
   ·rcases List.mem_cons.1 h with h | h
    ·exact to1 h.symm
    ·rcases List.mem_append.1 h with h | h
     ·exact (hlt _ h).2.1 rfl
     ·obtain ⟨d,_,e⟩:=List.mem_map.1 h;have:=hf.oF;omega
   ·rcases List.mem_append.1 h with h | h
    ·exact (hlt _ h).2.2 rfl
    ·obtain ⟨d,_,e⟩:=List.mem_map.1 h;have:=(yh hf.right ht).1;omega
   ·rw [List.nodup_append];refine ⟨vL (List.nodup_range.filter _) (fun a ha b hb e=>?_),vL (List.nodup_range.filter _) (fun a _ b _ e=>by omega),fun a ha b hb e=>?_⟩
    ·obtain ⟨a1,a2⟩:=List.mem_filter.1 ha;obtain ⟨b1,b2⟩:=List.mem_filter.1 hb;rw [Bool.and_eq_true] at a2 b2;exact (hf.top_face (List.mem_range.1 b1) b2.2).2 a (List.mem_range.1 a1) a2.2 e
    ·have:=(hlt a ha).1;obtain ⟨d,_,e2⟩:=List.mem_map.1 hb;omega) (fun c hcm=>by
   rcases List.mem_cons.1 hcm with rfl | hcm
   ·exact ⟨2*p,h2p,by rw [v_in _ hIp,kF p1 p2]⟩
   ·rcases List.mem_append.1 hcm with hcm | hcm
    ·obtain ⟨_,h2⟩:=List.mem_filter.1 hcm;obtain ⟨h3,d,hd,hvd,hI2⟩:=jt.1 h2;exact ⟨d,hd,by rw [v_in _ hI2,YL (I_alive d hd hI2) (by rw [hvd];exact h3),hvd]⟩
    ·obtain ⟨d,hd,rfl⟩:=List.mem_map.1 hcm;obtain ⟨h1,h2⟩:=List.mem_filter.1 hd;have h1:=List.mem_range.1 h1;exact ⟨d,h1,v_out _ fun k=>(jt.1 h2) ((I_half d h1).2 k)⟩) (fun c hcm=>by
   rcases List.mem_cons.1 hcm with rfl | hcm
   ·exact ⟨2*b,by have:=(qr hc hb).2.2;omega,by rw [f_in _ hIb];exact hbo⟩
   rcases List.mem_cons.1 hcm with rfl | hcm
   ·exact ⟨2*p+1,by omega,by rw [f_in _ hIp1,htf,hfe]⟩
   ·rcases List.mem_append.1 hcm with hcm | hcm
    ·obtain ⟨d,hd,rfl⟩:=List.mem_map.1 hcm;obtain ⟨d1,d2⟩:=List.mem_filter.1 hd;have d1:=List.mem_range.1 d1;rw [Bool.and_eq_true,jt] at d2;have d3:=UC d2.2;have hnp:=free d d1 (by unfold ev at d3;simpa using d3) d2.1;refine ⟨sig es rs d,(qS hf.right d1).1,?_⟩;rw [f_in _ (by rw [←hun d hnp];exact (I_s d d1).2 d2.1),vg hf.right d1]
    ·obtain ⟨i,hi,rfl⟩:=List.mem_map.1 hcm;obtain ⟨h1,h2⟩:=List.mem_filter.1 hi;have h1:=List.mem_range.1 h1
     exact ⟨2*i,by omega,by rw [f_out _ (jt.1 h2),show 2*i/2=i by omega]⟩)
 simp only [List.length_cons,List.length_append,List.length_map,←List.countP_eq_length_filter] at key;have h2:(List.range (2*es.length)).countP (fun d=>tst (¬I (2*(d/2))))=2*(List.range es.length).countP fun i=>tst (¬I (2*i)):=Qc (fun i=>tst (¬I (2*i))) es.length;rw [h2,←hU2,←hT2,←hX2] at key;omega
end
end Go.Proofs.YtneeknlhlkpnpaaGreat
