import Derived.Test.YtneeknlhlkpnpaaGreatZRPlain
import Derived.Test.YtneeknlhlkpnpaaGreatZConfl
import Derived.Test.YtneeknlhlkpnpaaGreatZRRf10
import Derived.Test.YtneeknlhlkpnpaaGreatZRing2
import Derived.Test.YtneeknlhlkpnpaaGreatZEul
import Derived.Test.YtneeknlhlkpnpaaGreatZReg
import Derived.Test.YtneeknlhlkpnpaaGreatZFlat3
import Derived.Test.YtneeknlhlkpnpaaGreatZBack3
import Derived.Test.YtneeknlhlkpnpaaGreatZRing5
import Derived.Test.YtneeknlhlkpnpaaGreatZFit2
/-
 Plain law: placing ready vertices one by one ends as any plan with the same edges does. Written by an AI agent.
-/
namespace Go.Proofs.YtneeknlhlkpnpaaGreat
open Go.RowKit
section
variable {N:Nat}{es:List (Int×Int)}{outs:List (List Int)}{s:Nat}{ord:List Int}{en:List (List Itm)}{l:List Nat}{rF:List Itm}
theorem CutR.ready{r:List Itm}{pl:List Int}{x:Nat}{A E B:List Itm}(hx:(x:Int)∉pl)(h:CutR es r x A E B):qT es r pl x=true:=
 (vZ hx h.row h.out h.ine h.cnt h.nil h.ends).1
theorem Walk.follow(hO:zO N es outs)(hs:∀y,y<N→inD es y=0→y=s){l:List Nat}{st st2:Ju}(hw:Walk es outs st l st2) :
  ∀ {fin:Ju} {rest:List Nat},Walk es outs st rest fin→rest.Nodup→(∀x∈rest,x<N)→(∀x∈l,x<N)→(∀x,x<N→x∈rest∨(x:Int)∈st.2.1)→dQ s st→SwI N es outs st.1 st.2.1 st.2.2 →
  ∃rest' pl',rest.Perm (l++rest')∧Walk es outs st2 rest' (fin.1,pl',fin.2.2):=by
 induction hw with
 | nil st=>
  intro fin rest h _ _ _ _ _ _;exact ⟨rest,fin.2.1,List.Perm.refl _,h⟩
 | @cons r pl en x A E B l st2 hp hc hw ih=>
  intro fin rest h hn hr hl hall hS hI;have hx:=hl x (List.mem_cons_self ..);have hxr:x∈rest:=(hall x hx).resolve_right hp;obtain ⟨rest1,pl1,p1,w1⟩:=h.any hO hs hn hr hS hI hxr hp hc;obtain ⟨hS',_⟩:=hS.step (outs:=outs) hs hx hp hc;have hI':=hI.step hx hp hc;have hn1:(x::rest1).Nodup:=p1.nodup_iff.1 hn
  obtain ⟨rest2,pl2,p2,w2⟩:=ih w1 (List.nodup_cons.1 hn1).2 (fun y hy=>hr y (p1.mem_iff.2 (List.mem_cons_of_mem _ hy))) (fun y hy=>hl y (List.mem_cons_of_mem _ hy)) (fun y hy=>by
   rcases hall y hy with h1 | h1
   ·rcases List.mem_cons.1 (p1.mem_iff.1 h1) with rfl | h2
    ·exact .inr (by simp)
    ·exact .inl h2
   ·exact .inr (List.mem_append_left _ h1)) hS' hI'
  exact ⟨rest2,pl2,p1.trans (p2.cons x),w2⟩
theorem PlanR.greedy(hP:PlanR N es ord outs en l rF s){l2:List Nat}{r2:List Itm}{en2:List (List Itm)}(hw:Walk es outs ([],[],List.replicate N []) l2 (r2,yd l2,en2))(hl:∀x∈l2,x<N)(hno:∀x,x<N→qT es r2 (yd l2) x=false) :
  PlanR N es (yd l2) outs en l2 rF s:=by
 obtain ⟨rest',pl',p,w⟩:=hw.follow hP.outp hP.src hP.walk (hP.perm.nodup_iff.2 List.nodup_range) hP.lt hl (fun x hx=>.inl (hP.perm.mem_iff.2 (List.mem_range.2 hx))) (.inl ⟨rfl,rfl⟩) SwI.start
 have hr:rest'=[]:=by
  cases rest' with
  | nil=>rfl
  | cons y t=>
   cases w with
   | cons hp hc _=>
    have hy:y<N:=hP.lt y (p.mem_iff.2 (by simp));have:=hno y hy;rw [hc.ready hp] at this
    cases this
 subst hr;rw [List.append_nil] at p
 have e:(r2,yd l2,en2)=(rF,pl',en):=by
  generalize hq:(r2,yd l2,en2)=q at w;generalize hq':(rF,pl',en)=q' at w
  cases w with
  | nil=>rfl
 have e1:r2=rF:=congrArg Prod.fst e;have e2:en2=en:=congrArg (fun q:Ju=>q.2.2) e;subst e1 e2;exact ⟨hP.good,rfl,p.symm.trans hP.perm,hP.outp,hP.outl,hw,hP.sN,hP.src,hP.sin⟩
theorem hZ{l:List Nat}(h:l.Perm (List.range N)):(yd l).mergeSort leI=upI N:=ZO (h.map _) (XL N)
theorem PlanR.of(h:PlanR N es ord outs en l rF s):ofB N es ord outs=true:=by
 refine kp.2 ⟨h.outl,?_,?_,fun x hx=>ZO (h.outp x hx) (kF _ _ _ _)⟩
 ·rw [h.onat];unfold yd;rw [List.length_map,h.perm.length_eq,List.length_range]
 ·rw [h.onat];exact hZ h.perm
theorem PlanR.run(h:PlanR N es ord outs en l rF s):xk N es ord outs=some en:=by
 unfold xk;rw [if_pos h.of];unfold Qd;have hw:=(Jc _ _).2 h.walk;rw [←h.onat] at hw;rw [hw];rfl
end
end Go.Proofs.YtneeknlhlkpnpaaGreat
/-
 Plain law: a vertex' ups, read from its list: those behind one that goes to it. Written by an AI agent.
-/
namespace Go.Proofs.YtneeknlhlkpnpaaGreat
open Go.RowKit
def evI(a:Int):Bool:=decide (a%2=0)
def Qc(l:List Int)(i:Nat):Bool:=evI (l.getD i 0) && !evI (l.getD ((i+l.length-1)%l.length) 0)
def yM(l:List Int):List Int:=match (List.range l.length).find? (Qc l) with
 | none=>[]
 | some i=>((rot l i).takeWhile evI).map (· / 2)
def uU(l:List Int):List Int:=l.map (· / 2)
theorem bN(a:Nat):evI ((2*a:Nat):Int)=true:=by unfold evI;simp
theorem Gu(a:Nat):evI ((2*a+1:Nat):Int)=false:=by unfold evI;simp
theorem Kh{l:List Int}(h:∀i,i<l.length→Qc l i=false):yM l=[]:=by
 unfold yM;rw [List.find?_eq_none.2 fun i hi=>by rw [h i (List.mem_range.1 hi)];simp]
theorem UV{l:List Int}{b:Bool}(h:∀a∈l,evI a=b):yM l=[]:=by
 refine Kh fun i hi=>?_;have h1:=h l[i] (List.getElem_mem _);have h2:=h (l[(i+l.length-1)%l.length]'(Nat.mod_lt _ (by omega))) (List.getElem_mem _);unfold Qc;rw [List.getD_eq_getElem?_getD,List.getElem?_eq_getElem hi,List.getD_eq_getElem?_getD,List.getElem?_eq_getElem (Nat.mod_lt _ (by omega)),Option.getD_some,Option.getD_some,h1,h2]
 cases b<;>rfl
theorem Ug{P Q:List Nat}:(((P.map (fun a=>2*a)++Q.map fun a=>2*a+1).map fun d:Nat=>(d:Int)).takeWhile evI)=P.map fun a:Nat=>((2*a:Nat):Int):=by
 rw [List.map_append,List.map_map,List.map_map]
 rw [List.takeWhile_append_of_pos (fun a ha=>by
  obtain ⟨b,_,rfl⟩:=List.mem_map.1 ha
  exact bN b)]
 have:(Q.map ((fun d:Nat=>(d:Int)) ∘ fun a=>2*a+1)).takeWhile evI=[]:=by
  cases Q with
  | nil=>rfl
  | cons q Q=>rw [List.map_cons,List.takeWhile_cons_of_neg (by show ¬evI ((2*q+1:Nat):Int)=true;rw [Gu];simp)]
 rw [this,List.append_nil];rfl
theorem mu(P:List Nat):(P.map fun a:Nat=>((2*a:Nat):Int)).map (· / 2)=P.map fun a:Nat=>(a:Int):=by
 rw [List.map_map];apply List.map_congr_left;intro a _
 show ((2*a:Nat):Int)/2=a
 omega
theorem Kg{l:List Int}{j:Nat}{P Q:List Nat}(hj:rot l j=(P.map (fun a=>2*a)++Q.map fun a=>2*a+1).map fun d:Nat=>(d:Int))(hP:P≠[])(hQ:Q≠[]):yM l=P.map fun a:Nat=>(a:Int):=by
 obtain ⟨D,hD⟩:∃D,D=P.map (fun a=>2*a)++Q.map fun a=>2*a+1:=⟨_,rfl⟩;have hDl:D.length=P.length+Q.length:=by rw [hD];simp
 have hPl:=List.length_pos_iff.2 hP;have hQl:=List.length_pos_iff.2 hQ;rw [←hD] at hj;have hl:l.length=D.length:=by rw [←qM l j,hj,List.length_map]
 obtain ⟨i,hi,ei⟩:∃i,i<l.length∧rot l i=D.map fun d:Nat=>(d:Int):=by
  by_cases hjl:j<l.length
  ·exact ⟨j,hjl,hj⟩
  ·exact ⟨0,by omega,by rw [Jm,←hj,QC (by omega)]⟩
 have hev:∀k (hk:k<D.length),evI ((D[k]:Nat):Int)=decide (k<P.length):=fun k hk=>by
  by_cases h:k<P.length
  ·rw [decide_eq_true h];simp only [hD];rw [List.getElem_append_left (by simpa using h),List.getElem_map];exact bN _
  ·rw [decide_eq_false h];simp only [hD];rw [List.getElem_append_right (by simpa using h),List.getElem_map];exact Gu _
 have hg:∀k (hk:k<D.length),l.getD ((i+k)%l.length) 0=((D[k]:Nat):Int):=fun k hk=>by
  rw [List.getD_eq_getElem?_getD,List.getElem?_eq_getElem (Nat.mod_lt _ (by omega)),Option.getD_some,←JP hi (by omega)];simp only [ei,List.getElem_map]
 have hat:∀k,k<D.length→Qc l ((i+k)%l.length)=(decide (k<P.length) && !decide ((k+D.length-1)%D.length<P.length)):=fun k hk=>by
  unfold Qc
  have e:((i+k)%l.length+l.length-1)%l.length=(i+(k+D.length-1)%D.length)%l.length:=by
   rw [←hl,show (i+k)%l.length+l.length-1=(i+k)%l.length+(l.length-1) by omega,Nat.mod_add_mod,Nat.add_mod_mod];congr 1;omega
  rw [e,hg k hk,hg _ (Nat.mod_lt _ (by omega)),hev _ hk,hev _ (Nat.mod_lt _ (by omega))]
 have hi0:Qc l i=true:=by
  have:=hat 0 (by omega);rw [Nat.add_zero,Nat.mod_eq_of_lt hi] at this;rw [this,decide_eq_true hPl,Nat.zero_add,Nat.mod_eq_of_lt (by omega),decide_eq_false (by omega)];rfl
 have hone:∀t,t<l.length→Qc l t=true→t=i:=fun t ht h=>by
  obtain ⟨k,hk,e⟩:∃k,k<D.length∧t=(i+k)%l.length:=by
   by_cases h1:i≤t
   ·exact ⟨t-i,by omega,by rw [show i+(t-i)=t by omega,Nat.mod_eq_of_lt ht]⟩
   ·exact ⟨t+l.length-i,by omega,by rw [show i+(t+l.length-i)=t+l.length by omega,Nat.add_mod_right,Nat.mod_eq_of_lt ht]⟩
  rw [e,hat k hk] at h;simp only [Bool.and_eq_true,decide_eq_true_eq,Bool.not_eq_true',decide_eq_false_iff_not] at h;by_cases hk0:k=0
  ·rw [e,hk0,Nat.add_zero,Nat.mod_eq_of_lt hi]
  ·exfalso;apply h.2;rw [show k+D.length-1=(k-1)+D.length by omega,Nat.add_mod_right,Nat.mod_eq_of_lt (by omega)];omega
 have hf:(List.range l.length).find? (Qc l)=some i:=by
  cases hq:(List.range l.length).find? (Qc l) with
  | none=>
   have:=List.find?_eq_none.1 hq i (List.mem_range.2 hi);exact absurd hi0 this
  | some t=>
   have h1:=List.find?_some hq;have h2:=List.mem_range.1 (List.mem_of_find?_eq_some hq);rw [hone t h2 h1]
 unfold yM;rw [hf]
 show ((rot l i).takeWhile evI).map (· / 2)=_
 rw [ei,hD,Ug,mu]
end Go.Proofs.YtneeknlhlkpnpaaGreat
/-
 Plain law: two neighbours change places: faces differ by at most two. Written by an AI agent.
-/
namespace Go.Proofs.YtneeknlhlkpnpaaGreat
open Go.RowKit
section
variable {n:Int}{es:List (Int×Int)}{rs:List (List Int)}{x i k:Nat}
end
end Go.Proofs.YtneeknlhlkpnpaaGreat
namespace Go.Proofs.YtneeknlhlkpnpaaGreat
open Go.RowKit
section
variable {N:Nat}{f g α : Nat→Nat}
open Classical in
end
section
variable {n:Int}{es:List (Int×Int)}{rs:List (List Int)}
theorem lF{xs ys:List (List Int)}(hl:xs.length=ys.length)(h:∀i (h1:i<xs.length) (h2:i<ys.length),zr xs[i] ys[i]=true):xo xs ys=true:=by
 unfold xo;rw [decide_eq_true hl,Bool.true_and,List.all_eq_true];intro i hi;have hi:=List.mem_range.1 hi;rw [vJ hi,vJ (show i<ys.length by omega)];exact h i hi (by omega)
end
end Go.Proofs.YtneeknlhlkpnpaaGreat
namespace Go.Proofs.YtneeknlhlkpnpaaGreat
open Go.RowKit
theorem qo.rowsC{w:World}{b0:Nat}{v:Value}{F:List (List Int)}(h:qo w b0 v F):∃A c,v = .slice A F.length c∧vn w w.heap.size A F:=by
 obtain ⟨sl,h1,h2⟩:=h;obtain ⟨A,c,rfl⟩:=jv h1;refine ⟨A,c,rfl,fun hn=>?_⟩;have hsl:sl.length=F.length:=by have:=h1.1;omega
 obtain ⟨b,off,he,hb,hc⟩:=jr.of_own h1 (by omega);refine ⟨b,off,he,hb,fun i hi=>?_⟩;obtain ⟨Ai,ci,h3,h4⟩:=h2 i hi;refine ⟨Ai,ci,hc i _ h3,jr.of_own h4,?_⟩;rcases h4.2 with ⟨h5,h0⟩ | ⟨g,cap,cur,h5,_,_,h6,_⟩
 ·injection h5 with _ h5 h7;omega
 ·injection h5 with _ _ h5;omega
end Go.Proofs.YtneeknlhlkpnpaaGreat
/-
 Plain law: lists begun elsewhere tell the same faces, angles, kinds. Written by an AI agent.
-/
namespace Go.Proofs.YtneeknlhlkpnpaaGreat
open Go.RowKit
def yq(rs ts:List (List Int)):Prop:=ts.length=rs.length ∧ ∀x,x<rs.length → ∃i,rot (rs.getD x []) i=ts.getD x []
theorem XP{rs ts:List (List Int)}(h:xo rs ts=true):yq rs ts:=by
 unfold xo at h;simp only [Bool.and_eq_true,decide_eq_true_eq,List.all_eq_true] at h;refine ⟨h.1.symm,fun x hx=>?_⟩;have h1:=h.2 x (List.mem_range.2 hx);unfold zr at h1;simp only [Bool.or_eq_true,Bool.and_eq_true,decide_eq_true_eq,List.any_eq_true] at h1;rcases h1 with ⟨i,_,h2⟩ | ⟨h2,h3⟩
 ·exact ⟨i,h2⟩
 ·refine ⟨0,?_⟩;rw [Jm,List.length_eq_zero_iff.1 h2,List.length_eq_zero_iff.1 h3]
theorem fO{a b:List Int}{i:Nat}(h:rot a i=b):zr a b=true:=by
 by_cases h0:a.length=0
 ·have e:=List.length_eq_zero_iff.1 h0;subst e;have:b=[]:=by rw [←h];unfold rot;simp
  subst this;rfl
 ·by_cases hi:i<a.length
  ·exact YG hi h
  ·rw [QC (by omega)] at h;exact YG (i:=0) (by omega) (by rw [Jm];exact h)
theorem cM{rs ts:List (List Int)}(h:yq rs ts):xo rs ts=true:=
 lF h.1.symm fun x h1 h2=>by
  obtain ⟨i,e⟩:=h.2 x h1;rw [vJ h1,vJ h2] at e;exact fO e
theorem yq.symm{rs ts:List (List Int)}(h:yq rs ts):yq ts rs:=⟨h.1.symm,fun x hx=>by
 obtain ⟨i,e⟩:=h.2 x (by rw [←h.1];exact hx);obtain ⟨j,e2⟩:=lM (rs.getD x []) i
 exact ⟨j,by rw [←e,e2]⟩⟩
section
variable {n:Int}{es:List (Int×Int)}{rs ts:List (List Int)}
theorem yq.right(h:yq rs ts)(hR:RightP n es rs):RightP n es ts:=by
 have hr:∀x (hx:x<ts.length),∃(hx':x<rs.length),∃i,ts[x]=rot rs[x] i:=fun x hx=>by
  have hx':x<rs.length:=by rw [←h.1];exact hx
  obtain ⟨i,e⟩:=h.2 x hx';rw [vJ hx',vJ hx] at e;exact ⟨hx',i,e.symm⟩
 refine ⟨hR.may,by rw [h.1];exact hR.len,fun x hx a ha=>?_,fun x hx=>?_,fun d hd=>?_⟩
 ·obtain ⟨hx',i,e⟩:=hr x hx;rw [e,Gp] at ha;exact hR.at_ x hx' a ha
 ·obtain ⟨hx',i,e⟩:=hr x hx;rw [e];unfold rot;have:=hR.nd x hx';rw [←List.take_append_drop i rs[x]] at this;exact (List.perm_append_comm.nodup_iff).1 this
 ·obtain ⟨x,hx,hm⟩:=hR.cov d hd;have hx':x<ts.length:=by rw [h.1];exact hx
  obtain ⟨_,i,e⟩:=hr x hx';exact ⟨x,hx',by rw [e,Gp];exact hm⟩
theorem yq.nexts(h:yq rs ts)(hR:RightP n es rs):vg es.length ts=vg es.length rs:=by
 have hT:=h.right hR;apply List.ext_getElem
 ·unfold vg;rw [vo,vo]
 ·intro d h1 h2;have hd:d<2*es.length:=by unfold vg at h1;rw [vo] at h1;exact h1
  obtain ⟨y,j,hy,hj,e,hv⟩:=hT.pos (d:=ot d) (xY hd);have hy':y<rs.length:=by rw [←h.1];exact hy
  obtain ⟨i,er⟩:=h.2 y hy';rw [vJ hy',vJ hy] at er;have e1:=KJ hT hy hj;rw [e,Int.toNat_natCast,Qf] at e1;have hlen:rs[y].length=ts[y].length:=by rw [←er,qM]
  obtain ⟨i',hi',er'⟩:∃i',i'<rs[y].length∧rot rs[y] i'=ts[y]:=by
   by_cases hi:i<rs[y].length
   ·exact ⟨i,hi,er⟩
   ·exact ⟨0,by omega,by rw [Jm,←er,QC (by omega)]⟩
  have hg:∀k (hk:k<ts[y].length),ts[y][k]=rs[y][(i'+k)%rs[y].length]'(Nat.mod_lt _ (by omega)):=fun k hk=>by
   rw [←JP hi' (by omega)];simp only [er']
  have e3:=hg j hj;have e2:=KJ hR hy' (i:=(i'+j)%rs[y].length) (Nat.mod_lt _ (by omega));rw [←e3,e,Int.toNat_natCast,Qf] at e2;rw [List.getD_eq_getElem?_getD,List.getElem?_eq_getElem h1,Option.getD_some] at e1;rw [List.getD_eq_getElem?_getD,List.getElem?_eq_getElem h2,Option.getD_some] at e2;rw [e1,e2,hg _ (Nat.mod_lt _ (by omega))]
  have e4:(i'+(j+1)%ts[y].length)%rs[y].length=((i'+j)%rs[y].length+1)%rs[y].length:=by
   rw [←hlen,Nat.add_mod,Nat.mod_mod,←Nat.add_mod,Nat.add_mod ((i'+j)%rs[y].length),Nat.mod_mod,←Nat.add_mod,Nat.add_assoc]
  simp only [e4]
theorem yq.faces(h:yq rs ts)(hR:RightP n es rs):jE n es ts=jE n es rs:=by
 unfold jE;rw [if_pos (qZ.2 hR),if_pos (qZ.2 (h.right hR)),h.nexts hR]
theorem yq.sig_e(h:yq rs ts)(hR:RightP n es rs):sig es ts=sig es rs:=by
 funext d
 unfold sig nxf;rw [h.nexts hR]
theorem yq.angF_e(h:yq rs ts)(hR:RightP n es rs):jY n es ts=jY n es rs:=by
 funext d
 unfold jY;rw [h.faces hR]
theorem yq.angK_e(h:yq rs ts)(hR:RightP n es rs):yE es ts=yE es rs:=by
 funext d
 unfold yE;rw [h.sig_e hR]
theorem yq.gen_e(h:yq rs ts)(hR:RightP n es rs):gen n es ts=gen n es rs:=by
 have hi:iso ts=iso rs:=by
  unfold iso;rw [h.1];apply qn;intro x hx;obtain ⟨i,e⟩:=h.2 x hx;rw [←e,qM]
 unfold gen;rw [h.faces hR,hi,h.1]
theorem yq.bim(h:yq rs ts)(hR:RightP n es rs):xP ts=xP rs:=by
 have e:(∀x,x<ts.length→uX es ts x≤2) ↔ ∀x,x<rs.length→uX es rs x≤2:=by
  unfold uX;rw [h.angK_e hR,h.1]
 rw [Bool.eq_iff_iff,ZQ (h.right hR),ZQ hR,e]
theorem yq.tryE_e(h:yq rs ts)(hR:RightP n es rs)(f0:Nat):Xh n es ts f0=Xh n es rs f0:=by
 unfold Xh zw;rw [h.faces hR,h.angF_e hR,h.angK_e hR,h.1]
end
end Go.Proofs.YtneeknlhlkpnpaaGreat
/-
 Plain law: the plan that a rotation tells: each vertex' ups from its list; the source's begun anywhere. Written by an AI agent.
-/
namespace Go.Proofs.YtneeknlhlkpnpaaGreat
open Go.RowKit
def outsK(rs:List (List Int))(s k:Nat):List (List Int):=(rs.map yM).set s (rot (uU (rs.getD s [])) k)
theorem xA(rs:List (List Int))(s k:Nat):(outsK rs s k).length=rs.length:=by unfold outsK;simp
theorem UW{rs:List (List Int)}{s:Nat}(k:Nat)(hs:s<rs.length):(outsK rs s k).getD s []=rot (uU (rs.getD s [])) k:=by
 unfold outsK;rw [xm (by simpa using hs),if_pos rfl]
theorem bf{rs:List (List Int)}{s x:Nat}(k:Nat)(hs:s<rs.length)(hx:x<rs.length)(hxs:x≠s):(outsK rs s k).getD x []=yM (rs.getD x []):=by
 unfold outsK;rw [xm (by simpa using hs),if_neg hxs,List.getD_eq_getElem?_getD,List.getElem?_map,List.getElem?_eq_getElem hx,List.getD_eq_getElem?_getD,List.getElem?_eq_getElem hx];rfl
section
variable {N:Nat}{es:List (Int×Int)}{rs:List (List Int)}{s:Nat}
theorem pO(d:Nat):evI (d:Int)=ev d:=by
 unfold evI ev;rw [decide_eq_decide];omega
theorem KF(hin:InN N es)(hs0:inD es s=0){d:Nat}(hd:d<2*es.length)(hv:vtx es d=s):ev d=true:=by
 cases h:ev d with
 | true=>rfl
 | false=>
  have hz2:d%2=1:=by unfold ev at h;simpa using h
  have h3:=zY hin (i:=d/2) (by omega);rw [show 2*(d/2)+1=d by omega,hv] at h3;exact absurd h3.symm (zn.1 hs0 (d/2) (by omega))
theorem lY(hg:GoodP N es)(hR:RightP N es rs)(hb:xP rs=true)(hsN:s<N)(hs:∀y,y<N→inD es y=0→y=s)(hs0:inD es s=0)(k:Nat):zO N es (outsK rs s k):=by
 have hin:InN N es:=kq hg.may;have hl:rs.length=N:=by have:=hR.len;omega
 have key:∀x,x<N → ∀L:List Nat,L.Nodup→(∀a,a∈L↔a<es.length∧vtx es (2*a)=x)→(L.map fun a:Nat=>(a:Int)).Perm (jK es Prod.fst (x:Nat) es.length):=fun x hx L hn hm=>by
  refine (List.perm_ext_iff_of_nodup ?_ (vq _ _ _ _)).2 fun a=>?_
  ·rw [List.nodup_iff_pairwise_ne,List.pairwise_map];exact (List.nodup_iff_pairwise_ne.1 hn).imp fun h e=>h (by omega)
  ·rw [ql,List.mem_map];constructor
   ·rintro ⟨b,hb,rfl⟩;obtain ⟨h1,h2⟩:=(hm b).1 hb;have:=zL hin h1;exact ⟨b,rfl,h1,by omega⟩
   ·rintro ⟨b,rfl,h1,h2⟩;have:=zL hin h1;exact ⟨b,(hm b).2 ⟨h1,by omega⟩,rfl⟩
 intro x hx;have hxl:x<rs.length:=by omega
 have hrow:rs.getD x []=rs[x]:=by rw [List.getD_eq_getElem?_getD,List.getElem?_eq_getElem hxl];rfl
 have hel:∀a∈rs[x],∃d:Nat,a=d∧d<2*es.length∧vtx es d=x:=fun a ha=>by
  obtain ⟨i,hi,rfl⟩:=List.getElem_of_mem ha;exact hR.nat hxl hi
 have hcov:∀d,d<2*es.length→vtx es d=x→(d:Int)∈rs[x]:=fun d hd hv=>by
  obtain ⟨y,j,hy,hj,e,hv'⟩:=hR.pos hd;have:y=x:=by rw [←hv',hv]
  subst this;rw [←e];exact List.getElem_mem _
 by_cases hxs:x=s
 ·subst hxs;rw [UW k hxl,hrow];refine (lL _ _).trans ?_
  have e:uU rs[x]=((rs[x].map Int.toNat).map (· / 2)).map fun a:Nat=>(a:Int):=by
   unfold uU;rw [List.map_map,List.map_map];apply List.map_congr_left;intro a ha;obtain ⟨d,rfl,_⟩:=hel a ha;rfl
  rw [e];refine key x hx _ ?_ fun a=>?_
  ·rw [List.nodup_iff_pairwise_ne,List.pairwise_map,List.pairwise_map];refine (List.nodup_iff_pairwise_ne.1 (hR.nd x hxl)).imp_of_mem fun {a b} ha hb h e=>h ?_;obtain ⟨d,rfl,h1,h2⟩:=hel a ha;obtain ⟨d',rfl,h3,h4⟩:=hel b hb;have h5:=KF hin hs0 h1 h2;have h6:=KF hin hs0 h3 h4;unfold ev at h5 h6;simp only [decide_eq_true_eq,Int.toNat_natCast] at h5 h6 e;omega
  ·rw [List.map_map,List.mem_map];constructor
   ·rintro ⟨b,hb,rfl⟩;obtain ⟨d,rfl,h1,h2⟩:=hel b hb;have h5:=KF hin hs0 h1 h2;unfold ev at h5;simp only [decide_eq_true_eq] at h5
    show d/2<es.length∧vtx es (2*(d/2))=x
    rw [show 2*(d/2)=d by omega];exact ⟨by omega,h2⟩
   ·rintro ⟨h1,h2⟩;refine ⟨((2*a:Nat):Int),hcov _ (by omega) h2,?_⟩
    show (2*a)/2=a
    omega
 ·rw [bf k (by omega) hxl hxs,hrow]
  have hodd:kI es x:=by
   have h0:inD es x≠0:=fun h=>hxs (hs x hx h);have h0:¬ ∀i,i<es.length→(es.getD i (0,0)).2≠(x:Int):=fun h=>h0 (zn.2 h);obtain ⟨i,hi,he⟩:∃i,i<es.length∧(es.getD i (0,0)).2=(x:Int):=Classical.byContradiction fun hno=>h0 fun i hi e=>hno ⟨i,hi,e⟩;have:=zY hin hi;refine ⟨2*i+1,by omega,by omega,?_⟩;unfold ev;rw [decide_eq_false (by omega)]
  by_cases heven:vk es x
  ·have h1:=(KC hR x).2 ⟨hodd,heven⟩;unfold Vc at h1;obtain ⟨g,hg',hp⟩:=List.countP_pos_iff.1 h1;simp only [Bool.and_eq_true,decide_eq_true_eq,Bool.not_eq_true'] at hp;obtain ⟨D,P,Q,hN⟩:=eM hR hb (List.mem_range.1 hg') hp.1 fun _ _=>hp.2;obtain ⟨j,hj⟩:=hN.turned;rw [hrow,hN.parts] at hj
   have hP:P≠[]:=fun e=>by
    obtain ⟨d,h1,h2,h3⟩:=heven;have hd2:d%2=0:=by unfold ev at h3;simpa using h3
    have:=hN.memP (a:=d/2) |>.2 ⟨by omega,by rw [show 2*(d/2)=d by omega];exact h2⟩;rw [e] at this
    cases this
   have hQ:Q.reverse≠[]:=fun e=>by
    obtain ⟨d,h1,h2,h3⟩:=hodd;have hd2:d%2=1:=by unfold ev at h3;simpa using h3
    have:=hN.memQ (a:=d/2) |>.2 ⟨by omega,by rw [show 2*(d/2)+1=d by omega];exact h2⟩;rw [List.reverse_eq_nil_iff.1 e] at this
    cases this
   rw [Kg hj hP hQ];exact key x hx P hN.ndP fun a=>hN.memP
  ·have e:yM rs[x]=[]:=UV (b:=false) fun a ha=>by
    obtain ⟨d,rfl,h1,h2⟩:=hel a ha;rw [pO]
    cases h3:ev d with
    | false=>rfl
    | true=>exact absurd ⟨d,h1,h2,h3⟩ heven
   rw [e];have h0:=key x hx [] List.nodup_nil fun a=>⟨fun h=>(by cases h),fun h=>absurd ⟨2*a,by omega,h.2,by unfold ev;simp⟩ heven⟩;exact h0
end
section
variable {N:Nat}{es:List (Int×Int)}{ord:List Int}{outs rs:List (List Int)}{en:List (List Itm)}{l:List Nat}{rF:List Itm}{s:Nat}
theorem PlanR.downs(h:PlanR N es ord outs en l rF s){x:Nat}(hx:x<N):∃Q:List Nat,inH (en.getD x []).reverse=Q.map fun a=>((2*a+1:Nat):Int):=by
 refine ⟨((en.getD x []).reverse.filter fun e=>decide (e.1 ≠ -1)).map fun e=>e.1.toNat,?_⟩;unfold inH;rw [List.map_map];apply List.map_congr_left;intro e he;obtain ⟨h1,h2⟩:=List.mem_filter.1 he;have h2:=of_decide_eq_true h2;rcases h.item hx (List.mem_reverse.1 h1) with ⟨i,_,_,rfl⟩ | h3
 ·show 2*(i:Int)+1=((2*(i:Int).toNat+1:Nat):Int)
  rw [Int.toNat_natCast];omega
 ·exact absurd h3 h2
theorem PlanR.srcIn(h:PlanR N es ord outs en l rF s):inH (en.getD s []).reverse=[]:=by
 unfold inH;rw [List.filter_eq_nil_iff.2,List.map_nil];intro e he;rcases h.item h.sN (List.mem_reverse.1 he) with ⟨i,hi,h1,_⟩ | h3
 ·exact absurd h1 (zn.1 h.sin i hi)
 ·rw [h3];simp
theorem PlanR.ups(h:PlanR N es ord outs en l rF s){x:Nat}(hx:x<N):outs.getD x []=((outs.getD x []).map Int.toNat).map fun a:Nat=>(a:Int):=by
 rw [List.map_map]
 conv=>lhs;rw [←List.map_id (outs.getD x [])]
 apply List.map_congr_left;intro a ha;obtain ⟨i,rfl,_⟩:=(h.outm hx).1 ha;rfl
theorem PlanR.outsK(h:PlanR N es ord outs en l rF s)(hT:yq (jS N outs en) rs):∃k,(k<(uU (rs.getD s [])).length∨k=0)∧outsK rs s k=outs:=by
 have hl:rs.length=N:=by rw [hT.1,qB]
 have hrow:∀x,x<N → ∃i,rot (rs.getD x []) i=zt (outs.getD x []) (en.getD x []):=fun x hx=>by
  obtain ⟨i,e⟩:=hT.symm.2 x (by omega);exact ⟨i,by rw [e,Jl hx]⟩
 obtain ⟨i0,e0⟩:=hrow s h.sN
 have e1:rot (uU (rs.getD s [])) i0=outs.getD s []:=by
  unfold uU;rw [nY,e0];unfold zt;rw [h.srcIn,List.append_nil];unfold YS;rw [List.map_map]
  conv=>rhs;rw [←List.map_id (outs.getD s [])]
  apply List.map_congr_left;intro a _
  show (2*a)/2=a
  omega
 obtain ⟨k,hk,ek⟩:∃k,(k<(uU (rs.getD s [])).length∨k=0)∧rot (uU (rs.getD s [])) k=outs.getD s []:=by
  by_cases hi:i0<(uU (rs.getD s [])).length
  ·exact ⟨i0,.inl hi,e1⟩
  ·exact ⟨0,.inr rfl,by rw [Jm,←e1,QC (by omega)]⟩
 refine ⟨k,hk,?_⟩;have hlen:(Go.Proofs.YtneeknlhlkpnpaaGreat.outsK rs s k).length=N:=by rw [xA,hl]
 have hg:∀x,x<N→(Go.Proofs.YtneeknlhlkpnpaaGreat.outsK rs s k).getD x []=outs.getD x []:=fun x hx=>by
  by_cases hxs:x=s
  ·subst hxs;rw [UW k (by omega),ek]
  ·rw [bf k (by have:=h.sN;omega) (by omega) hxs];obtain ⟨i,e⟩:=hrow x hx;obtain ⟨Q,hQ⟩:=h.downs hx;have hU:=h.ups hx;obtain ⟨P,hP⟩:∃P,P=(outs.getD x []).map Int.toNat:=⟨_,rfl⟩;rw [←hP] at hU
   have er:rot (rs.getD x []) i=(P.map (fun a=>2*a)++Q.map fun a=>2*a+1).map fun d:Nat=>(d:Int):=by
    rw [e];unfold zt YS;rw [hQ,hU,List.map_append,List.map_map,List.map_map,List.map_map];congr 1
   have hQn:Q≠[]:=fun e=>by
    have h0:inD es x≠0:=fun h0=>hxs (h.src x hx h0);have h0:¬ ∀i,i<es.length→(es.getD i (0,0)).2≠(x:Int):=fun h1=>h0 (zn.2 h1);obtain ⟨i,hi,he⟩:∃i,i<es.length∧(es.getD i (0,0)).2=(x:Int):=Classical.byContradiction fun hno=>h0 fun i hi e=>hno ⟨i,hi,e⟩;have h1:=h.edge hx hi he
    have h2:(2*(i:Int)+1)∈inH (en.getD x []).reverse:=by
     unfold inH;refine List.mem_map.2 ⟨itE es i,List.mem_filter.2 ⟨List.mem_reverse.2 h1,?_⟩,rfl⟩;refine decide_eq_true ?_
     show (i:Int) ≠ -1
     omega
    rw [hQ,e] at h2
    cases h2
   by_cases hPn:P=[]
   ·rw [hU,hPn];refine UV (b:=false) fun a ha=>?_;have ha:a∈rot (rs.getD x []) i:=Gp.2 ha;rw [er,hPn,List.map_nil,List.nil_append,List.map_map] at ha;obtain ⟨b,_,rfl⟩:=List.mem_map.1 ha;exact Gu b
   ·rw [Kg er hPn hQn,←hU]
 apply List.ext_getElem
 ·rw [hlen,h.outl]
 ·intro x h1 h2;have:=hg x (by omega);rw [List.getD_eq_getElem?_getD,List.getElem?_eq_getElem h1,List.getD_eq_getElem?_getD,List.getElem?_eq_getElem h2] at this;exact this
end
end Go.Proofs.YtneeknlhlkpnpaaGreat
/-
 Plain law: where a plan's turn is a rotation, one of the plans that the rotation tells has it, too. Written by an AI agent.
-/
namespace Go.Proofs.YtneeknlhlkpnpaaGreat
open Go.RowKit
section
variable {N:Nat}{es:List (Int×Int)}{ord:List Int}{outs rs:List (List Int)}{en:List (List Itm)}{l:List Nat}{rF:List Itm}{s:Nat}
def Ye(N:Nat)(es:List (Int×Int))(rs:List (List Int))(s k:Nat):Prop:=∀ord en l rF,PlanR N es ord (outsK rs s k) en l rF s→xo (jS N (outsK rs s k) en) rs=false
def GK(N:Nat)(es:List (Int×Int))(rs:List (List Int)):Prop:=(xy N es rs&&xP rs)=false ∨ ∀s,s<N→inD es s=0 → ∀k,(k<(uU (rs.getD s [])).length∨k=0)→Ye N es rs s k
theorem yq.ask{n:Int}{ts:List (List Int)}(h:yq rs ts)(hR:RightP n es rs):xy n es ts=xy n es rs:=by
 unfold xy;rw [h.gen_e hR,h.1,qZ.2 hR,qZ.2 (h.right hR)]
theorem PlanR.askd(h:PlanR N es ord outs en l rF s):xy N es (jS N outs en)=true:=by
 apply ZH;unfold Zb;rw [show xz (N:Int) es=true from jB.2 h.good,qZ.2 h.right,decide_eq_true h.gen];rfl
theorem mQ(h:PlanR N es ord outs en l rF s)(hs:xo (jS N outs en) rs=true)(hno:GK N es rs):False:=by
 have hT:=XP hs;rcases hno with hno | hno
 ·rw [hT.ask h.right,hT.bim h.right,h.askd,h.bim] at hno
  cases hno
 ·obtain ⟨k,hk,e⟩:=h.outsK hT;have h1:=hno s h.sN h.sin k hk ord en l rF;rw [e] at h1;have h2:=h1 h;rw [hs] at h2
  cases h2
theorem WP{k:Nat}{l2:List Nat}{r2:List Itm}{en2:List (List Itm)}(hw:Walk es (outsK rs s k) ([],[],List.replicate N []) l2 (r2,yd l2,en2))(hl:∀x∈l2,x<N)(hno:∀x,x<N→qT es r2 (yd l2) x=false)(h:l2.length≠N):Ye N es rs s k:=fun ord en l rF hP=>by
 have:=(hP.greedy hw hl hno).perm.length_eq;rw [List.length_range] at this;exact absurd this h
theorem WO{k:Nat}{l2:List Nat}{r2:List Itm}{en2:List (List Itm)}(hw:Walk es (outsK rs s k) ([],[],List.replicate N []) l2 (r2,yd l2,en2))(hl:∀x∈l2,x<N)(hno:∀x,x<N→qT es r2 (yd l2) x=false)(h:¬(xk N es (yd l2) (outsK rs s k)).isSome=true):Ye N es rs s k:=fun ord en l rF hP=>by
 rw [(hP.greedy hw hl hno).run] at h;exact absurd rfl h
theorem WQ{k:Nat}{l2:List Nat}{r2:List Itm}{en2 en3:List (List Itm)}(hw:Walk es (outsK rs s k) ([],[],List.replicate N []) l2 (r2,yd l2,en2))(hl:∀x∈l2,x<N)(hno:∀x,x<N→qT es r2 (yd l2) x=false)(h:xk N es (yd l2) (outsK rs s k)=some en3)(hs:xo (jS N (outsK rs s k) en3) rs=false):Ye N es rs s k:=fun ord en l rF hP=>by
 have:=(hP.greedy hw hl hno).run;rw [h] at this;rw [←Option.some.inj this];exact hs
end
end Go.Proofs.YtneeknlhlkpnpaaGreat
/-
 Plain law: great angles fit with a face just if some choice does; the source's may be any in that face. Written by an AI agent.
-/
namespace Go.Proofs.YtneeknlhlkpnpaaGreat
open Go.RowKit
section
variable {N:Nat}{es:List (Int×Int)}{rs:List (List Int)}
theorem VE{x:Nat}:(jK es Prod.fst (x:Nat) es.length).length=0 ↔ ∀i,i<es.length→(es.getD i (0,0)).1≠(x:Int):=by
 constructor
 ·intro e i hi he;have hm:=ql.2 ⟨i,rfl,hi,he⟩;rw [List.length_eq_zero_iff.1 e] at hm
  cases hm
 ·intro h;rw [List.length_eq_zero_iff,List.eq_nil_iff_forall_not_mem];intro a ha;obtain ⟨i,_,hi,e⟩:=ql.1 ha;exact h i hi e
theorem Km(hg:GoodP N es)(he:0<es.length){x:Nat}(hx:x<N):¬(inD es x=0∧(jK es Prod.fst (x:Nat) es.length).length=0):=by
 rintro ⟨h1,h2⟩;have hin:InN N es:=kq hg.may;obtain ⟨s',hs',hq⟩:=Jh hg;have hc1:cls (Q es es.length) N=1:=Yi (by omega) fun x hx=>Star.trans (Q.symm (hq 0 (by omega))) (hq x hx);rcases pn hin hc1 he hx with ⟨d,hd,hv,ho⟩ | ⟨d,hd,hv,ho⟩
 ·have hd2:d%2=1:=by unfold ev at ho;simpa using ho
  have h3:=zY hin (i:=d/2) (by omega);rw [show 2*(d/2)+1=d by omega,hv] at h3;exact zn.1 h1 (d/2) (by omega) h3.symm
 ·have hd2:d%2=0:=by unfold ev at ho;simpa using ho
  have h3:=zL hin (i:=d/2) (by omega);rw [show 2*(d/2)=d by omega,hv] at h3;exact VE.1 h2 (d/2) (by omega) h3.symm
theorem Qz(hg:GoodP N es)(he:0<es.length){x:Nat}(hx:x<N):yJ es x=decide (x∈xM N es):=by
 have hno:=Km hg he hx;have h1:x∈xg N es Prod.snd↔inD es x=0:=by rw [vL,zn];exact ⟨fun h=>h.2,fun h=>⟨hx,h⟩⟩
 have h2:x∈xg N es Prod.fst↔(jK es Prod.fst (x:Nat) es.length).length=0:=by rw [vL,VE];exact ⟨fun h=>h.2,fun h=>⟨hx,h⟩⟩
 have h3:x∈xM N es↔inD es x=0∨(jK es Prod.fst (x:Nat) es.length).length=0:=by
  unfold xM;rw [List.mem_append,h1,h2]
 unfold yJ
 show (decide (inD es x=0) != decide ((jK es Prod.fst (x:Nat) es.length).length=0))=_
 by_cases q1:inD es x=0<;>by_cases q2:(jK es Prod.fst (x:Nat) es.length).length=0
 ·exact absurd ⟨q1,q2⟩ hno
 ·rw [decide_eq_true q1,decide_eq_false q2,decide_eq_true (h3.2 (.inl q1))];rfl
 ·rw [decide_eq_false q1,decide_eq_true q2,decide_eq_true (h3.2 (.inr q2))];rfl
 ·rw [decide_eq_false q1,decide_eq_false q2,decide_eq_false (fun h=>(h3.1 h).elim q1 q2)];rfl
theorem uI(hg:GoodP N es)(he:0<es.length):(xM N es).Nodup:=by
 unfold xM;rw [List.nodup_append];refine ⟨by unfold xg Uf;exact List.nodup_range.filter _,by unfold xg Uf;exact List.nodup_range.filter _,fun a ha b hb e=>?_⟩;subst e;obtain ⟨h1,h2⟩:=vL.1 ha;exact Km hg he h1 ⟨zn.2 h2,VE.2 (vL.1 hb).2⟩
theorem mx{outer:Int}{great:List Int}(h:vz N es rs outer great=true)(he:0<es.length):∃f:Nat,outer=f∧f<(jE N es rs).length∧xP rs=true∧Xh N es rs f=true:=by
 unfold vz at h;simp only [Bool.and_eq_true,decide_eq_true_eq] at h;obtain ⟨hg,⟨ha,hb⟩,_,hr⟩:=h;have hG:GoodP N es:=jB.1 hg;have hR:=Jj ha;have hrl:rs.length=N:=by have:=hR.len;omega
 unfold zS at hr;rw [if_neg (fun e=>by have:=(ui hR).1 e;omega)] at hr
 split at hr
 ·rename_i ho
  split at hr
  ·cases hr
  ·rename_i room hroom;rw [hrl] at hroom;obtain ⟨c1,c2⟩:=Kn hroom;have hlen:(zw N es rs outer.toNat).length=(jE N es rs).length:=by unfold zw;rw [yY]
   obtain ⟨r,e1,e2,e3⟩:=ZG (n:=N) (es:=es) (rs:=rs) (great:=great) (room:=zw N es rs outer.toNat) (k:=N) (fun x hx ht=>by
    obtain ⟨g,k1,k2,k3⟩:=c1 x hx ht
    exact ⟨g,k1,k2,k3,by rw [hlen];exact (ya hR k2).1⟩) c2
   rw [hroom] at e1;have e1:=Option.some.inj e1;subst e1;rw [Bool.not_eq_true',List.any_eq_false] at hr
   have hz:∀f,f<(jE N es rs).length→room.getD f 0=0:=fun f hf=>by
    have hf':f<room.length:=by rw [e2,hlen];exact hf
    have:=hr _ (List.getElem_mem hf');rw [List.getD_eq_getElem?_getD,List.getElem?_eq_getElem hf',Option.getD_some];simpa [nz] using this
   refine ⟨outer.toNat,by omega,by omega,hb,?_⟩;unfold Xh;rw [Xv _ _ (by rw [hrl];exact uI hG he) (fun k hk=>by rw [hlen];exact (ya hR hk).1),hrl];refine ⟨fun x=>(great.getD x 0).toNat,fun x hx=>?_,fun f hf=>?_⟩
   ·have hxN:=ZJ hx;obtain ⟨g,k1,k2,k3⟩:=c1 x hxN (by rw [Qz hG he hxN];exact decide_eq_true hx)
    show (great.getD x 0).toNat<_∧vtx es (great.getD x 0).toNat=x
    rw [k1,Int.toNat_natCast];exact ⟨k2,k3⟩
   ·have h1:=e3 f hf;rw [hz f (by rw [←hlen];exact hf)] at h1;rw [VS (uI hG he) (fun x hx=>ZJ hx)];have:(List.range N).countP (fun x=>yJ es x&&decide (jY N es rs (great.getD x 0).toNat=f))=(List.range N).countP fun y=>decide (y∈xM N es)&&decide (jY N es rs (great.getD y 0).toNat=f):=qn fun x hx=>by rw [Qz hG he hx]
    rw [this] at h1
    show (zw N es rs outer.toNat).getD f 0=_
    simp only at h1 ⊢;omega
 ·cases hr
theorem lz(hf:Zb N es rs=true)(he:0<es.length){f:Nat}(hfF:f<(jE N es rs).length)(hb:xP rs=true)(ht:Xh N es rs f=true):∃great,vz N es rs f great=true:=by
 have hG:=iA hf;have ha:=ZH hf;have hR:=Jj ha;have hrl:rs.length=N:=by have:=hR.len;omega
 have hlen:(zw N es rs f).length=(jE N es rs).length:=by unfold zw;rw [yY]
 unfold Xh at ht;rw [Xv _ _ (by rw [hrl];exact uI hG he) (fun k hk=>by rw [hlen];exact (ya hR hk).1),hrl] at ht;obtain ⟨g,h1,h2⟩:=ht;obtain ⟨great,hgr⟩:∃great:List Int,great=(List.range N).map fun x=>if yJ es x=true then ((g x:Nat):Int) else -1:=⟨_,rfl⟩
 have hgl:∀x,x<N→great.getD x 0=if yJ es x=true then ((g x:Nat):Int) else -1:=fun x hx=>by
  rw [hgr,List.getD_eq_getElem?_getD,List.getElem?_map,List.getElem?_range hx];rfl
 refine ⟨great,?_⟩;unfold vz;rw [show xz (N:Int) es=true from jB.2 hG,ha,hb,show great.length=N by rw [hgr];simp,decide_eq_true rfl]
 show zS N es rs _ _=true
 unfold zS;rw [if_neg (fun e=>by have:=(ui hR).1 e;omega),if_pos ⟨by omega,by omega⟩,Int.toNat_natCast,hrl]
 obtain ⟨r,e1,e2,e3⟩:=ZG (n:=N) (es:=es) (rs:=rs) (great:=great) (room:=zw N es rs f) (k:=N) (fun x hx ht=>by
  obtain ⟨k1,k2⟩:=h1 x (by rw [Qz hG he hx] at ht;exact of_decide_eq_true ht)
  exact ⟨g x,by rw [hgl x hx,if_pos ht],k1,k2,by rw [hlen];exact (ya hR k1).1⟩) (fun x hx ht=>by rw [hgl x hx,ht,if_neg (by simp)])
 rw [e1];simp only [Bool.not_eq_true'];rw [List.any_eq_false];intro v hv;obtain ⟨k,hk,rfl⟩:=List.getElem_of_mem hv;have hk':k<(zw N es rs f).length:=by rw [←e2];exact hk
 have h8:=e3 k hk';rw [List.getD_eq_getElem?_getD,List.getElem?_eq_getElem hk,Option.getD_some,h2 k hk',VS (uI hG he) (fun x hx=>ZJ hx)] at h8
 have:(List.range N).countP (fun x=>yJ es x&&decide (jY N es rs (great.getD x 0).toNat=k))=(List.range N).countP fun y=>decide (y∈xM N es)&&decide (jY N es rs (g y)=k):=qn fun x hx=>by
  rw [Qz hG he hx];by_cases hq:x∈xM N es
  ·rw [hgl x hx,if_pos (by rw [Qz hG he hx];exact decide_eq_true hq),Int.toNat_natCast]
  ·rw [decide_eq_false hq,Bool.false_and,Bool.false_and]
 rw [this] at h8;have:r[k]=0:=by omega
 rw [this];simp [nz]
end
end Go.Proofs.YtneeknlhlkpnpaaGreat
/-
 Plain law: a rotation is the turn of a plan just if it has no handles and great angles fit. Written by an AI agent.
-/
namespace Go.Proofs.YtneeknlhlkpnpaaGreat
open Go.RowKit
section
variable {N:Nat}{es:List (Int×Int)}{rs:List (List Int)}
theorem dw{p:Nat→Bool}{F:Nat}(h:uz p F<0):∀i,i<F→p i=false:=fun i hi=>by
 unfold uz at h
 cases hq:(List.range F).find? p with
 | none=>
  cases hp:p i with
  | false=>rfl
  | true=>exact absurd hp (List.find?_eq_none.1 hq i (List.mem_range.2 hi))
 | some j=>rw [hq] at h;simp only at h;omega
theorem du{p:Nat→Bool}{F:Nat}(h:¬uz p F<0):∃i,i<F∧p i=true:=by
 unfold uz at h
 cases hq:(List.range F).find? p with
 | none=>rw [hq] at h;simp at h
 | some j=>exact ⟨j,List.mem_range.1 (List.mem_of_find?_eq_some hq),List.find?_some hq⟩
theorem pa{ord:List Int}{outs:List (List Int)}{en:List (List Itm)}{l:List Nat}{rF:List Itm}{s:Nat}(h:PlanR N es ord outs en l rF s)(hs:xo (jS N outs en) rs=true)(he:0<es.length):gen N es rs=0 ∧ ¬xl N es rs<0:=by
 have hT:=XP hs;refine ⟨by rw [hT.gen_e h.right,h.gen],fun hno=>?_⟩;obtain ⟨f,_,h1,h2,h3⟩:=mx h.fits he;unfold xl at hno;rw [hT.bim h.right,h2,if_pos rfl] at hno;have:=dw hno f (by rw [hT.faces h.right];exact h1);rw [hT.tryE_e h.right,h3] at this
 cases this
theorem mR(hg:GoodP N es)(hR:RightP N es rs)(h:es.length=0∨gen N es rs=0 ∧ ¬xl N es rs<0):∃ord outs en l rF s,PlanR N es ord outs en l rF s∧xo (jS N outs en) rs=true:=by
 have hrl:rs.length=N:=by have:=hR.len;omega
 rcases Nat.eq_zero_or_pos es.length with he | he
 ·have e0:es=[]:=List.length_eq_zero_iff.1 he;subst e0;obtain ⟨s,hsN,hs0,hsu⟩:=ZD hg;have hz:∀y,inD ([]:List (Int×Int)) y=0:=fun y=>rfl
  have hN:N=1:=by
   apply Classical.byContradiction;intro hne;have h0:=hsu 0 (by omega) (hz 0);have h1:=hsu 1 (by omega) (hz 1);omega
  subst hN;have hs:s=0:=by omega
  subst hs;have hc:CutR ([]:List (Int×Int)) [] 0 [] [] []:=(vZ (pl:=[]) (by simp) rfl (by simp) (by simp) rfl (fun _=>⟨rfl,rfl⟩) (fun h=>absurd rfl h)).2
  have hw:Walk ([]:List (Int×Int)) [[]] ([],[],List.replicate 1 []) [0] (yD [] [[]] 0,yd [0],[[]]):=by
   have:=Walk.cons (outs:=[[]]) (pl:=[]) (en:=List.replicate 1 []) (by simp) hc (Walk.nil _);simpa [yd] using this
  refine ⟨yd [0],[[]],[[]],[0],_,0,⟨hg,rfl,List.Perm.refl _,fun x hx=>?_,rfl,hw,hsN,hsu,rfl⟩,?_⟩
  ·have:x=0:=by omega
   subst this;exact List.Perm.refl _
  ·have hr0:rs=[[]]:=by
    match rs,hrl with
    | [r],_=>
     have:r=[]:=by
      rw [List.eq_nil_iff_forall_not_mem];intro a ha;have h1:=hR.at_ 0 (by simp) a ha;simp at h1;omega
     rw [this]
   rw [hr0];rfl
 ·obtain ⟨h1,h2⟩:gen N es rs=0 ∧ ¬xl N es rs<0:=h.resolve_left (by omega)
  have hf:Zb N es rs=true:=by
   unfold Zb;rw [show xz (N:Int) es=true from jB.2 hg,qZ.2 hR,decide_eq_true h1];rfl
  have hb:xP rs=true:=by
   cases hq:xP rs with
   | true=>rfl
   | false=>unfold xl at h2;rw [hq] at h2;simp at h2
  unfold xl at h2;rw [hb,if_pos rfl] at h2;obtain ⟨f,hf1,hf2⟩:=du h2;obtain ⟨great,hg2⟩:=lz hf he hf1 hb hf2;obtain ⟨s,hF,_⟩:=oW hg2 he;obtain ⟨D,P,Q,outs,ord,en,l,rF,hN,_,hP,hD⟩:=aA hF;refine ⟨ord,outs,en,l,rF,s,hP,cM ?_⟩
  have hT:yq rs (jS N outs en):=⟨by rw [qB,hrl],fun x hx=>by
   rw [hrl] at hx;obtain ⟨i,e⟩:=(hN x hx).turned
   exact ⟨i,by rw [e,hD x hx]⟩⟩
  exact hT.symm
theorem fW(xs ys:List (List Int)):uw xs ys=xo xs ys:=by
 unfold uw xN xo;congr 1;congr 1
 funext j
 exact cX _ _
end
end Go.Proofs.YtneeknlhlkpnpaaGreat
