import Derived.Test.YtneeknlhlkpnpaaGreatZWebTree
import Derived.Test.YtneeknlhlkpnpaaGreatZVw
import Derived.Test.YtneeknlhlkpnpaaGreatZPtM
import Derived.Test.YtneeknlhlkpnpaaGreatZAsg
import Derived.Test.YtneeknlhlkpnpaaGreatZRing6
/-
 Where the web is one of trees: the great angles, made (plain law). Written by an AI agent.
-/
namespace Go.Proofs.YtneeknlhlkpnpaaGreat
open Go.RowKit
theorem rx{n:Int}{es:List (Int×Int)}{rs:List (List Int)}(hf:zn n es rs=true)(he:0<es.length){f0:Nat}(hO:OutP n es rs f0) :
  pE (vtx es) (jT n es rs) (2*es.length) (zo rs.length es) (vr n es rs f0):=by
 have ha:=zN hf;have hR:=yF ha;have hin:=ya hR;have hG:=xM hf;rw [show n=(rs.length:Int) from hR.len.symm] at hG;have hL:=uQ (zz ha);change LeadP _ (roR n es rs) at hL;have hroF:=fun f (h:f<(jo n es rs).length)=>uX (zz ha) h;change ∀f,f<_→roR n es rs f<_ at hroF;have hweb:=fun x=>gR (x:=x) hf;have hbare:=fun x (hx:∀q∈(yl n es rs).filter hiQ,q.2.1≠x)=>UG hx (zz ha);change ∀x,_→roR n es rs _=_ at hbare;have hIn:=zz ha;have hmem:=fun x=>UM (x:=x) ha;have hfor:=(du hf he hO).1;have hs1:=YI hG;obtain ⟨s,hs⟩:∃s,yz rs.length es Prod.snd=[s]:=List.length_eq_one_iff.1 hs1
 have hsO:¬zI es s∧s<rs.length:=by
  have:=(VE hin (N:=rs.length) (x:=s)).1 (by rw [hs];simp);exact ⟨this.2,this.1⟩
 have hsE:qe es s:=by
  rcases ZB hin (Qv ha) he hsO.2 with h | h
  ·exact absurd h hsO.1
  ·exact h
 have hsh:∀x,x<rs.length → ¬qe es x→VG es rs x:=fun x hx hn=>by
  rcases ZB hin (Qv ha) he hx with ho | ho
  ·exact WQ hR ho hn
  ·exact absurd ho hn
 obtain ⟨hlt,⟨hs0,hs0M,hs0v,hs0f⟩,_,hinn⟩:=hO;rw [hs] at hs0v;have hs0v:vtx es hs0=s:=by simpa using hs0v
 -- the quads of the High angles
 have hquad:∀q∈(yl n es rs).filter hiQ,q.1<2*es.length∧vtx es q.1=q.2.1∧jT n es rs q.1=q.2.2.1:=fun q hq=>by
  obtain ⟨h1,_⟩:=List.mem_filter.1 hq;unfold yl at h1;rw [if_pos ha] at h1;obtain ⟨h,hh,rfl⟩:=List.mem_map.1 h1;exact ⟨List.mem_range.1 hh,rfl,rfl⟩
 have hcnt:∀f,((List.range (2*es.length)).filter fun h=>decide (zt es rs h=2)).countP (fun h=>decide (jT n es rs h=f))=((yl n es rs).filter hiQ).countP fun q=>decide (q.2.2.1=f):=fun f=>by
  unfold yl;rw [if_pos ha,List.countP_filter,List.countP_filter];unfold VV;rw [List.countP_map];rfl
 -- what is to be shown, face by face
 have hgoal:∀g:Nat→Nat,(∀f,f<(jo n es rs).length→(zo rs.length es).countP (fun x=>decide (jT n es rs (g x)=f))+1=((yl n es rs).filter hiQ).countP (fun q=>decide (q.2.2.1=f))+if f=f0 then 2 else 0) → ∀f,f<(vr n es rs f0).length→(vr n es rs f0).getD f 0=((zo rs.length es).countP (fun x=>decide (jT n es rs (g x)=f)):Nat):=fun g hg f hff=>by
  unfold vr at hff ⊢;rw [vK] at hff;rw [Qd hff];have h1:=hg f hff;rw [←hcnt f,List.countP_filter] at h1;have h2:(List.range (2*es.length)).countP (fun h=>decide (zt es rs h=2)&&decide (jT n es rs h=f))=(List.range (2*es.length)).countP fun h=>decide (jT n es rs h=f)&&decide (zt es rs h=2):=List.countP_congr fun h _=>by rw [Bool.and_comm]
  rw [h2];by_cases e:f=f0
  ·rw [if_pos e] at h1 ⊢;omega
  ·rw [if_neg e] at h1 ⊢;omega
 have hroE:roR n es rs=roH (jo n es rs).length ((yl n es rs).filter hiQ):=rfl;generalize hH:(yl n es rs).filter hiQ=H at *;generalize hF:(jo n es rs).length=F at *;generalize hro:roR n es rs=ro at *
 -- the roots
 have hex:∀c,∃x,(c<F∧ro c=c∧c≠ro f0)→x<rs.length∧ro (F+x)=c∧qe es x:=fun c=>by
  by_cases h:c<F∧ro c=c∧c≠ro f0
  ·have h1:=hinn c h.1 h.2.1;rw [if_neg h.2.2] at h1;unfold inC at h1;obtain ⟨x,hx,hp⟩:=List.countP_pos_iff.1 (show 0<_ by rw [h1];exact Nat.one_pos);rw [Bool.and_eq_true,decide_eq_true_eq,jt] at hp;exact ⟨x,fun _=>⟨List.mem_range.1 hx,hp.1,hp.2⟩⟩
  ·exact ⟨0,fun h'=>absurd h' h⟩
 obtain ⟨inn,hinnE⟩:=Classical.axiomOfChoice hex
 have hrt:∀c,c<F+rs.length→roH F H c=c→(if c<F then (if c=ro f0 then f0 else F+inn c) else c)<F+rs.length∧roH F H (if c<F then (if c=ro f0 then f0 else F+inn c) else c)=c:=fun c hc hcc=>by
  rw [←hroE] at hcc ⊢;by_cases h1:c<F
  ·rw [if_pos h1];by_cases h2:c=ro f0
   ·rw [if_pos h2];exact ⟨by omega,h2.symm⟩
   ·rw [if_neg h2];obtain ⟨k1,k2,_⟩:=hinnE c ⟨h1,hcc,h2⟩;exact ⟨by omega,k2⟩
  ·rw [if_neg h1];exact ⟨hc,hcc⟩
 obtain ⟨D,d1,d2,d3⟩:=sQ H hIn hfor _ hrt;rw [←hroE] at d3
 -- which things have an angle of their own
 have dface:∀f,f<F→D.count f=if f=f0 then 0 else 1:=fun f hff=>by
  rw [d3 f (by omega),if_pos (hroF f hff)];by_cases h2:ro f=ro f0
  ·rw [if_pos h2];by_cases e:f=f0
   ·rw [if_pos e,if_pos e.symm]
   ·rw [if_neg e,if_neg (fun h=>e h.symm)]
  ·rw [if_neg h2,if_neg (show ¬F+inn (ro f)=f by omega),if_neg (fun e=>h2 (by rw [e]))]
 have dsink:∀x,x<rs.length → ¬qe es x→D.count (F+x)=1:=fun x hx hn=>by
  have hr:=(hweb x).2 (hsh x hx hn);have hfx:=hL.fix (F+x) (by omega);rw [d3 (F+x) (by omega),if_pos hr];by_cases h2:ro (F+x)=ro f0
  ·rw [if_pos h2,if_neg (by omega)]
  ·rw [if_neg h2,if_neg];intro e;have e2:inn (ro (F+x))=x:=by omega
   have:=(hinnE (ro (F+x)) ⟨hr,hfx,h2⟩).2.2;rw [e2] at this;exact hn this
 have dinner:∀x,x<rs.length→qe es x→D.count (F+x)=0:=fun x hx hev=>by
  have hfx:=hL.fix (F+x) (by omega);rw [d3 (F+x) (by omega)];by_cases hr:ro (F+x)<F
  ·rw [if_pos hr];have h1:=hinn _ hr hfx;by_cases h2:ro (F+x)=ro f0
   ·rw [if_pos h2] at h1;unfold inC at h1;rw [List.countP_eq_zero] at h1;have:=h1 x (List.mem_range.2 hx);rw [decide_eq_true rfl,jt.2 hev] at this;simp at this
   ·rw [if_neg h2] at h1 ⊢;obtain ⟨k1,k2,k3⟩:=hinnE _ ⟨hr,hfx,h2⟩;unfold inC at h1;have h3:=ZR h1 (List.mem_range.1 (List.mem_range.2 k1)) (by rw [decide_eq_true k2,jt.2 k3];rfl) fun y=>decide (y=x);have h4:0<(List.range rs.length).countP fun i=>(decide (ro (F+i)=ro (F+x))&&tst (qe es i))&&decide (i=x):=List.countP_pos_iff.2 ⟨x,List.mem_range.2 hx,by rw [decide_eq_true rfl,jt.2 hev,decide_eq_true rfl];rfl⟩;rw [h3] at h4;by_cases e:inn (ro (F+x))=x
    ·rw [e,if_pos rfl]
    ·rw [if_neg (by simpa using e)] at h4;exact absurd h4 (Nat.lt_irrefl _)
  ·rw [if_neg hr,hbare x fun q hq e=>hr ((hweb x).2 ((hmem x).1 ⟨q,hq,e⟩)),if_pos rfl]
 -- by index
 have dlt:∀i,i<H.length→(D.getD i 0=(H.getD i (0,0,0,0)).2.2.1∨D.getD i 0=F+(H.getD i (0,0,0,0)).2.1)∧(H.getD i (0,0,0,0)).2.2.1<F∧(H.getD i (0,0,0,0)).2.1<rs.length∧H.getD i (0,0,0,0)∈H:=fun i hi=>by
  have hiD:i<D.length:=by omega
  have e1:D.getD i 0=D[i]:=by rw [List.getD_eq_getElem?_getD,List.getElem?_eq_getElem hiD];rfl
  have e2:H.getD i (0,0,0,0)=H[i]:=by rw [List.getD_eq_getElem?_getD,List.getElem?_eq_getElem hi];rfl
  rw [e1,e2];exact ⟨d2 i hiD hi,(hIn _ (List.getElem_mem hi)).1,(hIn _ (List.getElem_mem hi)).2,List.getElem_mem hi⟩
 have dcount:∀v,D.count v=(List.range H.length).countP fun i=>decide (D.getD i 0=v):=fun v=>by
  rw [←d1,List.count,ZY D 0];exact List.countP_congr fun i _=>by rw [beq_iff_eq,decide_eq_true_eq]
 have hidx:∀x,∃i,(x<rs.length ∧ ¬qe es x)→i<H.length∧D.getD i 0=F+x:=fun x=>by
  by_cases h:x<rs.length ∧ ¬qe es x
  ·have h1:=dsink x h.1 h.2;rw [dcount] at h1;obtain ⟨i,hi,hp⟩:=List.countP_pos_iff.1 (show 0<_ by rw [h1];exact Nat.one_pos);exact ⟨i,fun _=>⟨List.mem_range.1 hi,of_decide_eq_true hp⟩⟩
  ·exact ⟨0,fun h'=>absurd h' h⟩
 obtain ⟨idx,hidxE⟩:=Classical.axiomOfChoice hidx
 have hsinkq:∀x,x<rs.length → ¬qe es x→(H.getD (idx x) (0,0,0,0)).2.1=x∧H.getD (idx x) (0,0,0,0)∈H∧idx x<H.length:=fun x hx hn=>by
  obtain ⟨i1,i2⟩:=hidxE x ⟨hx,hn⟩;obtain ⟨j1,j2,j3,j4⟩:=dlt _ i1;refine ⟨?_,j4,i1⟩;rcases j1 with h | h<;>omega
 refine ⟨fun x=>if x=s then hs0 else (H.getD (idx x) (0,0,0,0)).1,fun x hx=>?_,hgoal _ fun f hff=>?_⟩
 ·show (if x=s then hs0 else (H.getD (idx x) (0,0,0,0)).1)<2*es.length∧vtx es (if x=s then hs0 else (H.getD (idx x) (0,0,0,0)).1)=x
  by_cases e:x=s
  ·rw [if_pos e];exact ⟨hs0M,by rw [hs0v,e]⟩
  ·rw [if_neg e];unfold zo at hx;rw [hs] at hx
   have hx2:x∈yz rs.length es Prod.fst:=by
    rcases List.mem_append.1 hx with h | h
    ·exact absurd (by simpa using h) e
    ·exact h
   obtain ⟨x1,x2⟩:=(xb hin).1 hx2;obtain ⟨k1,k2,k3⟩:=hsinkq x x1 x2;obtain ⟨q1,q2,q3⟩:=hquad _ k2;exact ⟨q1,by rw [q2,k1]⟩
 · -- the count at a face
  have hsn:¬s∈yz rs.length es Prod.fst:=fun h=>((xb hin).1 h).2 hsE
  have c1:(zo rs.length es).countP (fun x=>decide (jT n es rs (if x=s then hs0 else (H.getD (idx x) (0,0,0,0)).1)=f))=(if f=f0 then 1 else 0)+(List.range rs.length).countP fun x=>!tst (qe es x)&&decide ((H.getD (idx x) (0,0,0,0)).2.2.1=f):=by
   unfold zo;rw [List.countP_append,hs,List.countP_singleton,if_pos rfl,hs0f];congr 1
   ·by_cases e:f=f0
    ·rw [if_pos e,if_pos (by simpa using e.symm)]
    ·rw [if_neg e,if_neg (by simpa using fun h:f0=f=>e h.symm)]
   ·rw [Ja (kx rs.length Prod.fst) (fun x hx=>((xb hin).1 hx).1)];refine jP fun x hx=>?_;rw [Bool.eq_iff_iff,Bool.and_eq_true,Bool.and_eq_true,decide_eq_true_eq,decide_eq_true_eq,decide_eq_true_eq,Bool.not_eq_true',kC];constructor
    ·rintro ⟨h1,h2⟩;have hn:=((xb hin).1 h1).2;have e:x≠s:=fun e=>hsn (e▸h1);rw [if_neg e] at h2;obtain ⟨k1,k2,_⟩:=hsinkq x hx hn;exact ⟨hn,(hquad _ k2).2.2.symm.trans h2⟩
    ·rintro ⟨hn,h2⟩;have h1:=(xb hin (N:=rs.length)).2 ⟨hx,hn⟩;have e:x≠s:=fun e=>hsn (e▸h1);rw [if_neg e];obtain ⟨k1,k2,_⟩:=hsinkq x hx hn;exact ⟨h1,(hquad _ k2).2.2.trans h2⟩
  have c2:H.countP (fun q=>decide (q.2.2.1=f))=(List.range H.length).countP fun i=>decide ((H.getD i (0,0,0,0)).2.2.1=f):=ZY H (0,0,0,0) _;have c3:=qy (List.range H.length) (fun i=>decide ((H.getD i (0,0,0,0)).2.2.1=f)) fun i=>decide (D.getD i 0=f)
  have c4:(List.range H.length).countP (fun i=>decide ((H.getD i (0,0,0,0)).2.2.1=f)&&decide (D.getD i 0=f))=if f=f0 then 0 else 1:=by
   rw [←dface f hff,dcount];refine jP fun i hi=>?_;obtain ⟨j1,j2,j3,j4⟩:=dlt i hi;rw [Bool.eq_iff_iff,Bool.and_eq_true,decide_eq_true_eq,decide_eq_true_eq];constructor
   ·exact fun h=>h.2
   ·intro h;refine ⟨?_,h⟩;rcases j1 with e | e<;>omega
  have c5:(List.range H.length).countP (fun i=>decide ((H.getD i (0,0,0,0)).2.2.1=f) && !decide (D.getD i 0=f))=(List.range rs.length).countP fun x=>!tst (qe es x)&&decide ((H.getD (idx x) (0,0,0,0)).2.2.1=f):=by
   rw [zU (v:=fun i=>(H.getD i (0,0,0,0)).2.1) (M:=rs.length) _ H.length (fun k hk=>(dlt k hk).2.2.1),←vY];refine zg fun x hx=>?_
   have e1:(List.range H.length).countP (fun i=>decide ((H.getD i (0,0,0,0)).2.1=x)&&(decide ((H.getD i (0,0,0,0)).2.2.1=f) && !decide (D.getD i 0=f)))=(List.range H.length).countP fun i=>decide (D.getD i 0=F+x)&&decide ((H.getD i (0,0,0,0)).2.2.1=f):=jP fun i hi=>by
    obtain ⟨j1,j2,j3,j4⟩:=dlt i hi;rw [Bool.eq_iff_iff];simp only [Bool.and_eq_true,decide_eq_true_eq,Bool.not_eq_true',decide_eq_false_iff_not];constructor
    ·rintro ⟨a,b,c⟩;rcases j1 with e | e
     ·omega
     ·exact ⟨by omega,b⟩
    ·rintro ⟨a,b⟩;rcases j1 with e | e
     ·omega
     ·exact ⟨by omega,b,by omega⟩
   rw [e1];by_cases hev:qe es x
   ·rw [if_neg (by rw [jt.2 hev];simp),List.countP_eq_zero];intro i hi h;have h0:=dinner x hx hev;rw [dcount,List.countP_eq_zero] at h0;rw [Bool.and_eq_true] at h;exact h0 i hi h.1
   ·have h1:=dsink x hx hev;rw [dcount] at h1;obtain ⟨i1,i2⟩:=hidxE x ⟨hx,hev⟩;rw [ZR h1 i1 (decide_eq_true i2) fun i=>decide ((H.getD i (0,0,0,0)).2.2.1=f),kC.2 hev];rfl
  rw [c1,c2,c3,c4,c5];by_cases e:f=f0
  ·rw [if_pos e,if_pos e,if_pos e];omega
  ·rw [if_neg e,if_neg e,if_neg e];omega
end Go.Proofs.YtneeknlhlkpnpaaGreat
/-
 forest.Outers' faces are just those that the web tells; those just where great angles fit (plain law). Written by an AI agent.
-/
namespace Go.Proofs.YtneeknlhlkpnpaaGreat
open Go.RowKit
/-- rising lists of the same things are one -/
theorem WW:∀ {a b:List Int},a.Pairwise (· < ·)→b.Pairwise (· < ·)→(∀x,x∈a↔x∈b)→a=b
 | [],[],_,_,_=>rfl
 | [],y::b,_,_,h=>absurd ((h y).2 (by simp)) (by simp)
 | x::a,[],_,_,h=>absurd ((h x).1 (by simp)) (by simp)
 | x::a,y::b,ha,hb,h=>by
  obtain ⟨ha1,ha2⟩:=List.pairwise_cons.1 ha;obtain ⟨hb1,hb2⟩:=List.pairwise_cons.1 hb
  have hxy:x=y:=by
   rcases List.mem_cons.1 ((h x).1 (by simp)) with e | e
   ·exact e
   ·rcases List.mem_cons.1 ((h y).2 (by simp)) with e2 | e2
    ·exact e2.symm
    ·have:=hb1 x e;have:=ha1 y e2;omega
  subst hxy;rw [WW ha2 hb2 fun z=>?_];constructor
  ·intro hz;rcases List.mem_cons.1 ((h z).1 (by simp [hz])) with e | e
   ·subst e;have:=ha1 z hz;omega
   ·exact e
  ·intro hz;rcases List.mem_cons.1 ((h z).2 (by simp [hz])) with e | e
   ·subst e;have:=hb1 z hz;omega
   ·exact e
theorem Ut(d:Array Int)(hs:∀i j,i≤j→j<d.size→d[i]! ≤ d[j]!):∀m,m≤d.size→(∀a,a∈Lib.compactUpTo d m ↔ ∃i,i<m∧d[i]! = a)∧(Lib.compactUpTo d m).Pairwise (· < ·)
 | 0,_=>⟨fun a=>⟨fun h=>absurd h (by simp [Lib.compactUpTo]),fun ⟨i,h,_⟩=>absurd h (Nat.not_lt_zero _)⟩,by simp [Lib.compactUpTo]⟩
 | m+1,hm=>by
  obtain ⟨h1,h2⟩:=Ut d hs m (by omega);rw [Lib.compactUpTo_succ]
  cases hk:Lib.keeps d m with
  | true=>
   rw [if_pos rfl];refine ⟨fun a=>?_,?_⟩
   ·rw [List.mem_append,h1 a,List.mem_singleton];constructor
    ·rintro (⟨i,hi,e⟩ | e)
     ·exact ⟨i,by omega,e⟩
     ·exact ⟨m,by omega,e.symm⟩
    ·rintro ⟨i,hi,e⟩;by_cases e2:i=m
     ·subst e2;exact .inr e.symm
     ·exact .inl ⟨i,by omega,e⟩
   ·rw [List.pairwise_append];refine ⟨h2,by simp,fun a ha b hb=>?_⟩;rw [List.mem_singleton] at hb;subst hb;obtain ⟨i,hi,e⟩:=(h1 a).1 ha;have k1:=hs i (m-1) (by omega) (by omega);have k2:=hs (m-1) m (by omega) (by omega)
    have k3:d[m]! ≠ d[m-1]! :=by
     unfold Lib.keeps at hk;rcases of_decide_eq_true hk with h | h
     ·omega
     ·exact h
    omega
  | false=>
   rw [if_neg (by simp),List.append_nil];refine ⟨fun a=>?_,h2⟩;unfold Lib.keeps at hk;have hk:=of_decide_eq_false hk;have hm0:m≠0:=fun e=>hk (.inl e);have he:d[m]! = d[m-1]! :=Classical.byContradiction fun e=>hk (.inr e);rw [h1 a];constructor
   ·rintro ⟨i,hi,e⟩;exact ⟨i,by omega,e⟩
   ·rintro ⟨i,hi,e⟩;by_cases e2:i=m
    ·subst e2;exact ⟨i-1,by omega,by rw [←he];exact e⟩
    ·exact ⟨i,by omega,e⟩
theorem uq(l:List Int):(∀a,a∈Lib.compact (l.mergeSort leI)↔a∈l)∧(Lib.compact (l.mergeSort leI)).Pairwise (· < ·):=by
 have hp:=List.pairwise_mergeSort (le:=leI) (fun a b c h k=>by
  unfold leI at *;simp only [decide_eq_true_eq] at *;omega) (fun a b=>by
  unfold leI;simp only [Bool.or_eq_true,decide_eq_true_eq]
  omega) l
 have hm:∀a,a∈l.mergeSort leI↔a∈l:=fun a=>List.mem_mergeSort;generalize l.mergeSort leI=z at *
 have hget:∀i (h:i<z.length),z.toArray[i]! = z[i]:=fun i h=>by
  rw [getElem!_pos _ i (by simpa using h)];simp
 obtain ⟨h1,h2⟩:=Ut z.toArray (fun i j hij hj=>by
  have hj':j<z.length:=by simpa using hj
  rw [hget i (by omega),hget j hj'];rcases Nat.lt_or_eq_of_le hij with h | h
  ·have:=List.pairwise_iff_getElem.1 hp i j (by omega) hj' h;unfold leI at this;exact of_decide_eq_true this
  ·subst h;exact Int.le_refl _) z.length (by simp)
 refine ⟨fun a=>?_,h2⟩;unfold Lib.compact;rw [h1 a,←hm a];constructor
 ·rintro ⟨i,hi,e⟩;rw [hget i hi] at e;exact e▸List.getElem_mem hi
 ·intro ha;obtain ⟨i,hi,e⟩:=List.getElem_of_mem ha;exact ⟨i,hi,by rw [hget i hi];exact e⟩
section
variable {tb:Nat→Bool}{ci:Nat→Nat}
theorem GA:∀ {m:Nat},(∀k,k<m→tb k=true∧ci k=1)→zX tb ci m=some (-1)
 | 0,_=>rfl
 | m+1,h=>by
  have ih:=GA (m:=m) fun k hk=>h k (by omega);obtain ⟨h1,h2⟩:=h m (by omega);rw [JR ih (by unfold Vh;rw [h1,h2];rfl),h2];rfl
theorem Xv{k0:Nat}:∀ {m:Nat},k0<m→(∀k,k<m→tb k=true∧ci k=if k=k0 then 0 else 1)→zX tb ci m=some (k0:Int)
 | m+1,hk,h=>by
  obtain ⟨h1,h2⟩:=h m (by omega);by_cases e:m=k0
  ·subst e
   have ih:=GA (tb:=tb) (ci:=ci) (m:=m) fun k hk=>by
    have:=h k (by omega);rw [if_neg (by omega)] at this;exact this
   rw [if_pos rfl] at h2;rw [JR ih (by unfold Vh;rw [h1,h2];rfl),if_pos h2]
  ·rw [if_neg e] at h2;have ih:=Xv (k0:=k0) (m:=m) (by omega) fun k hk=>h k (by omega);rw [JR ih (by unfold Vh;rw [h1,h2];rfl),if_neg (by omega)]
theorem Uk:∀ {m:Nat} {fr:Int},zX tb ci m=some fr→(fr = -1 ∧ ∀k,k<m→tb k=true∧ci k=1) ∨ ∃k0:Nat,k0<m∧fr=k0 ∧ ∀k,k<m→tb k=true∧ci k=if k=k0 then 0 else 1
 | 0,fr,h=>by
  simp [zX] at h;exact .inl ⟨h.symm,fun k hk=>absurd hk (Nat.not_lt_zero _)⟩
 | m+1,fr,h=>by
  cases hf:zX tb ci m with
  | none=>rw [zX,hf] at h;cases h
  | some f0=>
   have ih:=Uk hf;by_cases hb:Vh (tb m) (ci m) f0=true
   ·rw [Xw hf hb] at h;cases h
   ·have hb':Vh (tb m) (ci m) f0=false:=by simpa using hb
    rw [JR hf hb'] at h;injection h with h;unfold Vh at hb';simp only [Bool.or_eq_false_iff,Bool.not_eq_false',decide_eq_false_iff_not,Bool.and_eq_false_iff] at hb';obtain ⟨b1,b2,b3⟩:=hb';rcases ih with ⟨e,ih⟩ | ⟨k0,hk0,e,ih⟩
    ·by_cases hz:ci m=0
     ·rw [if_pos hz] at h;refine .inr ⟨m,by omega,h.symm,fun k hk=>?_⟩;by_cases e2:k=m
      ·rw [if_pos e2,e2];exact ⟨b1,hz⟩
      ·rw [if_neg e2];exact ih k (by omega)
     ·rw [if_neg hz] at h;refine .inl ⟨by omega,fun k hk=>?_⟩;by_cases e2:k=m
      ·rw [e2];exact ⟨b1,by omega⟩
      ·exact ih k (by omega)
    ·have hz:ci m≠0:=fun hz=>by
      rcases b3 with b | b
      ·exact b hz
      ·exact b (by omega)
     rw [if_neg hz] at h;refine .inr ⟨k0,by omega,by omega,fun k hk=>?_⟩;by_cases e2:k=m
     ·rw [if_neg (by omega),e2];exact ⟨b1,by omega⟩
     ·exact ih k (by omega)
end
section
variable {n:Int}{es:List (Int×Int)}{rs:List (List Int)}
theorem dj{ro:Nat→Nat}{F c:Nat}(hro:∀f,f<F→ro f<F)(hfix:∀f,f<F→ro (ro f)=ro f)(hc:c<F)(hcc:ro c=c):rlF ro F (pos ro c)=(kH ro F c).map Int.ofNat:=by
 unfold rlF kH;congr 1;refine List.filter_congr fun y hy=>?_;have hy:=List.mem_range.1 hy;have:=Qt (hfix y hy) hcc (hro y hy) hc;rw [Bool.eq_iff_iff,decide_eq_true_eq,decide_eq_true_eq];exact this
theorem di{ro:Nat→Nat}{F N c:Nat}(hfix:∀y,y<F+N→ro (ro y)=ro y)(hc:c<F)(hcc:ro c=c):rlV ro F N (pos ro c)=(km ro F N c).map Int.ofNat:=by
 unfold rlV km;congr 1;refine List.filter_congr fun y hy=>?_;have hy:=List.mem_range.1 hy;rw [Bool.eq_iff_iff,decide_eq_true_eq,decide_eq_true_eq];constructor
 ·rintro ⟨h1,h2⟩;exact (Qt (hfix (F+y) (by omega)) hcc h1 hc).1 h2
 ·intro h;rw [h];exact ⟨hc,rfl⟩
theorem rY{ro:Nat→Nat}{F N c:Nat}{H:List zu}(hIn:InH F N H)(hro:∀f,f<F→ro f<F)(hfix:∀f,f<F→ro (ro f)=ro f)(hc:c<F)(hcc:ro c=c):cA ro H (pos ro c)=uC ro H c:=by
 unfold cA uC;refine List.countP_congr fun q hq=>?_;have h1:=(hIn q hq).1;have:=Qt (hfix _ h1) hcc (hro _ h1) hc;rw [decide_eq_true_eq,decide_eq_true_eq];exact this
/-- the faces told -/
theorem dv(hf:zn n es rs=true)(_he:0<es.length):(∀a:Int,a∈Ve n es rs ↔ ∃f:Nat,a=f∧OutP n es rs f)∧(Ve n es rs).Pairwise (· < ·):=by
 have ha:=zN hf;have hR:=yF ha;have hin:=ya hR;have hG:=xM hf;rw [show n=(rs.length:Int) from hR.len.symm] at hG;have hIn:=zz ha;have hL:=uQ hIn;change LeadP _ (roR n es rs) at hL;have hroF:=fun f (h:f<(jo n es rs).length)=>uX hIn h;change ∀f,f<_→roR n es rs f<_ at hroF;have hfixF:∀f,f<(jo n es rs).length→roR n es rs (roR n es rs f)=roR n es rs f:=fun f h=>hL.fix f (by omega);have hs1:=YI hG;obtain ⟨s,hs⟩:∃s,yz rs.length es Prod.snd=[s]:=List.length_eq_one_iff.1 hs1;have hsv:(yP rs.length es Prod.snd).getD 0 0=(s:Int):=by unfold yP;rw [hs];rfl
 -- by place, by leader
 have hT:∀c,c<(jo n es rs).length→roR n es rs c=c→(Jf (roR n es rs) ((yl n es rs).filter hiQ) (jo n es rs).length rs.length (pos (roR n es rs) c)=true↔uC (roR n es rs) ((yl n es rs).filter hiQ) c+1=(kH (roR n es rs) (jo n es rs).length c).length+(km (roR n es rs) (jo n es rs).length rs.length c).length):=fun c hc hcc=>by
  unfold Jf;rw [Vn,KC,dj hroF hfixF hc hcc,di hL.fix hc hcc,rY hIn hroF hfixF hc hcc,List.length_map,List.length_map,beq_iff_eq];omega
 have hI:∀c,c<(jo n es rs).length→roR n es rs c=c→Vg es (roR n es rs) (jo n es rs).length rs.length (pos (roR n es rs) c)=inC es (roR n es rs) (jo n es rs).length rs.length c:=fun c hc hcc=>by
  unfold Vg Ji inC;rw [KC,di hL.fix hc hcc,List.take_length,List.countP_map];unfold km;rw [List.countP_filter];refine List.countP_congr fun x hx=>?_;have hev:=mx hin (x:=x);unfold aQ at hev;simp only [Function.comp,Bool.and_eq_true,decide_eq_true_eq,jt,Bool.not_eq_true',aD] at hev ⊢;rw [←hev,beq_eq_false_iff_ne];constructor
  ·rintro ⟨a,b⟩;refine ⟨b,?_⟩;change ((jK es Prod.fst (x:Int) es.length).length:Int)≠0 at a;omega
  ·rintro ⟨b,a⟩;refine ⟨?_,b⟩;change ((jK es Prod.fst (x:Int) es.length).length:Int)≠0;omega
 have hplace:∀k,k<pos (roR n es rs) (jo n es rs).length → ∃c,k=pos (roR n es rs) c∧roR n es rs c=c∧c<(jo n es rs).length:=fun k hk=>by
  have hk':k<(Qp (roR n es rs) (jo n es rs).length).length:=hk;exact ⟨_,iz (List.getElem?_eq_getElem hk')⟩
 have hmemA:∀q,q∈yl n es rs ↔ ∃h,h<2*es.length∧q=QL n es rs h:=fun q=>by
  unfold yl;rw [if_pos ha];unfold VV;rw [List.mem_map];exact ⟨fun ⟨h,h1,h2⟩=>⟨h,List.mem_range.1 h1,h2.symm⟩,fun ⟨h,h1,h2⟩=>⟨h,List.mem_range.2 h1,h2.symm⟩⟩
 -- what is selected
 have hsel:∀c,c<(jo n es rs).length→roR n es rs c=c → ∀a:Int,a∈kf (s:Int) (rlB (roR n es rs) (jo n es rs).length rs.length (2*pos (roR n es rs) c)) (yl n es rs) ↔ ∃f:Nat,a=f∧f<(jo n es rs).length∧roR n es rs f=c ∧ ∃h,h<2*es.length∧vtx es h=s∧jT n es rs h=f:=fun c hc hcc a=>by
  unfold kf;rw [List.mem_map,Vn,dj hroF hfixF hc hcc];constructor
  ·rintro ⟨q,hq,rfl⟩;obtain ⟨h1,h2⟩:=List.mem_filter.1 hq;rw [Bool.and_eq_true,decide_eq_true_eq,decide_eq_true_eq,dM.1] at h2;obtain ⟨h,hh,rfl⟩:=(hmemA q).1 h1;obtain ⟨y,hy,e⟩:=List.mem_map.1 h2.2;have hyf:y=jT n es rs h:=Int.ofNat.inj e;have hy2:=List.mem_filter.1 hy;refine ⟨jT n es rs h,rfl,(yh hR hh).1,?_,h,hh,?_,rfl⟩
   ·rw [←hyf];exact of_decide_eq_true hy2.2
   ·have:((vtx es h:Nat):Int)=(s:Int):=h2.1;omega
  ·rintro ⟨f,rfl,hf1,hf2,h,hh,hv,hfh⟩;refine ⟨QL n es rs h,List.mem_filter.2 ⟨(hmemA _).2 ⟨h,hh,rfl⟩,?_⟩,by show ((jT n es rs h:Nat):Int)=f;rw [hfh]⟩;rw [Bool.and_eq_true,decide_eq_true_eq,decide_eq_true_eq,dM.1];refine ⟨by show ((vtx es h:Nat):Int)=s;rw [hv],List.mem_map.2 ⟨f,List.mem_filter.2 ⟨List.mem_range.2 hf1,decide_eq_true hf2⟩,?_⟩⟩
   show (f:Int)=((jT n es rs h:Nat):Int)
   rw [hfh]
 have hOR:Ve n es rs=WG es (roR n es rs) (jo n es rs).length rs.length (yl n es rs):=by unfold Ve;rw [if_pos hf]
 rw [hOR]
 -- from the web's face to the list
 have hto:∀f,OutP n es rs f→WG es (roR n es rs) (jo n es rs).length rs.length (yl n es rs)=Lib.compact ((kf (s:Int) (rlB (roR n es rs) (jo n es rs).length rs.length (2*pos (roR n es rs) (roR n es rs f))) (yl n es rs)).mergeSort leI):=fun f hO=>by
  have hc0:=hroF f hO.lt;have hc0f:=hfixF f hO.lt;rw [←hsv];refine Vp (Xv (QA hc0f hc0) fun k hk=>?_);obtain ⟨c,rfl,hcc,hc⟩:=hplace k hk;refine ⟨(hT c hc hcc).2 (hO.tree c hc hcc),?_⟩;rw [hI c hc hcc,hO.inn c hc hcc];by_cases e:c=roR n es rs f
  ·rw [if_pos e,if_pos (by rw [e])]
  ·rw [if_neg e,if_neg fun h=>e ((Qt hcc hc0f hc hc0).1 h)]
 -- and back
 have hback:∀fr:Nat,zX (Jf (roR n es rs) ((yl n es rs).filter hiQ) (jo n es rs).length rs.length) (Vg es (roR n es rs) (jo n es rs).length rs.length) (pos (roR n es rs) (jo n es rs).length)=some (fr:Int) → ∃c,fr=pos (roR n es rs) c∧roR n es rs c=c∧c<(jo n es rs).length ∧ ∀f,f<(jo n es rs).length→roR n es rs f=c→(∃h,h<2*es.length∧vtx es h=s∧jT n es rs h=f)→OutP n es rs f:=fun fr hfr=>by
  rcases Uk hfr with ⟨e,_⟩ | ⟨k0,hk0,e,hall⟩
  ·omega
  ·have:k0=fr:=by omega
   subst this;obtain ⟨c0,rfl,hcc0,hc0⟩:=hplace k0 hk0;refine ⟨c0,rfl,hcc0,hc0,fun f hf1 hf2 ⟨h,hh,hv,hfh⟩=>⟨hf1,⟨h,hh,by rw [hs,hv];simp,hfh⟩,fun c hc hcc=>?_,fun c hc hcc=>?_⟩⟩
   ·exact (hT c hc hcc).1 (hall _ (QA hcc hc)).1
   ·rw [←hI c hc hcc,(hall _ (QA hcc hc)).2,hf2];by_cases e:c=c0
    ·rw [if_pos e,if_pos (by rw [e])]
    ·rw [if_neg e,if_neg fun h=>e ((Qt hcc hcc0 hc hc0).1 h)]
 have hsrcO:∀f,OutP n es rs f → ∃h,h<2*es.length∧vtx es h=s∧jT n es rs h=f:=fun f hO=>by
  obtain ⟨h,hh,hv,hfh⟩:=hO.src;rw [hs] at hv;exact ⟨h,hh,by simpa using hv,hfh⟩
 cases hfr:zX (Jf (roR n es rs) ((yl n es rs).filter hiQ) (jo n es rs).length rs.length) (Vg es (roR n es rs) (jo n es rs).length rs.length) (pos (roR n es rs) (jo n es rs).length) with
 | none=>
  have hnil:=Gf hfr;rw [hnil];refine ⟨fun a=>⟨fun h=>absurd h (by simp),fun ⟨f,_,hO⟩=>?_⟩,List.Pairwise.nil⟩;obtain ⟨h,hh,hv,hfh⟩:=hsrcO f hO;have h1:=hto f hO;rw [hnil] at h1;have h2:=(uq (kf (s:Int) (rlB (roR n es rs) (jo n es rs).length rs.length (2*pos (roR n es rs) (roR n es rs f))) (yl n es rs))).1 (f:Int);rw [←h1] at h2;exact absurd (h2.2 ((hsel _ (hroF f hO.lt) (hfixF f hO.lt) _).2 ⟨f,rfl,hO.lt,rfl,h,hh,hv,hfh⟩)) (by simp)
 | some fr=>
  by_cases hn:fr<0
  ·have hnil:=dw hfr hn;rw [hnil];refine ⟨fun a=>⟨fun h=>absurd h (by simp),fun ⟨f,_,hO⟩=>?_⟩,List.Pairwise.nil⟩;obtain ⟨h,hh,hv,hfh⟩:=hsrcO f hO;have h1:=hto f hO;rw [hnil] at h1;have h2:=(uq (kf (s:Int) (rlB (roR n es rs) (jo n es rs).length rs.length (2*pos (roR n es rs) (roR n es rs f))) (yl n es rs))).1 (f:Int);rw [←h1] at h2;exact absurd (h2.2 ((hsel _ (hroF f hO.lt) (hfixF f hO.lt) _).2 ⟨f,rfl,hO.lt,rfl,h,hh,hv,hfh⟩)) (by simp)
  ·obtain ⟨k,rfl⟩:∃k:Nat,fr=(k:Int):=⟨fr.toNat,by omega⟩;have hp:=Vp hfr;rw [hsv] at hp;obtain ⟨c,rfl,hcc,hc,hall⟩:=hback k hfr;rw [hp];obtain ⟨m1,m2⟩:=uq (kf (s:Int) (rlB (roR n es rs) (jo n es rs).length rs.length (2*pos (roR n es rs) c)) (yl n es rs));refine ⟨fun a=>?_,m2⟩;rw [m1 a,hsel c hc hcc a];constructor
   ·rintro ⟨f,rfl,hf1,hf2,hsr⟩;exact ⟨f,rfl,hall f hf1 hf2 hsr⟩
   ·rintro ⟨f,rfl,hO⟩;refine ⟨f,rfl,hO.lt,?_,hsrcO f hO⟩
    -- the part is told by its having no inner vertex
    have e1:=hto f hO;have e2:=hback (pos (roR n es rs) c) hfr
    have q1:zX (Jf (roR n es rs) ((yl n es rs).filter hiQ) (jo n es rs).length rs.length) (Vg es (roR n es rs) (jo n es rs).length rs.length) (pos (roR n es rs) (jo n es rs).length)=some ((pos (roR n es rs) (roR n es rs f):Nat):Int):=Xv (QA (hfixF f hO.lt) (hroF f hO.lt)) fun k hk=>by
     obtain ⟨c',rfl,hcc',hc'⟩:=hplace k hk;refine ⟨(hT c' hc' hcc').2 (hO.tree c' hc' hcc'),?_⟩;rw [hI c' hc' hcc',hO.inn c' hc' hcc'];by_cases e:c'=roR n es rs f
     ·rw [if_pos e,if_pos (by rw [e])]
     ·rw [if_neg e,if_neg fun h=>e ((Qt hcc' (hfixF f hO.lt) hc' (hroF f hO.lt)).1 h)]
    rw [hfr] at q1;injection q1 with q1;exact ((Qt hcc (hfixF f hO.lt) hc (hroF f hO.lt)).1 (by omega)).symm
/-- .. just those with which great angles fit -/
theorem ii(hf:zn n es rs=true)(he:0<es.length)(f:Nat):OutP n es rs f↔f<(jo n es rs).length∧VU rs=true∧fY n es rs f=true:=by
 have ha:=zN hf;have hR:=yF ha
 have htry:fY n es rs f=true↔pE (vtx es) (jT n es rs) (2*es.length) (zo rs.length es) (vr n es rs f):=by
  unfold fY
  exact VB _ _ (oQ ha he) fun h hh=>by
   unfold vr;rw [vK];exact (yh hR hh).1
 rw [htry];constructor
 ·intro hO;exact ⟨hO.lt,(du hf he hO).2,rx hf he hO⟩
 ·rintro ⟨h1,_,h3⟩;exact sM hf he h1 h3
end
end Go.Proofs.YtneeknlhlkpnpaaGreat
/-
 The reference's Outers: the faces with which great angles fit. Written by an AI agent.
-/
namespace Go.Proofs.YtneeknlhlkpnpaaGreat
open Go.RowKit
/-- of the first i faces those with which great angles fit -/
noncomputable def UW(n:Int)(es:List (Int×Int))(rs:List (List Int))(i:Nat):List Int:=((List.range i).filter fun f=>fY n es rs f).map Int.ofNat
theorem Wk(n:Int)(es:List (Int×Int))(rs:List (List Int))(i:Nat):(UW n es rs i).length≤i:=by
 unfold UW;rw [List.length_map];exact Nat.le_trans (List.length_filter_le _ _) (by simp)
noncomputable def KF(n:Int)(es:List (Int×Int))(rs:List (List Int)):List Int:=if VU rs=true then UW n es rs (jo n es rs).length else []
theorem But.low{S:List Nat}{w w' w'':World}(h:But S w w')(k:Below w.heap.size w' w''):But S w w'':=
 ⟨k.os.trans h.os,k.tape.trans h.tape,k.output.trans h.output,Nat.le_trans h.size k.size,fun i hi hs=>(k.block i hi).trans (h.block i hi hs)⟩
/-- one list -/
theorem fD{n:Int}{es:List (Int×Int)}{rs:List (List Int)}(hf:zn n es rs=true)(he:0<es.length):Ve n es rs=KF n es rs:=by
 obtain ⟨h1,h2⟩:=dv hf he;have ht:=fun f=>ii hf he f;refine WW h2 ?_ fun a=>?_
 ·unfold KF
  split
  ·unfold UW;rw [List.pairwise_map];refine List.Pairwise.imp (fun {a b} h=>?_) (List.Pairwise.filter _ List.pairwise_lt_range)
   show (a:Int)<(b:Int)
   omega
  ·exact List.Pairwise.nil
 ·rw [h1 a];unfold KF;by_cases hb:VU rs=true
  ·rw [if_pos hb];unfold UW;rw [List.mem_map];constructor
   ·rintro ⟨f,rfl,hO⟩;obtain ⟨k1,_,k3⟩:=(ht f).1 hO;exact ⟨f,List.mem_filter.2 ⟨List.mem_range.2 k1,k3⟩,rfl⟩
   ·rintro ⟨f,hff,rfl⟩;obtain ⟨k1,k2⟩:=List.mem_filter.1 hff;exact ⟨f,rfl,(ht f).2 ⟨List.mem_range.1 k1,hb,k2⟩⟩
  ·rw [if_neg hb];constructor
   ·rintro ⟨f,rfl,hO⟩;exact absurd ((ht f).1 hO).2.1 hb
   ·intro h
    cases h
end Go.Proofs.YtneeknlhlkpnpaaGreat
/-
 Plain law: a state's next one: a vertex is placed, labels and ends go on. Written by an AI agent.
-/
namespace Go.Proofs.YtneeknlhlkpnpaaGreat
open Go.RowKit
/-- a state, as the map has it -/
structure StateI(N:Nat)(es:List (Int×Int))(rs:List (List Int))(o s:Nat)(gr:Nat→Nat)(Q:Nat→List Nat)(outs:List (List Int))(r:List Itm)(pl:List Int)(en:List (List Itm)):Prop where
 inv:SwI N es outs r pl en
 src:(s:Int)∈pl
 ch:chn (itL N es rs gr) (itR N es rs gr) o r o
 ends:∀x,x<N→(x:Int)∈pl→(en.getD x []).filter (fun e=>decide (e.1 ≠ -1))=(Q x).map (itE es)
section
variable {N:Nat}{es:List (Int×Int)}{rs:List (List Int)}{o s:Nat}{gr:Nat→Nat}{D P Q:Nat→List Nat}{outs:List (List Int)}{r:List Itm}{pl:List Int}{en:List (List Itm)}
theorem UP(i:Nat):itL N es rs gr (itE es i)=jT N es rs (ot (2*i)):=by
 unfold itL;rw [if_neg (fun e=>by have e:(i:Int) = -1:=e;omega)];rfl
theorem UO(i:Nat):itR N es rs gr (itE es i)=jT N es rs (ot (2*i+1)):=by
 unfold itR;rw [if_neg (fun e=>by have e:(i:Int) = -1:=e;omega)];rfl
/-- the labels of what stands above a vertex -/
theorem Kg(hf:FitT N es rs o s gr){w:Nat}(hD:NormR es rs gr w (D w) (P w) (Q w))(_hP:P w≠[]):∀(k n:Nat) (h:k+n<(P w).length),chn (itL N es rs gr) (itR N es rs gr) (jT N es rs (ot (2*(P w)[k]'(by omega)))) ((((P w).drop k).take (n+1)).map (itE es)) (jT N es rs (ot (2*(P w)[k+n]+1))):=by
 intro k n
 induction n generalizing k with
 | zero=>
  intro h;have h:k<(P w).length:=h;rw [List.drop_eq_getElem_cons h];exact ⟨UP _,UO _⟩
 | succ n ih=>
  intro h;rw [List.drop_eq_getElem_cons (show k<(P w).length by omega),List.take_succ_cons,List.map_cons];refine ⟨UP _,?_⟩;have h1:=ih (k+1) (by omega);have e:k+1+n=k+(n+1):=by omega
  simp only [e] at h1;have hn:=hD.next k (by rw [hD.len];omega)
  rw [hD.atP (show k<(P w).length by omega),hD.atP (show k+1<(P w).length by omega)] at hn
  have h2:itR N es rs gr (itE es ((P w)[k]'(by omega)))=jT N es rs (ot (2*(P w)[k+1]'(by omega))):=by
   rw [UO,uR,←hn,vg hf.right];have:=(hD.memP.1 (List.getElem_mem (show k<(P w).length by omega))).1;omega
  rw [h2];exact h1
end
end Go.Proofs.YtneeknlhlkpnpaaGreat
/-
 Plain law: the vertex that is placed next. Written by an AI agent.
-/
namespace Go.Proofs.YtneeknlhlkpnpaaGreat
open Go.RowKit
section
variable {N:Nat}{es:List (Int×Int)}{rs:List (List Int)}{o s:Nat}{gr:Nat→Nat}{D P Q:Nat→List Nat}{outs:List (List Int)}{r:List Itm}{pl:List Int}{en:List (List Itm)}
theorem lA(hI:SwI N es outs r pl en)(hO:vS N es outs):r.filter (fun e=>decide (e.1 ≠ -1))=(eF r).map (itE es):=by
 unfold eF;rw [List.map_map]
 conv=>lhs;rw [←List.map_id (r.filter _)]
 apply List.map_congr_left;intro e he;obtain ⟨h1,h2⟩:=List.mem_filter.1 he;rcases hI.item hO (List.mem_append_left _ h1) with ⟨i,_,_,rfl⟩ | ⟨x,_,_,rfl⟩
 ·rfl
 ·simp at h2
/-- the cut -/
theorem StateI.cut(hf:FitT N es rs o s gr)(hO:vS N es outs)(hD:∀x,x<N→NormR es rs gr x (D x) (P x) (Q x))(h:StateI N es rs o s gr Q outs r pl en){x:Nat}(hx:x<N)(hp:(x:Int)∉pl) :
  ∃w A E B,w<N∧(w:Int)∉pl∧w≠s∧Q w≠[]∧CutR es r w A E B∧E.filter (fun e=>decide (e.1 ≠ -1))=(Q w).map (itE es):=by
 have hin:=hf.inN;have hc:=mD hf hO h.inv h.src h.ch;obtain ⟨w,hg⟩:=cE hf hc hx hp;have hw:=hg.1.1;have hwp:(w:Int)∉pl:=hg.1.2.1;have hws:w≠s:=fun e=>hwp (by rw [e];exact h.src);have hN:=hD w hw
 have hQ:Q w≠[]:=by
  obtain ⟨k,hk,hv,ho⟩:=hf.odd_at hw hws;have ho2:k%2=1:=by unfold ev at ho;simpa using ho
  exact List.ne_nil_of_mem (hN.memQ.2 ⟨(by omega:k/2<es.length),by rw [show 2*(k/2)+1=k by omega];exact hv⟩)
 obtain ⟨X,Z,hXZ⟩:=fL hc.nd hN hg hQ;have hfil:=lA h.inv hO;rw [hXZ,List.map_append,List.map_append] at hfil;obtain ⟨A,E,B,hr,hA,hE,hB,⟨e1,k1,k2⟩,e2,k3,k4⟩:=al (fun e:Itm=>decide (e.1 ≠ -1)) r _ _ _ hfil (fun e=>hQ (List.map_eq_nil_iff.1 e));have hndr:=(List.nodup_append.1 (h.inv.nodup hO)).1
 have head:∀a∈Q w,(itE es a).2.2=(w:Int):=fun a ha=>by
  obtain ⟨h1,h2⟩:=hN.memQ.1 ha;have:=vn hin h1
  show (es.getD a (0,0)).2=(w:Int)
  omega
 have inQ:∀e∈r,e.2.2=(w:Int) → ∃a∈Q w,e=itE es a:=fun e he hew=>by
  rcases h.inv.item hO (List.mem_append_left _ he) with ⟨i,hi,_,rfl⟩ | ⟨x,_,_,rfl⟩
  ·refine ⟨i,hN.memQ.2 ⟨hi,?_⟩,rfl⟩;have:=vn hin hi;have hew:(es.getD i (0,0)).2=(w:Int):=hew;omega
  ·simp at hew
 have realE:∀e∈E,decide (e.1 ≠ -1)=true → ∃a∈Q w,e=itE es a:=fun e he hr2=>by
  have:e∈E.filter (fun e=>decide (e.1 ≠ -1)):=List.mem_filter.2 ⟨he,hr2⟩;rw [hE] at this;obtain ⟨a,ha,rfl⟩:=List.mem_map.1 this;exact ⟨a,ha,rfl⟩
 have hEr:∀e∈E,e∈r:=fun e he=>by rw [hr];simp [he]
 have hin2:∀a∈Q w,itE es a∈E:=fun a ha=>by
  have:itE es a∈E.filter (fun e=>decide (e.1 ≠ -1)):=by rw [hE];exact List.mem_map.2 ⟨a,ha,rfl⟩
  exact (List.mem_filter.1 this).1
 refine ⟨w,A,E,B,hw,hwp,hws,hQ,?_,hE⟩;refine (xN hwp hr (fun e he hew=>?_) (fun e he=>?_) ?_ (fun e=>?_) (fun _=>⟨⟨e1,k1,?_⟩,e2,k3,?_⟩)).2
 ·have her:e∈r:=by rw [hr];simp only [List.mem_append] at he ⊢;rcases he with he | he<;>simp [he]
  obtain ⟨a,ha,rfl⟩:=inQ e her hew;have hm:=hin2 a ha;rw [hr] at hndr;rcases List.mem_append.1 he with he | he
  ·exact (List.nodup_append.1 (List.nodup_append.1 hndr).1).2.2 _ he _ hm rfl
  ·exact (List.nodup_append.1 hndr).2.2 _ (List.mem_append_right _ hm) _ he rfl
 ·by_cases hl:e.1 = -1
  ·rcases h.inv.item hO (List.mem_append_left _ (hEr e he)) with ⟨i,_,_,rfl⟩ | ⟨x,_,_,rfl⟩
   ·have hl:(i:Int) = -1:=hl;omega
   ·exact .inr rfl
  ·obtain ⟨a,ha,rfl⟩:=realE e he (decide_eq_true hl);exact .inl (head a ha)
 ·have h1:E.countP (fun e=>decide (e.2.2=(w:Int)))=(E.filter fun e=>decide (e.1 ≠ -1)).length:=by
   rw [←List.countP_eq_length_filter];apply List.countP_congr;intro e he;simp only [decide_eq_true_eq];constructor
   ·intro hew hl;obtain ⟨a,_,rfl⟩:=inQ e (hEr e he) hew;have hl:(a:Int) = -1:=hl;omega
   ·intro hl;obtain ⟨a,ha,rfl⟩:=realE e he (decide_eq_true hl);exact head a ha
  rw [h1,hE,List.length_map];unfold inD
  have hpm:((Q w).map fun a:Nat=>(a:Int)).Perm (jK es Prod.snd (w:Nat) es.length):=by
   refine (List.perm_ext_iff_of_nodup ?_ (xK _ _ _ _)).2 fun a=>?_
   ·rw [List.nodup_iff_pairwise_ne,List.pairwise_map];exact (List.nodup_iff_pairwise_ne.1 hN.ndQ).imp fun h e=>h (by omega)
   ·rw [qs,List.mem_map];constructor
    ·rintro ⟨b,hb,rfl⟩;obtain ⟨h1,_⟩:=hN.memQ.1 hb;exact ⟨b,rfl,h1,head b hb⟩
    ·rintro ⟨b,rfl,h1,h2⟩;have:=vn hin h1;exact ⟨b,hN.memQ.2 ⟨h1,by omega⟩,rfl⟩
  rw [←hpm.length_eq,List.length_map]
 ·exfalso;rw [e] at k1
  cases k1
 ·obtain ⟨a,ha,rfl⟩:=realE e1 (List.mem_of_mem_head? k1) k2;exact head a ha
 ·obtain ⟨a,ha,rfl⟩:=realE e2 (List.mem_of_getLast? k3) k4;exact head a ha
end
end Go.Proofs.YtneeknlhlkpnpaaGreat
/-
 Plain law: labels at the vertex that is placed next. Written by an AI agent.
-/
namespace Go.Proofs.YtneeknlhlkpnpaaGreat
open Go.RowKit
section
variable {N:Nat}{es:List (Int×Int)}{rs:List (List Int)}{o s:Nat}{gr:Nat→Nat}{D P Q:Nat→List Nat}{outs:List (List Int)}{r:List Itm}{pl:List Int}{en:List (List Itm)}
theorem XY{α : Type}{p : α → Bool}{E:List α}{e : α}(h:E.head? = some e)(hp:p e=true):(E.filter p).head? = some e:=by
 cases E with
 | nil=>cases h
 | cons x t=>
  injection h with h;subst h;rw [List.filter_cons,if_pos hp];rfl
theorem cJ{α : Type}{p : α → Bool}{E:List α}{e : α}(h:E.getLast? = some e)(hp:p e=true):(E.filter p).getLast? = some e:=by
 rw [←List.head?_reverse] at h;have:=XY h hp;rw [List.filter_reverse,List.head?_reverse] at this;exact this
/-- the ups of a vertex, from the label left of what ends there to the label right of it -/
theorem lU(hf:FitT N es rs o s gr){w:Nat}(hN:NormR es rs gr w (D w) (P w) (Q w))(hQ:0<(Q w).length)(hP:P w≠[]):chn (itL N es rs gr) (itR N es rs gr) (jT N es rs (ot (2*(Q w)[0]))) ((P w).map (itE es)) (jT N es rs (ot (2*(Q w)[(Q w).length-1]+1))):=by
 have hp:=List.length_pos_iff.2 hP;have hl:=hN.len;have h1:=Kg hf hN hP 0 ((P w).length-1) (by omega);rw [List.drop_zero,List.take_of_length_le (by omega)] at h1;simp only [Nat.zero_add] at h1;have hw:=hN.wrap (by omega);have q0:=hN.atQ (k:=0) hQ;have e1:(P w).length+((Q w).length-1-0)=(D w).length-1:=by omega
 simp only [e1] at q0;rw [q0,hN.atP (k:=0) hp] at hw;have hn:=hN.next ((P w).length-1) (by omega)
 have q1:=hN.atQ (k:=(Q w).length-1) (by omega);have e2:(P w).length+((Q w).length-1-((Q w).length-1))=(P w).length-1+1:=by omega
 simp only [e2] at q1;rw [q1,hN.atP (k:=(P w).length-1) (by omega)] at hn;have m0:=(hN.memQ.1 (List.getElem_mem hQ)).1;have m1:=(hN.memP.1 (List.getElem_mem (show (P w).length-1<(P w).length by omega))).1
 have f0:jT N es rs (ot (2*(P w)[0]))=jT N es rs (ot (2*(Q w)[0])):=by
  rw [←hw,vg hf.right (by omega),ud]
 have f1:jT N es rs (ot (2*(Q w)[(Q w).length-1]+1))=jT N es rs (ot (2*(P w)[(P w).length-1]+1)):=by
  rw [←hn,vg hf.right (by omega),uR]
 rw [←f0,f1];exact h1
end
end Go.Proofs.YtneeknlhlkpnpaaGreat
