import Derived.Test.YtneeknlhlkpnpaaGreatZWeb
import Derived.Test.YtneeknlhlkpnpaaGreatZRRf9
import Derived.Test.YtneeknlhlkpnpaaGreatZAsg
import Derived.Test.YtneeknlhlkpnpaaGreatZFaceOrb
/-
 A part of the web hangs together: it has at least as many angles as faces and vertices, less one (plain law). Written by an AI agent.
-/
namespace Go.Proofs.YtneeknlhlkpnpaaGreat
open Go.RowKit
theorem UE{α : Type}{P:List α → Prop}(h0:P [])(hs:∀l a,P l→P (l++[a])):∀l,P l:=fun l=>by
 have:∀k (l:List α),l.length=k→P l:=by
  intro k
  induction k with
  | zero=>intro l hl;rw [List.eq_nil_of_length_eq_zero hl];exact h0
  | succ k ih=>
   intro l hl;have hne:l≠[]:=fun e=>by rw [e] at hl;cases hl
   rw [←List.dropLast_concat_getLast hne];exact hs _ _ (ih _ (by rw [List.length_dropLast,hl];rfl))
 exact this _ l rfl
theorem Ql{α : Type}(l:List α)(p q : α → Bool)(h:∀a∈l,¬(p a=true∧q a=true)):l.countP (fun a=>p a||q a)=l.countP p+l.countP q:=by
 induction l with
 | nil=>rfl
 | cons a r ih=>
  rw [List.countP_cons,List.countP_cons,List.countP_cons,ih fun b hb=>h b (by simp [hb])];have:=h a (by simp)
  cases hp:p a<;>cases hq:q a<;>simp_all<;>omega
section
variable {F N:Nat}
/-- the things that c leads -/
def Kq(L:Nat)(ro:Nat→Nat)(c:Nat):Nat:=(List.range L).countP fun y=>decide (ro y=c)
theorem lQ:∀H:List zu,InH F N H → ∀c,c<F+N→roH F H c=c→Kq (F+N) (roH F H) c≤uC (roH F H) H c+1:=by
 refine UE ?_ ?_
 ·intro _ c hc _;unfold Kq;have:((List.range (F+N)).countP fun y=>decide (roH F [] y=c))=(List.range (F+N)).countP fun y=>decide (y=c):=rfl;rw [this];have h1:=yJ (p:=fun y=>decide (y=c)) (q:=fun _=>false) (m:=c) (by simp) (fun h=>by by_cases e:h=c<;>simp [e]) (F+N);rw [h1];simp
  split<;>omega
 ·intro H q ih hH c hc hcc;have hH':InH F N H:=fun p hp=>hH p (by simp [hp]);have hl:=uQ hH';obtain ⟨hq1,hq2⟩:=hH q (by simp);rw [Yc] at hcc ⊢;generalize hro:roH F H=ro at *;have ih':=ih hH';have hp:=hl.fix q.2.2.1 (by omega);have hp2:=hl.le q.2.2.1 (by omega);have hr:=hl.fix (F+q.2.1) (by omega);have hr2:=hl.le (F+q.2.1) (by omega);have hJ:∀y,yU ro q.2.2.1 (F+q.2.1) y=if ro y=max (ro q.2.2.1) (ro (F+q.2.1)) then min (ro q.2.2.1) (ro (F+q.2.1)) else ro y:=fun _=>rfl
  obtain ⟨u,hu⟩:∃u,u=ro q.2.2.1:=⟨_,rfl⟩;obtain ⟨v,hv⟩:∃v,v=ro (F+q.2.1):=⟨_,rfl⟩;unfold Kq uC at *;rw [List.countP_append,List.countP_cons,List.countP_nil];rw [←hu] at hJ hp hp2;rw [←hv] at hJ hr hr2;by_cases huv:u=v
  · -- one part already
   have hsame:∀y,yU ro q.2.2.1 (F+q.2.1) y=ro y:=fun y=>by
    rw [hJ,huv]
    split<;>omega
   have e1:((List.range (F+N)).countP fun y=>decide (yU ro q.2.2.1 (F+q.2.1) y=c))=(List.range (F+N)).countP fun y=>decide (ro y=c):=List.countP_congr fun y _=>by rw [hsame]
   have e2:(H.countP fun p=>decide (yU ro q.2.2.1 (F+q.2.1) p.2.2.1=c))=H.countP fun p=>decide (ro p.2.2.1=c):=List.countP_congr fun y _=>by rw [hsame]
   rw [e1,e2];have:=ih' c hc (by rw [hsame] at hcc;exact hcc);omega
  ·by_cases hcm:c=min u v
   ·have huL:u<F+N:=by omega
    have hvL:v<F+N:=by omega
    have i1:=ih' u huL hp;have i2:=ih' v hvL hr
    have e1:((List.range (F+N)).countP fun y=>decide (yU ro q.2.2.1 (F+q.2.1) y=c))=((List.range (F+N)).countP fun y=>decide (ro y=u))+(List.range (F+N)).countP fun y=>decide (ro y=v):=by
     rw [←Ql _ _ _ fun y _ h=>by simp at h;omega];refine List.countP_congr fun y _=>?_;rw [hJ];simp only [decide_eq_true_eq,Bool.or_eq_true]
     split<;>omega
    have e2:(H.countP fun p=>decide (yU ro q.2.2.1 (F+q.2.1) p.2.2.1=c))=(H.countP fun p=>decide (ro p.2.2.1=u))+H.countP fun p=>decide (ro p.2.2.1=v):=by
     rw [←Ql _ _ _ fun y _ h=>by simp at h;omega];refine List.countP_congr fun y _=>?_;rw [hJ];simp only [decide_eq_true_eq,Bool.or_eq_true]
     split<;>omega
    have e3:decide (yU ro q.2.2.1 (F+q.2.1) q.2.2.1=c)=true:=by
     rw [decide_eq_true_eq,hJ,←hu]
     split<;>omega
    rw [e1,e2,e3];simp only [if_true];omega
   ·have hcx:¬c=max u v:=by
     intro e;rw [hJ] at hcc
     have hc1:ro c=c:=by
      rcases Nat.le_total u v with h | h
      ·rw [Nat.max_eq_right h] at e;rw [e];exact hr
      ·rw [Nat.max_eq_left h] at e;rw [e];exact hp
     rw [hc1,if_pos e] at hcc;omega
    have hc1:ro c=c:=by
     rw [hJ] at hcc
     split at hcc
     ·omega
     ·exact hcc
    have e1:((List.range (F+N)).countP fun y=>decide (yU ro q.2.2.1 (F+q.2.1) y=c))=(List.range (F+N)).countP fun y=>decide (ro y=c):=List.countP_congr fun y _=>by
     rw [hJ,decide_eq_true_eq,decide_eq_true_eq]
     split<;>omega
    have e2:(H.countP fun p=>decide (yU ro q.2.2.1 (F+q.2.1) p.2.2.1=c))=H.countP fun p=>decide (ro p.2.2.1=c):=List.countP_congr fun y _=>by
     rw [hJ,decide_eq_true_eq,decide_eq_true_eq]
     split<;>omega
    rw [e1,e2];have:=ih' c hc hc1;omega
end
end Go.Proofs.YtneeknlhlkpnpaaGreat
/-
 Trees of the web: each thing but its tree's root has an angle of its own (plain law). Written by an AI agent.
-/
namespace Go.Proofs.YtneeknlhlkpnpaaGreat
open Go.RowKit
theorem XV{L:Nat}{ro ro':Nat→Nat}{a b mn:Nat}(hbL:b<L)(hro':∀y,ro' y=if ro y=ro a∨ro y=ro b then mn else ro y)(hne:ro a≠ro b)(hmn:mn=ro a∨mn=ro b)
  {rt:Nat→Nat} (hrt:∀c,c<L→ro' c=c→rt c<L∧ro' (rt c)=c) (hmnL:mn<L) (hmnf:ro' mn=mn) (hR:ro (rt mn)=ro a) :
  (∀c,c<L→ro c=c→(if c=ro a then rt mn else if c=ro b then b else rt c)<L∧ro (if c=ro a then rt mn else if c=ro b then b else rt c)=c) ∧
  ∀D:List Nat,(∀v,v<L→D.count v=if (if ro v=ro a then rt mn else if ro v=ro b then b else rt (ro v))=v then 0 else 1) → ∀v,v<L→(D++[b]).count v=if rt (ro' v)=v then 0 else 1:=by
 refine ⟨fun c hc hf=>?_,fun D hD v hv=>?_⟩
 ·by_cases h1:c=ro a
  ·rw [if_pos h1];exact ⟨(hrt mn hmnL hmnf).1,hR.trans h1.symm⟩
  ·rw [if_neg h1];by_cases h2:c=ro b
   ·rw [if_pos h2];exact ⟨hbL,h2.symm⟩
   ·rw [if_neg h2];have hc':ro' c=c:=by rw [hro',if_neg (by rw [hf];rintro (h | h);exact h1 h;exact h2 h)];exact hf
    obtain ⟨k1,k2⟩:=hrt c hc hc';refine ⟨k1,?_⟩;rw [hro'] at k2;by_cases h3:ro (rt c)=ro a∨ro (rt c)=ro b
    ·rw [if_pos h3] at k2;rcases hmn with h | h
     ·exact absurd (k2.symm.trans h) h1
     ·exact absurd (k2.symm.trans h) h2
    ·rw [if_neg h3] at k2;exact k2
 ·rw [List.count_append,hD v hv,hro'];by_cases h1:ro v=ro a
  ·rw [if_pos h1,if_pos (show ro v=ro a∨ro v=ro b from .inl h1)];have:v≠b:=fun e=>by subst e;exact hne h1.symm
   rw [List.count_singleton];have h0:(b==v)=false:=by rw [beq_eq_false_iff_ne];exact fun e=>this e.symm
   rw [h0];simp
  ·rw [if_neg h1];by_cases h2:ro v=ro b
   ·rw [if_pos h2,if_pos (show ro v=ro a∨ro v=ro b from .inr h2)];have hRv:rt mn≠v:=fun e=>h1 (by rw [←e];exact hR);rw [if_neg hRv,List.count_singleton];by_cases e:b=v
    ·subst e;simp
    ·have h0:(b==v)=false:=by rw [beq_eq_false_iff_ne];exact e
     rw [if_neg e,h0];simp
   ·rw [if_neg h2,if_neg (show ¬(ro v=ro a∨ro v=ro b) from fun h=>h.elim h1 h2)];have:v≠b:=fun e=>h2 (by rw [e]);rw [List.count_singleton];have h0:(b==v)=false:=by rw [beq_eq_false_iff_ne];exact fun e=>this e.symm
    rw [h0];simp
/-- a web without cycles: each angle brings two parts together -/
def Kj(F N:Nat)(H:List zu):Prop:=(List.range (F+N)).countP (fun y=>decide (roH F H y=y))+H.length=F+N
section
variable {F N:Nat}
theorem mt:∀H:List zu,InH F N H→F+N≤(List.range (F+N)).countP (fun y=>decide (roH F H y=y))+H.length:=
 UE (fun _=>by
  have:(List.range (F+N)).countP (fun y=>decide (roH F [] y=y))=F+N:=by
   have h:(List.range (F+N)).countP (fun y=>decide (roH F [] y=y))=(List.range (F+N)).length:=List.countP_eq_length.2 fun y _=>decide_eq_true rfl;rw [h,List.length_range]
  rw [this]
  exact Nat.le_add_right _ _) fun K q ih hI=>by
  have hK:InH F N K:=fun p hp=>hI p (by simp [hp]);obtain ⟨h1,h2⟩:=hI q (by simp);have:=dG (uQ hK) (a:=q.2.2.1) (b:=F+q.2.1) (by omega) (by omega);have ih:=ih hK;rw [Yc,List.length_append,List.length_singleton]
  split at this<;>omega
theorem cI{K:List zu}{q:zu}(hI:InH F N (K++[q]))(h:Kj F N (K++[q])):Kj F N K∧roH F K q.2.2.1≠roH F K (F+q.2.1):=by
 have hK:InH F N K:=fun p hp=>hI p (by simp [hp]);obtain ⟨h1,h2⟩:=hI q (by simp);have hj:=dG (uQ hK) (a:=q.2.2.1) (b:=F+q.2.1) (by omega) (by omega);have hge:=mt K hK;unfold Kj at h ⊢;rw [Yc,List.length_append,List.length_singleton] at h;by_cases e:roH F K q.2.2.1=roH F K (F+q.2.1)
 ·rw [if_pos e] at hj;omega
 ·rw [if_neg e] at hj;exact ⟨by omega,e⟩
/-- with a root in each part: an angle for each thing but the roots, by which it hangs at its part -/
theorem sQ:∀H:List zu,InH F N H→Kj F N H → ∀rt:Nat→Nat,(∀c,c<F+N→roH F H c=c→rt c<F+N∧roH F H (rt c)=c) →
  ∃D:List Nat,D.length=H.length∧(∀i (h1:i<D.length) (h2:i<H.length),D[i]=H[i].2.2.1∨D[i]=F+H[i].2.1) ∧ ∀v,v<F+N→D.count v=if rt (roH F H v)=v then 0 else 1:=
 UE (fun _ _ rt hrt=>⟨[],rfl,fun i h1=>absurd h1 (Nat.not_lt_zero _),fun v hv=>by
  have:=(hrt v hv rfl).2;have e:rt v=v:=this
  show 0=if rt v=v then 0 else 1
  rw [if_pos e]⟩) fun K q ih hI hF rt hrt=>by
  have hK:InH F N K:=fun p hp=>hI p (by simp [hp]);obtain ⟨h1,h2⟩:=hI q (by simp);obtain ⟨hFK,hne⟩:=cI hI hF;have hL:=uQ hK;have ha:q.2.2.1<F+N:=by omega
  have hb:F+q.2.1<F+N:=by omega
  have la:=hL.le _ ha;have lb:=hL.le _ hb;have fa:=hL.fix _ ha;have fb:=hL.fix _ hb;rw [Yc] at hrt ⊢
  have hro':∀y,yU (roH F K) q.2.2.1 (F+q.2.1) y=if roH F K y=roH F K q.2.2.1∨roH F K y=roH F K (F+q.2.1) then min (roH F K q.2.2.1) (roH F K (F+q.2.1)) else roH F K y:=fun y=>by
   unfold yU;by_cases e1:roH F K y=max (roH F K q.2.2.1) (roH F K (F+q.2.1))
   ·rw [if_pos e1,if_pos (by omega)]
   ·rw [if_neg e1];by_cases e2:roH F K y=roH F K q.2.2.1∨roH F K y=roH F K (F+q.2.1)
    ·rw [if_pos e2];omega
    ·rw [if_neg e2]
  have hmn:min (roH F K q.2.2.1) (roH F K (F+q.2.1))=roH F K q.2.2.1∨min (roH F K q.2.2.1) (roH F K (F+q.2.1))=roH F K (F+q.2.1):=by omega
  have hmnL:min (roH F K q.2.2.1) (roH F K (F+q.2.1))<F+N:=by omega
  have hmnf:yU (roH F K) q.2.2.1 (F+q.2.1) (min (roH F K q.2.2.1) (roH F K (F+q.2.1)))=min (roH F K q.2.2.1) (roH F K (F+q.2.1)):=by
   rw [hro'];rcases hmn with h | h
   ·rw [h,fa,if_pos (.inl rfl)]
   ·rw [h,fb,if_pos (.inr rfl)]
  obtain ⟨k1,k2⟩:=hrt _ hmnL hmnf;rw [hro'] at k2;generalize hm:min (roH F K q.2.2.1) (roH F K (F+q.2.1))=mn at *
  have hRab:roH F K (rt mn)=roH F K q.2.2.1∨roH F K (rt mn)=roH F K (F+q.2.1):=by
   by_cases e:roH F K (rt mn)=roH F K q.2.2.1∨roH F K (rt mn)=roH F K (F+q.2.1)
   ·exact e
   ·rw [if_neg e] at k2;rcases hmn with h | h
    ·exact .inl (k2.trans h)
    ·exact .inr (k2.trans h)
  rcases hRab with hR | hR
  ·obtain ⟨s1,s2⟩:=XV hb hro' hne hmn hrt hmnL hmnf hR;obtain ⟨D,d1,d2,d3⟩:=ih hK hFK _ s1;refine ⟨D++[F+q.2.1],by simp [d1],fun i h1 h2=>?_,s2 D d3⟩;by_cases hi:i<D.length
   ·rw [List.getElem_append_left hi,List.getElem_append_left (by omega)];exact d2 i hi (by omega)
   ·have hi2:i=D.length:=by simp at h1;omega
    subst hi2
    right
    rw [List.getElem_append_right (Nat.le_refl _),List.getElem_append_right (by omega)];simp [d1]
  ·have hro2:∀y,yU (roH F K) q.2.2.1 (F+q.2.1) y=if roH F K y=roH F K (F+q.2.1)∨roH F K y=roH F K q.2.2.1 then mn else roH F K y:=fun y=>by
    rw [hro' y];by_cases e:roH F K y=roH F K q.2.2.1∨roH F K y=roH F K (F+q.2.1)
    ·rw [if_pos e,if_pos e.symm]
    ·rw [if_neg e,if_neg fun h=>e h.symm]
   obtain ⟨s1,s2⟩:=XV ha hro2 (fun e=>hne e.symm) hmn.symm hrt hmnL hmnf hR;obtain ⟨D,d1,d2,d3⟩:=ih hK hFK _ s1;refine ⟨D++[q.2.2.1],by simp [d1],fun i h1 h2=>?_,s2 D d3⟩;by_cases hi:i<D.length
   ·rw [List.getElem_append_left hi,List.getElem_append_left (by omega)];exact d2 i hi (by omega)
   ·have hi2:i=D.length:=by simp at h1;omega
    subst hi2
    left
    rw [List.getElem_append_right (Nat.le_refl _),List.getElem_append_right (by omega)];simp [d1]
end
end Go.Proofs.YtneeknlhlkpnpaaGreat
/-
 A part of the web without inner vertices is a tree: the count (plain law). Written by an AI agent.
-/
namespace Go.Proofs.YtneeknlhlkpnpaaGreat
open Go.RowKit
theorem lk{n:Int}{es:List (Int×Int)}{rs:List (List Int)}(hf:zn n es rs=true)(he:0<es.length){c:Nat}(hc:c<(jo n es rs).length)(hcc:roR n es rs c=c)
  (hX:∀x,x<rs.length→roR n es rs ((jo n es rs).length+x)=c → ¬qe es x) :
  uC (roR n es rs) ((yl n es rs).filter hiQ) c+1≤(kH (roR n es rs) (jo n es rs).length c).length+(km (roR n es rs) (jo n es rs).length rs.length c).length:=by
 have ha:=zN hf;have hR:=yF ha;have hin:=ya hR;have hG:=xM hf;rw [show n=(rs.length:Int) from hR.len.symm] at hG;have h1:=Qv ha;have hInH:=zz ha;have hEul:=XZ ha he;have hiso:=dJ hR h1 he;have hsig:=iC hR hin;have hP:=vG hR
 have hhas:∀h,h<2*es.length→zt es rs h=2→roR n es rs (jT n es rs h)=roR n es rs ((jo n es rs).length+vtx es h):=fun h hh hk=>by
  have hm:QL n es rs h∈(yl n es rs).filter hiQ:=by
   unfold yl;rw [if_pos ha];exact List.mem_filter.2 ⟨List.mem_map.2 ⟨h,List.mem_range.2 hh,rfl⟩,decide_eq_true hk⟩
  exact aK (F:=(jo n es rs).length) hm
 have hA:uC (roR n es rs) ((yl n es rs).filter hiQ) c=(List.range (2*es.length)).countP fun h=>decide (zt es rs h=2∧roR n es rs (jT n es rs h)=c):=by
  unfold uC yl;rw [if_pos ha,List.countP_filter];unfold VV;rw [List.countP_map];refine List.countP_congr fun h _=>?_;simp only [Function.comp,QL,hiQ,Bool.and_eq_true];constructor
  ·rintro ⟨a,b⟩;exact decide_eq_true ⟨of_decide_eq_true b,of_decide_eq_true a⟩
  ·intro h;have h:=of_decide_eq_true h;exact ⟨decide_eq_true h.2,decide_eq_true h.1⟩
 generalize hro:roR n es rs=ro at *;generalize hFF:(jo n es rs).length=F at *
 let X:Nat→Prop:=fun x=>x<rs.length∧ro (F+x)=c
 have hXs:∀x,X x → ¬qe es x:=fun x h=>hX x h.1 h.2
 -- half edges at X: just the High angles of the part
 have hXA:(List.range (2*es.length)).countP (fun h=>tst (X (vtx es h)))=uC ro ((yl n es rs).filter hiQ) c:=by
  rw [hA];refine jP fun h hh=>?_;rw [Bool.eq_iff_iff,jt,decide_eq_true_eq];constructor
  ·rintro ⟨_,h2⟩;have hk:=JM hR hh (hXs _ ⟨xc hin hh,h2⟩);exact ⟨hk,(hhas h hh hk).trans h2⟩
  ·rintro ⟨hk,h2⟩;exact ⟨xc hin hh,(hhas h hh hk).symm.trans h2⟩
 have hXV:(List.range rs.length).countP (fun x=>tst (X x))=(km ro F rs.length c).length:=by
  unfold km;rw [←List.countP_eq_length_filter];refine jP fun x hx=>?_;rw [Bool.eq_iff_iff,jt,decide_eq_true_eq];exact ⟨fun h=>h.2,fun h=>⟨hx,h⟩⟩
 have ht:∀x,x<rs.length → ∃h,h<2*es.length∧vtx es h=x:=fun x hx=>by
  rcases ZB hin h1 he hx with ⟨k,hk,hv,_⟩ | ⟨k,hk,hv,_⟩<;>exact ⟨k,hk,hv⟩
 have hcut:=oI hR hin ht X;have hone:=rT hG hR hin h1 he hXs;obtain ⟨g,hg⟩:=UY (Yz (es:=es) hR X) es.length (Nat.le_refl _);rw [hone] at hg
 -- faces behind the cut
 have hfaces:F+1≤cls (Orb (ppk (kl es rs X) es.length)) (2*es.length)+(kH ro F c).length:=by
  let fc:Nat→Nat:=fun d=>jT n es rs (ot d)
  let inv:Nat→Nat:=fun d=>if ro (fc d)=c then c else fc d
  have hfc:∀d,d<2*es.length→fc d<F:=fun d hd=>by
   have:=(yh hR (vA hd)).1;rw [hFF] at this;exact this
  have hsame:∀d e,d<2*es.length→e<2*es.length→Orb (nxf es rs) d e→fc d=fc e:=fun d e hd hee o=>(UU hR (vA hd) (vA hee)).2 (by rw [kI,kI];exact o)
  have hstep:∀d,d<2*es.length→inv (ppk (kl es rs X) es.length d)=inv d:=fun d hd=>by
   rw [rj X hd];have hod:=vA hd;by_cases hx:X (vtx es (ot d))
   ·rw [VH hx]
    -- d lies in a face of the part; so does ot d
    have hk:=JM hR hod (hXs _ hx);have e1:ro (fc d)=c:=(hhas _ hod hk).trans hx.2;obtain ⟨h2,hh2,hs2⟩:=Gc (uI hR) hod;have hv2:vtx es h2=vtx es (ot d):=by rw [←hs2];exact ((qS hR hh2).2).symm
    have hx2:X (vtx es h2):=by rw [hv2];exact hx
    have hk2:=JM hR hh2 (hXs _ hx2);have e2:ro (jT n es rs h2)=c:=(hhas _ hh2 hk2).trans hx2.2
    have e3:fc (ot d)=jT n es rs h2:=by
     have:=hsame (ot h2) (ot d) (vA hh2) hod ⟨1,by show nxf es rs (ot h2)=ot d;rw [←hs2];rfl⟩;rw [←this]
     show jT n es rs (ot (ot h2))=_
     rw [kI]
    show (if ro (fc (ot d))=c then c else fc (ot d))=if ro (fc d)=c then c else fc d
    rw [e3,if_pos e2,if_pos e1]
   ·rw [Yj hx];have e1:fc d=fc (sig es rs (ot d)):=hsame _ _ hd (qS hR hod).1 ⟨1,(sD d).symm⟩
    show (if ro (fc (sig es rs (ot d)))=c then c else fc (sig es rs (ot d)))=if ro (fc d)=c then c else fc d
    rw [←e1]
  have hpp:=xC (Yz (es:=es) hR X) es.length (Nat.le_refl _)
  have hco:=Uv (R:=Orb (ppk (kl es rs X) es.length)) (v:=inv) (N:=2*es.length) fun x y hx _ o=>by
   obtain ⟨i,hi⟩:=o
   have:∀(i x:Nat),x<2*es.length→inv (qL (ppk (kl es rs X) es.length) i x)=inv x:=by
    intro i
    induction i with
    | zero=>intro x _;rfl
    | succ i ih=>
     intro x hx
     show inv (qL (ppk (kl es rs X) es.length) i (ppk (kl es rs X) es.length x))=inv x
     rw [ih _ (hpp.lt _ hx),hstep x hx]
   rw [←hi,this i x hx]
  have hmap:=VI (v:=inv) (M:=F) (2*es.length) fun d hd=>by
   show (if ro (fc d)=c then c else fc d)<F
   split
   ·exact hc
   ·exact hfc d hd
  have hsurj:∀f,f<F → ∃d,d<2*es.length∧fc d=f:=fun f hff=>by
   obtain ⟨h,hh,e⟩:=mI hR (f:=f) (by rw [hFF];exact hff);exact ⟨ot h,vA hh,by show jT n es rs (ot (ot h))=f;rw [kI];exact e⟩
  have hval:(List.range F).countP (fun f=>tst (∃h,h<2*es.length∧inv h=f))=(List.range F).countP (fun f=>!decide (ro f=c)||decide (f=c)):=jP fun f hff=>by
   rw [Bool.eq_iff_iff,jt];simp only [Bool.or_eq_true,Bool.not_eq_true',decide_eq_false_iff_not,decide_eq_true_eq];constructor
   ·rintro ⟨d,hd,hi⟩;have hi:(if ro (fc d)=c then c else fc d)=f:=hi;by_cases e:ro (fc d)=c
    ·rw [if_pos e] at hi;exact .inr hi.symm
    ·rw [if_neg e] at hi;exact .inl (hi▸e)
   ·intro h;obtain ⟨d,hd,e⟩:=hsurj f hff;refine ⟨d,hd,?_⟩
    show (if ro (fc d)=c then c else fc d)=f
    rcases h with h | h
    ·rw [e,if_neg h]
    ·rw [e,h,if_pos hcc]
  have hor:=Ql (List.range F) (fun f=>!decide (ro f=c)) (fun f=>decide (f=c)) fun f _ ⟨p,q⟩=>by
   have q:=of_decide_eq_true q;subst q;rw [hcc] at p;simp at p
  have hcnt:(List.range F).countP (fun f=>decide (f=c))=1:=by
   rw [yJ (p:=fun y=>decide (y=c)) (q:=fun _=>false) (m:=c) (by simp) (fun h=>by by_cases e:h=c<;>simp [e]) F,if_pos hc];simp
  have hsplit:(List.range F).countP (fun f=>!decide (ro f=c))+(kH ro F c).length=F:=by
   unfold kH;rw [←List.countP_eq_length_filter];have:=List.length_eq_countP_add_countP (fun f=>decide (ro f=c)) (l:=List.range F);rw [List.length_range] at this
   have e:(List.range F).countP (fun a=>!decide (ro a=c))=(List.range F).countP (fun a=>decide ¬(decide (ro a=c)=true)):=by
    refine List.countP_congr fun a _=>?_;by_cases h:ro a=c<;>simp [h]
   rw [e];omega
  omega
 omega
end Go.Proofs.YtneeknlhlkpnpaaGreat
/-
 Where great angles fit, the web is one of trees, and the outer face stands at the source (plain law). Written by an AI agent.
-/
namespace Go.Proofs.YtneeknlhlkpnpaaGreat
open Go.RowKit
theorem YG{α : Type}(F:Nat)(P:Nat→Prop)[DecidablePred P](k : α → Nat):∀l:List α,(∀a∈l,k a<F)→((List.range F).map fun f=>if P f then l.countP (fun a=>decide (k a=f)) else 0).sum=l.countP fun a=>decide (P (k a))
 | [],_=>by
  have:((List.range F).map fun f=>if P f then ([]:List α).countP (fun a=>decide (k a=f)) else 0)=(List.range F).map fun _=>0:=List.map_congr_left fun f _=>by split<;>rfl
  rw [this];generalize List.range F=r
  induction r with
  | nil=>rfl
  | cons b r ih=>simpa using ih
 | a::l,h=>by
  have ih:=YG F P k l fun b hb=>h b (by simp [hb])
  have e:((List.range F).map fun f=>if P f then (a::l).countP (fun a=>decide (k a=f)) else 0).sum=((List.range F).map fun f=>(if P f then l.countP (fun a=>decide (k a=f)) else 0)+if k a=f then (if P (k a) then 1 else 0) else 0).sum:=zg fun f _=>by
   rw [List.countP_cons];by_cases h1:k a=f
   ·subst h1;by_cases h2:P (k a)
    ·rw [if_pos h2,if_pos h2,if_pos rfl,if_pos h2,if_pos (decide_eq_true rfl)]
    ·rw [if_neg h2,if_neg h2,if_pos rfl,if_neg h2]
   ·rw [if_neg h1];by_cases h2:P f
    ·rw [if_pos h2,if_pos h2,if_neg (by simpa using h1)]
    ·rw [if_neg h2,if_neg h2]
  rw [e,ub,ih,YH,if_pos (h a (by simp)),List.countP_cons];by_cases h2:P (k a)
  ·rw [if_pos h2,if_pos (decide_eq_true h2)]
  ·rw [if_neg h2,if_neg (by simpa using h2)]
/-- inner vertices of the part that c leads -/
noncomputable def inC(es:List (Int×Int))(ro:Nat→Nat)(F N c:Nat):Nat:=(List.range N).countP fun x=>decide (ro (F+x)=c)&&tst (qe es x)
noncomputable def snC(es:List (Int×Int))(ro:Nat→Nat)(F N c:Nat):Nat:=(List.range N).countP fun x=>decide (ro (F+x)=c) && !tst (qe es x)
theorem bZ(es:List (Int×Int))(ro:Nat→Nat)(F N c:Nat):(km ro F N c).length=inC es ro F N c+snC es ro F N c:=by
 unfold km inC snC;rw [←List.countP_eq_length_filter];exact qy _ _ _
/-- what the web tells of an outer face -/
structure OutP(n:Int)(es:List (Int×Int))(rs:List (List Int))(f0:Nat):Prop where
 lt:f0<(jo n es rs).length
 src:∃h,h<2*es.length∧vtx es h∈yz rs.length es Prod.snd∧jT n es rs h=f0
 tree:∀c,c<(jo n es rs).length→roR n es rs c=c→uC (roR n es rs) ((yl n es rs).filter hiQ) c+1=(kH (roR n es rs) (jo n es rs).length c).length+(km (roR n es rs) (jo n es rs).length rs.length c).length
 inn:∀c,c<(jo n es rs).length→roR n es rs c=c→inC es (roR n es rs) (jo n es rs).length rs.length c=if c=roR n es rs f0 then 0 else 1
section
variable {n:Int}{es:List (Int×Int)}{rs:List (List Int)}
theorem oa(ha:xp n es rs=true){h:Nat}(hh:h<2*es.length)(hk:zt es rs h=2):roR n es rs (jT n es rs h)=roR n es rs ((jo n es rs).length+vtx es h):=by
 have hm:QL n es rs h∈(yl n es rs).filter hiQ:=by
  unfold yl;rw [if_pos ha];exact List.mem_filter.2 ⟨List.mem_map.2 ⟨h,List.mem_range.2 hh,rfl⟩,decide_eq_true hk⟩
 exact aK (F:=(jo n es rs).length) hm
theorem ck(ha:xp n es rs=true)(ro:Nat→Nat)(c:Nat):uC ro ((yl n es rs).filter hiQ) c=((List.range (2*es.length)).filter fun h=>decide (zt es rs h=2)).countP fun h=>decide (ro (jT n es rs h)=c):=by
 unfold uC yl;rw [if_pos ha,List.countP_filter];unfold VV;rw [List.countP_map,List.countP_filter];rfl
theorem XP(ro:Nat→Nat)(F c:Nat):∀N,Kq (F+N) ro c=(kH ro F c).length+(km ro F N c).length
 | 0=>by
  unfold Kq kH km;rw [←List.countP_eq_length_filter];simp
 | N+1=>by
  have ih:=XP ro F c N
  have e:km ro F (N+1) c=km ro F N c++if ro (F+N)=c then [N] else []:=by
   unfold km;rw [List.range_succ,List.filter_append];by_cases h:ro (F+N)=c<;>simp [h]
  rw [e,List.length_append,←Nat.add_assoc F N 1,←Nat.add_assoc (kH ro F c).length,←ih];unfold Kq;rw [List.range_succ,List.countP_append];by_cases h:ro (F+N)=c<;>simp [h]
theorem oy(_ha:xp n es rs=true){f0 f:Nat}{g:Nat→Nat}(hfF:f<(jo n es rs).length)(hg:∀f,f<(vr n es rs f0).length→(vr n es rs f0).getD f 0=((zo rs.length es).countP (fun x=>decide (jT n es rs (g x)=f)):Nat)) :
  (zo rs.length es).countP (fun x=>decide (jT n es rs (g x)=f))+1=((List.range (2*es.length)).filter fun h=>decide (zt es rs h=2)).countP (fun h=>decide (jT n es rs h=f))+if f=f0 then 2 else 0:=by
 have h1:=hg f (by unfold vr;rw [vK];exact hfF);unfold vr at h1;rw [Qd hfF] at h1
 have h2:((List.range (2*es.length)).filter fun h=>decide (zt es rs h=2)).countP (fun h=>decide (jT n es rs h=f))=(List.range (2*es.length)).countP fun h=>decide (zt es rs h=2)&&decide (jT n es rs h=f):=by
  rw [List.countP_filter];exact List.countP_congr fun h _=>by rw [Bool.and_comm]
 rw [h2];by_cases e:f=f0
 ·rw [if_pos e] at h1 ⊢;omega
 ·rw [if_neg e] at h1 ⊢;omega
theorem sM(hf:zn n es rs=true)(he:0<es.length){f0:Nat}(hf0:f0<(jo n es rs).length)(hfit:pE (vtx es) (jT n es rs) (2*es.length) (zo rs.length es) (vr n es rs f0)):OutP n es rs f0:=by
 have ha:=zN hf;have hR:=yF ha;have hin:=ya hR;have hG:=xM hf;rw [show n=(rs.length:Int) from hR.len.symm] at hG;have hL:=uQ (zz ha);have hpc:=lQ ((yl n es rs).filter hiQ) (zz ha);have hst:=fun c (hc:c<(jo n es rs).length) (hcc:roR n es rs c=c) hX=>lk hf he hc hcc hX;change LeadP _ (roR n es rs) at hL;change ∀c,c<_→roR n es rs c=c→Kq _ (roR n es rs) c≤uC (roR n es rs) _ c+1 at hpc;have hhigh:=fun h (hh:h<2*es.length)=>oa ha hh;have hroF:=fun f (h:f<(jo n es rs).length)=>uX (zz ha) h;change ∀f,f<_→roR n es rs f<_ at hroF;have hPA:=ck (n:=n) (es:=es) (rs:=rs) ha (roR n es rs);obtain ⟨g,hgV,hgR⟩:=hfit;have hff:=fun f (h:f<(jo n es rs).length)=>oy ha h hgR;have hFlt:=fun h (hh:h<2*es.length)=>(yh hR hh).1
 -- the source
 have hs1:=YI hG;obtain ⟨s,hs⟩:∃s,yz rs.length es Prod.snd=[s]:=List.length_eq_one_iff.1 hs1;have hsE:s∈zo rs.length es:=by unfold zo;rw [hs];simp
 obtain ⟨hgs,hgsv⟩:=hgV s hsE
 -- sinks choose in their own parts
 have hsink:∀x,x<rs.length → ¬qe es x→x∈zo rs.length es:=fun x hx hn=>by
  unfold zo;exact List.mem_append_right _ ((xb hin).2 ⟨hx,hn⟩)
 have hsro:∀x,x<rs.length → ¬qe es x→zt es rs (g x)=2∧roR n es rs (jT n es rs (g x))=roR n es rs ((jo n es rs).length+x):=fun x hx hn=>by
  obtain ⟨k1,k2⟩:=hgV x (hsink x hx hn);have hk:=JM hR k1 (by rw [k2];exact hn);have:=hhigh _ k1 hk;rw [k2] at this;exact ⟨hk,this⟩
 have hcE:∀c,(zo rs.length es).countP (fun x=>decide (roR n es rs (jT n es rs (g x))=c))=(if roR n es rs (jT n es rs (g s))=c then 1 else 0)+snC es (roR n es rs) (jo n es rs).length rs.length c:=fun c=>by
  unfold zo;rw [List.countP_append,hs,List.countP_singleton];congr 1
  ·by_cases h:roR n es rs (jT n es rs (g s))=c<;>simp [h]
  ·rw [Ja (kx rs.length Prod.fst) (fun x hx=>((xb hin).1 hx).1)];unfold snC;refine jP fun x hx=>?_;rw [Bool.eq_iff_iff];simp only [Bool.and_eq_true,decide_eq_true_eq,Bool.not_eq_true',kC];constructor
   ·rintro ⟨h1,h2⟩;have hn:=((xb hin).1 h1).2;exact ⟨((hsro x hx hn).2).symm.trans h2,hn⟩
   ·rintro ⟨h1,hn⟩;exact ⟨(xb hin).2 ⟨hx,hn⟩,(hsro x hx hn).2.trans h1⟩
 -- the count of each part
 have hcount:∀c,(if roR n es rs (jT n es rs (g s))=c then 1 else 0)+snC es (roR n es rs) (jo n es rs).length rs.length c+(kH (roR n es rs) (jo n es rs).length c).length=uC (roR n es rs) ((yl n es rs).filter hiQ) c+if roR n es rs f0=c then 2 else 0:=fun c=>by
  rw [←hcE c,hPA c];have s1:=YG (jo n es rs).length (fun f=>roR n es rs f=c) (fun x=>jT n es rs (g x)) (zo rs.length es) fun x hx=>hFlt _ (hgV x hx).1;have s2:=YG (jo n es rs).length (fun f=>roR n es rs f=c) (fun h=>jT n es rs h) ((List.range (2*es.length)).filter fun h=>decide (zt es rs h=2)) fun h hh=>hFlt _ (List.mem_range.1 (List.mem_filter.1 hh).1)
  have s3:((List.range (jo n es rs).length).map fun f=>if decide (roR n es rs f=c)=true then 1 else 0).sum=(kH (roR n es rs) (jo n es rs).length c).length:=by
   rw [vY];unfold kH;rw [List.countP_eq_length_filter]
  have s4:((List.range (jo n es rs).length).map fun f=>if f0=f then (if roR n es rs f0=c then 2 else 0) else 0).sum=if roR n es rs f0=c then 2 else 0:=by
   rw [YH,if_pos hf0]
  rw [←s1,←s2,←s3,←s4,←ub,←ub];refine zg fun f hfF=>?_;have:=hff f hfF;by_cases h1:roR n es rs f=c
  ·rw [if_pos h1,if_pos h1,if_pos (decide_eq_true h1),this];by_cases h2:f=f0
   ·subst h2;rw [if_pos rfl,if_pos rfl,if_pos h1]
   ·rw [if_neg h2,if_neg (fun e=>h2 e.symm)]
  ·rw [if_neg h1,if_neg h1,if_neg (by simpa using h1)];by_cases h2:f0=f
   ·subst h2;rw [if_pos rfl,if_neg h1]
   ·rw [if_neg h2]
 have hsz:∀c,Kq ((jo n es rs).length+rs.length) (roR n es rs) c=_:=fun c=>XP (roR n es rs) (jo n es rs).length c rs.length;have hVs:=fun c=>bZ es (roR n es rs) (jo n es rs).length rs.length c
 -- the outer face's part
 have hc0:=hroF f0 hf0;have hc0f:=hL.fix f0 (by omega);have q1:=hcount (roR n es rs f0);have q2:=hpc _ (by omega) hc0f;rw [hsz,hVs] at q2;rw [if_pos rfl] at q1
 have ht0:roR n es rs (jT n es rs (g s))=roR n es rs f0:=by
  by_cases h:roR n es rs (jT n es rs (g s))=roR n es rs f0
  ·exact h
  ·rw [if_neg h] at q1;omega
 rw [if_pos ht0] at q1;refine ⟨hf0,?_,fun c hc hcc=>?_,fun c hc hcc=>?_⟩
 · -- the outer face stands at the source
  refine ⟨g s,hgs,by rw [hs,hgsv];simp,?_⟩;by_cases e:jT n es rs (g s)=f0
  ·exact e
  ·exfalso;have h1:=hff f0 hf0;rw [if_pos rfl] at h1
   have h2:(zo rs.length es).countP (fun x=>decide (jT n es rs (g x)=f0))=((yz rs.length es Prod.fst).filter fun x=>decide (jT n es rs (g x)=f0)).length:=by
    unfold zo;rw [List.countP_append,hs,List.countP_singleton,if_neg (by simpa using e),Nat.zero_add,List.countP_eq_length_filter]
   have h3:((yz rs.length es Prod.fst).filter fun x=>decide (jT n es rs (g x)=f0)).length≤(((List.range (2*es.length)).filter fun h=>decide (zt es rs h=2)).filter fun h=>decide (jT n es rs h=f0)).length:=by
    have hnd:(((yz rs.length es Prod.fst).filter fun x=>decide (jT n es rs (g x)=f0)).map fun x=>((g x:Nat):Int)).Nodup:=by
     refine JY ((kx rs.length Prod.fst).filter _) fun a ha' b hb' hab=>?_;have a1:=(xb hin).1 (List.mem_filter.1 ha').1;have b1:=(xb hin).1 (List.mem_filter.1 hb').1;have a2:=(hgV a (hsink a a1.1 a1.2)).2;have b2:=(hgV b (hsink b b1.1 b1.2)).2;have hab':((g a:Nat):Int)=((g b:Nat):Int):=hab;have:g a=g b:=by omega
     rw [←a2,←b2,this]
    have:=kr hnd (l':=(((List.range (2*es.length)).filter fun h=>decide (zt es rs h=2)).filter fun h=>decide (jT n es rs h=f0)).map fun h=>((h:Nat):Int)) fun a ha'=>by
     obtain ⟨x,hx,rfl⟩:=List.mem_map.1 ha';obtain ⟨x1,x2⟩:=List.mem_filter.1 hx;have x3:=(xb hin).1 x1;refine List.mem_map.2 ⟨g x,List.mem_filter.2 ⟨List.mem_filter.2 ⟨List.mem_range.2 (hgV x (hsink x x3.1 x3.2)).1,decide_eq_true (hsro x x3.1 x3.2).1⟩,x2⟩,rfl⟩
    simpa using this
   rw [←List.countP_eq_length_filter (l:=(List.range (2*es.length)).filter fun h=>decide (zt es rs h=2))] at h3;rw [h2] at h1;omega
 ·have p1:=hcount c;have p2:=hpc c (by omega) hcc;rw [hsz,hVs] at p2;rw [hVs];by_cases e:roR n es rs f0=c
  ·rw [e] at q1 q2;omega
  ·rw [if_neg e,ht0,if_neg e] at p1;by_cases h0:inC es (roR n es rs) (jo n es rs).length rs.length c=0
   ·have h3:=hst c hc hcc fun x hx hxc hev=>by
     unfold inC at h0;rw [List.countP_eq_zero] at h0;have:=h0 x (List.mem_range.2 hx);rw [decide_eq_true hxc,jt.2 hev] at this;simp at this
    rw [hVs] at h3;omega
   ·omega
 ·have p1:=hcount c;have p2:=hpc c (by omega) hcc;rw [hsz,hVs] at p2;by_cases e:roR n es rs f0=c
  ·rw [if_pos e.symm];rw [e] at q1 q2;omega
  ·rw [if_neg (fun h=>e h.symm)];rw [if_neg e,ht0,if_neg e] at p1;by_cases h0:inC es (roR n es rs) (jo n es rs).length rs.length c=0
   ·have h3:=hst c hc hcc fun x hx hxc hev=>by
     unfold inC at h0;rw [List.countP_eq_zero] at h0;have:=h0 x (List.mem_range.2 hx);rw [decide_eq_true hxc,jt.2 hev] at this;simp at this
    rw [hVs] at h3;omega
   ·omega
end
end Go.Proofs.YtneeknlhlkpnpaaGreat
/-
 Where the web is one of trees, great angles fit with each face that it tells (plain law). Written by an AI agent.
-/
namespace Go.Proofs.YtneeknlhlkpnpaaGreat
open Go.RowKit
theorem ZY{α : Type}(l:List α)(d : α)(p : α → Bool):l.countP p=(List.range l.length).countP fun i=>p (l.getD i d):=by
 have e:l=(List.range l.length).map fun i=>l.getD i d:=by
  apply List.ext_getElem
  ·simp
  ·intro i h1 h2;simp [h1]
 have h:=congrArg (List.countP p) e;rw [List.countP_map] at h;exact h
theorem ZR{K:Nat}{p:Nat→Bool}(h:(List.range K).countP p=1){i0:Nat}(h0:i0<K)(hp:p i0=true)(q:Nat→Bool):(List.range K).countP (fun i=>p i&&q i)=if q i0=true then 1 else 0:=by
 have hs:=qy (List.range K) p q;by_cases hq:q i0=true
 ·have:0<(List.range K).countP fun i=>p i&&q i:=List.countP_pos_iff.2 ⟨i0,List.mem_range.2 h0,by rw [hp,hq];rfl⟩;rw [if_pos hq];omega
 ·have:0<(List.range K).countP fun i=>p i && !q i:=List.countP_pos_iff.2 ⟨i0,List.mem_range.2 h0,by
   rw [hp]
   cases hh:q i0 with
   | true=>exact absurd hh hq
   | false=>rfl⟩
  rw [if_neg hq];omega
section
variable {n:Int}{es:List (Int×Int)}{rs:List (List Int)}
theorem mp(_hR:RightP n es rs)(hin:InN rs.length es) :
  (List.range (2*es.length)).countP (fun h=>decide (zt es rs h=2))+((List.range rs.length).map (Je es rs)).sum=es.length:=by
 have hv:∀k,k<2*es.length→vtx es k<rs.length:=fun k hk=>xc hin hk;have h1:=zU (v:=vtx es) (M:=rs.length) (fun h=>decide (zt es rs h=2)) (2*es.length) hv;have h2:=zU (v:=vtx es) (M:=rs.length) (fun k=>!ev k) (2*es.length) hv;rw [GJ] at h2
 have h5:((List.range rs.length).map fun x=>(List.range (2*es.length)).countP fun k=>decide (vtx es k=x) && !ev k).sum=((List.range rs.length).map fun x=>((List.range (2*es.length)).countP fun k=>decide (vtx es k=x)&&decide (zt es rs k=2))+Je es rs x).sum:=by
  refine zg fun x _=>?_;have h6:=qy (List.range (2*es.length)) (fun k=>decide (vtx es k=x) && !ev k) (fun k=>ev (sig es rs k));have e1:(List.range (2*es.length)).countP (fun k=>decide (vtx es k=x) && !ev k&&ev (sig es rs k))=Je es rs x:=jP fun k _=>by cases ev k<;>cases ev (sig es rs k)<;>simp
  have e2:(List.range (2*es.length)).countP (fun k=>decide (vtx es k=x) && !ev k && !ev (sig es rs k))=(List.range (2*es.length)).countP (fun k=>decide (vtx es k=x)&&decide (zt es rs k=2)):=jP fun k _=>by
   unfold zt;rw [Bool.eq_iff_iff];simp only [Bool.and_eq_true,decide_eq_true_eq,vM]
   cases ev k<;>cases ev (sig es rs k)<;>simp
  omega
 rw [ub] at h5;omega
/-- the counts of a web of trees -/
theorem du(hf:zn n es rs=true)(he:0<es.length){f0:Nat}(hO:OutP n es rs f0) :
  Kj (jo n es rs).length rs.length ((yl n es rs).filter hiQ)∧VU rs=true:=by
 have ha:=zN hf;have hR:=yF ha;have hin:=ya hR;have hG:=xM hf;rw [show n=(rs.length:Int) from hR.len.symm] at hG;have hL:=uQ (zz ha);change LeadP _ (roR n es rs) at hL;have hroF:=fun f (h:f<(jo n es rs).length)=>uX (zz ha) h;change ∀f,f<_→roR n es rs f<_ at hroF;have hweb:=fun x=>gR (x:=x) hf;have hbare:=fun x (hx:∀q∈(yl n es rs).filter hiQ,q.2.1≠x)=>UG hx (zz ha);have hIn:=zz ha;have hEul:=XZ ha he;have hends:=fR hin (Qv ha) he;have hsrc:=YI hG;have hsnk:=WP hin (N:=rs.length) (es:=es);have hturn:=mp hR hin;have hmem:=fun x=>UM (x:=x) ha
 have hAl:((yl n es rs).filter hiQ).length=(List.range (2*es.length)).countP fun h=>decide (zt es rs h=2):=by
  unfold yl;rw [if_pos ha,←List.countP_eq_length_filter];unfold VV;rw [List.countP_map];rfl
 have hsh:∀x,x<rs.length → ¬qe es x→VG es rs x:=fun x hx hn=>by
  rcases ZB hin (Qv ha) he hx with ho | ho
  ·exact WQ hR ho hn
  ·exact absurd ho hn
 obtain ⟨hlt,_,htree,hinn⟩:=hO;have hroE:roR n es rs=roH (jo n es rs).length ((yl n es rs).filter hiQ):=rfl;generalize hH:(yl n es rs).filter hiQ=H at *;generalize hF:(jo n es rs).length=F at *;generalize hro:roR n es rs=ro at *;have fixF:∀y,y<F+rs.length→(decide (ro (ro y)=ro y))=true:=fun y hy=>decide_eq_true (hL.fix y hy)
 -- sums over the leaders
 have SA:((List.range F).map fun c=>if ro c=c then uC ro H c else 0).sum=H.length:=by
  have:=YG F (fun c=>ro c=c) (fun q:zu=>ro q.2.2.1) H fun q hq=>hroF _ (hIn q hq).1;unfold uC;rw [this,List.countP_eq_length];exact fun q hq=>fixF _ (by have:=(hIn q hq).1;omega)
 have SF:((List.range F).map fun c=>if ro c=c then (kH ro F c).length else 0).sum=F:=by
  have:=YG F (fun c=>ro c=c) (fun y:Nat=>ro y) (List.range F) fun y hy=>hroF _ (List.mem_range.1 hy)
  have e:∀c,(kH ro F c).length=(List.range F).countP fun y=>decide (ro y=c):=fun c=>by
   unfold kH;rw [List.countP_eq_length_filter]
  simp only [e];rw [this,List.countP_eq_length.2,List.length_range];exact fun y hy=>fixF _ (by have:=List.mem_range.1 hy;omega)
 have SV:∀p:Nat→Bool,((List.range F).map fun c=>if ro c=c then (List.range rs.length).countP (fun x=>decide (ro (F+x)=c)&&p x) else 0).sum=(List.range rs.length).countP fun x=>decide (ro (F+x)<F)&&p x:=fun p=>by
  have:=YG F (fun c=>ro c=c) (fun x:Nat=>ro (F+x)) ((List.range rs.length).filter fun x=>decide (ro (F+x)<F)&&p x) fun x hx=>by
   have:=(List.mem_filter.1 hx).2;rw [Bool.and_eq_true,decide_eq_true_eq] at this;exact this.1
  rw [List.countP_eq_length.2,←List.countP_eq_length_filter] at this
  ·rw [←this];refine zg fun c hc=>?_;by_cases h:ro c=c
   ·rw [if_pos h,if_pos h,List.countP_filter];refine List.countP_congr fun x _=>?_;simp only [Bool.and_eq_true,decide_eq_true_eq];exact ⟨fun ⟨a,b⟩=>⟨a,by omega,b⟩,fun ⟨a,_,b⟩=>⟨a,b⟩⟩
   ·rw [if_neg h,if_neg h]
  ·exact fun x hx=>fixF _ (by have:=List.mem_range.1 (List.mem_filter.1 hx).1;omega)
 have SL:((List.range F).map fun c=>if decide (ro c=c)=true then 1 else 0).sum=(List.range F).countP fun c=>decide (ro c=c):=vY _ _;have SI:((List.range F).map fun c=>if ro c=c then inC es ro F rs.length c else 0).sum=(List.range rs.length).countP fun x=>decide (ro (F+x)<F)&&tst (qe es x):=SV _
 have SVV:((List.range F).map fun c=>if ro c=c then (km ro F rs.length c).length else 0).sum=(List.range rs.length).countP fun x=>decide (ro (F+x)<F):=by
  have:=SV fun _=>true;simp only [Bool.and_true] at this;rw [←this];refine zg fun c _=>?_;unfold km;rw [List.countP_eq_length_filter]
 have S0:((List.range F).map fun c=>if ro f0=c then 1 else 0).sum=1:=by rw [YH,if_pos (hroF f0 hlt)]
 -- trees
 have E1:H.length+(List.range F).countP (fun c=>decide (ro c=c))=F+(List.range rs.length).countP (fun x=>decide (ro (F+x)<F)):=by
  rw [←SA,←SL]
  conv=>rhs;rw [←SVV]
  have e:((List.range F).map fun c=>(if ro c=c then (kH ro F c).length else 0)+if ro c=c then (km ro F rs.length c).length else 0).sum=F+((List.range F).map fun c=>if ro c=c then (km ro F rs.length c).length else 0).sum:=by rw [ub,SF]
  rw [←e,←ub];refine zg fun c hc=>?_;by_cases h:ro c=c
  ·rw [if_pos h,if_pos h,if_pos h,if_pos (decide_eq_true h)];exact htree c hc h
  ·rw [if_neg h,if_neg h,if_neg h,if_neg (by simpa using h)]
 have E2:(List.range rs.length).countP (fun x=>decide (ro (F+x)<F)&&tst (qe es x))+1=(List.range F).countP fun c=>decide (ro c=c):=by
  have e:((List.range F).map fun c=>if ro c=c then inC es ro F rs.length c else 0).sum+((List.range F).map fun c=>if ro f0=c then 1 else 0).sum=((List.range F).map fun c=>if decide (ro c=c)=true then 1 else 0).sum:=by
   rw [←ub];refine zg fun c hc=>?_;by_cases h:ro c=c
   ·rw [if_pos h,if_pos (decide_eq_true h),hinn c hc h];by_cases e:c=ro f0
    ·rw [if_pos e,if_pos e.symm]
    ·rw [if_neg e,if_neg (fun h=>e h.symm)]
   ·have e:ro f0≠c:=fun e=>h (by rw [←e];exact hL.fix f0 (by omega));rw [if_neg h,if_neg e,if_neg (by simpa using h)]
  rw [SI,S0,SL] at e;exact e
 -- the web's vertices: sinks, and inner ones
 have E3:(List.range rs.length).countP (fun x=>decide (ro (F+x)<F))=(List.range rs.length).countP (fun x=>decide (ro (F+x)<F)&&tst (qe es x))+(yz rs.length es Prod.fst).length:=by
  rw [hsnk,qy (List.range rs.length) (fun x=>decide (ro (F+x)<F)) fun x=>tst (qe es x)];congr 1;refine jP fun x hx=>?_;rw [Bool.eq_iff_iff,Bool.and_eq_true,decide_eq_true_eq,Bool.not_eq_true',kC,jt];exact ⟨fun h=>h.2,fun h=>⟨(hweb x).2 (hsh x hx h),h⟩⟩
 refine ⟨?_,?_⟩
 ·unfold Kj;rw [←hroE,List.range_add,List.countP_append,List.countP_map]
  have e:(List.range rs.length).countP ((fun y=>decide (ro y=y)) ∘ fun x=>F+x)+(List.range rs.length).countP (fun x=>decide (ro (F+x)<F))=rs.length:=by
   have h1:=Ql (List.range rs.length) (fun x=>decide (ro (F+x)=F+x)) (fun x=>decide (ro (F+x)<F)) fun x _ ⟨p,q⟩=>by
    have p:=of_decide_eq_true p;have q:=of_decide_eq_true q;omega
   have h2:(List.range rs.length).countP (fun x=>decide (ro (F+x)=F+x)||decide (ro (F+x)<F))=rs.length:=by
    rw [List.countP_eq_length.2,List.length_range];intro x hx;by_cases h:ro (F+x)<F
    ·rw [decide_eq_true h,Bool.or_true]
    ·have hb:=hbare x fun q hq e=>h ((hweb x).2 ((hmem x).1 ⟨q,hq,e⟩));rw [←hroE] at hb;rw [decide_eq_true hb,Bool.true_or]
   have h3:(List.range rs.length).countP ((fun y=>decide (ro y=y)) ∘ fun x=>F+x)=(List.range rs.length).countP (fun x=>decide (ro (F+x)=F+x)):=rfl;omega
  omega
 ·rw [VJ hR]
  have hsum:((List.range rs.length).map (Je es rs)).sum=iU es rs.length:=by
   unfold zo at hends;rw [List.length_append,hsrc] at hends;omega
  have hb:((List.range rs.length).map fun x=>if tst (zI es x∧qe es x)=true then 1 else 0).sum=iU es rs.length:=vY _ _
  have hle:∀x,(if tst (zI es x∧qe es x)=true then 1 else 0)≤Je es rs x:=fun x=>by
   by_cases h:zI es x∧qe es x
   ·rw [if_pos (jt.2 h)];exact (UB hR x).2 h
   ·rw [if_neg (by rw [jt];exact h)];exact Nat.zero_le _
  have hq:=Gn (f:=fun x=>(((if tst (zI es x∧qe es x)=true then 1 else 0:Nat)):Int)) (g:=fun x=>((Je es rs x:Nat):Int)) (k:=rs.length) (fun x _=>by have:=hle x;omega) (by
   rw [←UD,←UD,hb,hsum])
  intro x hx;have:=hq x hx;rw [Xg hR];have h2:(if tst (zI es x∧qe es x)=true then 1 else 0:Nat)=Je es rs x:=by omega
  rw [←h2]
  split<;>omega
end
end Go.Proofs.YtneeknlhlkpnpaaGreat
