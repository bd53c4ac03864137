import Derived.Test.YtneeknlhlkpnpaaGreatZRPlain
import Derived.Test.YtneeknlhlkpnpaaGreatZFaceOrb
import Derived.Test.YtneeknlhlkpnpaaGreatZRGr
import Derived.Test.YtneeknlhlkpnpaaGreatZAsg
import Derived.Test.YtneeknlhlkpnpaaGreatZWeb
import Derived.Test.YtneeknlhlkpnpaaGreatZRfs
import Derived.Test.YtneeknlhlkpnpaaGreatZChks
import Derived.Test.YtneeknlhlkpnpaaGreatZEul
import Derived.Test.YtneeknlhlkpnpaaGreatZGol
/-
 Plain law: the great angles of a plan's turn fit. Written by an AI agent.
-/
namespace Go.Proofs.YtneeknlhlkpnpaaGreat
open Go.RowKit
section
variable {n:Int}{es:List (Int×Int)}{rs:List (List Int)}{great room:List Int}
/-- great angles that can be taken are taken from their faces' rooms -/
theorem Vu{k:Nat}(ht:∀x,x<k→zD es x=true → ∃h:Nat,great.getD x 0=h∧h<2*es.length∧vtx es h=x∧jT n es rs h<room.length)(hn:∀x,x<k→zD es x=false→great.getD x 0 = -1) :
  ∃r,ZG n es rs great room k=some r∧r.length=room.length ∧ ∀f,f<room.length→r.getD f 0=room.getD f 0-(((List.range k).countP fun x=>zD es x&&decide (jT n es rs (great.getD x 0).toNat=f):Nat):Int):=by
 induction k with
 | zero=>exact ⟨room,rfl,rfl,fun f _=>by simp⟩
 | succ k ih=>
  obtain ⟨r,h1,h2,h3⟩:=ih (fun x hx=>ht x (by omega)) (fun x hx=>hn x (by omega));rw [Ul,h1];unfold Qu;simp only
  cases hb:zD es k with
  | true=>
   obtain ⟨h,e,hh,hv,hf⟩:=ht k (by omega) hb;rw [if_pos rfl,if_pos (by rw [e];exact ⟨by omega,by omega,by simpa using hv⟩)];refine ⟨_,rfl,by rw [List.length_set];exact h2,fun f hff=>?_⟩;rw [List.range_succ,List.countP_append,List.countP_singleton,hb,Bool.true_and,e,Int.toNat_natCast];rw [List.getD_eq_getElem?_getD,List.getElem?_set];by_cases hq:jT n es rs h=f
   ·rw [if_pos hq,if_pos (by rw [hq,h2];exact hff),decide_eq_true hq,if_pos rfl,Option.getD_some,hq,h3 f hff];omega
   ·rw [if_neg hq,decide_eq_false hq,if_neg (by simp),←List.getD_eq_getElem?_getD,h3 f hff];omega
  | false=>
   rw [if_neg (by simp),if_pos (hn k (by omega) hb)];refine ⟨r,rfl,h2,fun f hff=>?_⟩;rw [List.range_succ,List.countP_append,List.countP_singleton,hb,Bool.false_and,if_neg (by simp),h3 f hff];omega
/-- an angle's face is that of the next half edge -/
theorem vg(hR:RightP n es rs){d:Nat}(hd:d<2*es.length):jT n es rs (ot (sig es rs d))=jT n es rs d:=by
 rw [UU hR (vA (qS hR hd).1) hd,kI];refine Orb.symm (vG hR) (vA hd) ⟨1,?_⟩
 show nxf es rs (ot d)=sig es rs d
 rfl
end
/-- one that is alone -/
theorem um{p:Nat→Bool}{N a:Nat}(ha:a<N)(hp:p a=true)(hu:∀b,b<N→p b=true→b=a):(List.range N).countP p=1:=by
 have h:=yJ (p:=p) (q:=fun h=>p h && !decide (h=a)) (m:=a) hp (fun _=>rfl) N;rw [if_pos ha] at h
 have h0:(List.range N).countP (fun h=>p h && !decide (h=a))=0:=by
  rw [List.countP_eq_zero];intro b hb hpb;have hb:=List.mem_range.1 hb;rw [Bool.and_eq_true] at hpb;have:=hu b hb hpb.1;rw [this] at hpb;simp at hpb
 omega
section
variable {N:Nat}{es:List (Int×Int)}{ord:List Int}{outs:List (List Int)}{en:List (List Itm)}{l:List Nat}{rF:List Itm}{s:Nat}
/-- labels are the same in a face -/
theorem PlanR.labFace(h:PlanR N es ord outs en l rF s){d e:Nat}(hd:d<2*es.length)(he:e<2*es.length)(hf:jT N es (jQ N outs en) (ot d)=jT N es (jQ N outs en) (ot e)):QK es (xv es outs en l) (xu es outs en l) d=QK es (xv es outs en l) (xu es outs en l) e:=by
 rw [UU h.right (vA hd) (vA he),kI,kI] at hf;obtain ⟨i,hi⟩:=hf;subst hi;have hP:=vG h.right
 have:∀(i x:Nat),x<2*es.length→QK es (xv es outs en l) (xu es outs en l) x=QK es (xv es outs en l) (xu es outs en l) (qL (nxf es (jQ N outs en)) i x):=by
  intro i
  induction i with
  | zero=>intro x _;rfl
  | succ i ih=>intro x hx;rw [←h.lab_next hx];exact ih _ (hP.lt x hx)
 exact this i d hd
/-- the halves in a row that go down: in odd numbers, the first one is of the last edge -/
theorem PlanR.inRow(h:PlanR N es ord outs en l rF s){x:Nat}(hx:x<N)(hE:en.getD x []≠[]):∃a:Nat,a<es.length∧(es.getD a (0,0)).2=(x:Int)∧(en.getD x []).getLast? = some (itE es a)∧(inH (en.getD x []).reverse).head? = some ((2*a+1:Nat):Int):=by
 obtain ⟨_,e,he,hex⟩:=h.inv.ends x hx hE;rcases h.item hx (List.mem_of_getLast? he) with ⟨a,ha,h1,rfl⟩ | h1
 ·refine ⟨a,ha,h1,he,?_⟩;obtain ⟨q,hq⟩:=List.getLast?_eq_some_iff.1 he;rw [hq];unfold inH;rw [List.reverse_append];simp [itE]
 ·rcases h.inv.item h.outp (List.mem_append_right _ (yM (List.mem_of_getLast? he))) with ⟨i,hi,_,rfl⟩ | ⟨u,_,_,rfl⟩
  ·simp [itE] at h1
  ·simp at hex
/-- what stands in a row -/
theorem PlanR.rowAt(h:PlanR N es ord outs en l rF s){x i:Nat}(hx:x<(jQ N outs en).length)(hi:i<(jQ N outs en)[x].length){d:Nat}(he:(jQ N outs en)[x][i]=(d:Int)) :
  (i<(outs.getD x []).length→d%2=0)∧((outs.getD x []).length≤i→d%2=1)∧(d%2=1→(yE es en (d/2)=true↔i=(outs.getD x []).length)):=by
 have hxN:x<N:=by simpa [qh] using hx
 have hrow:(jQ N outs en)[x]=yZ (outs.getD x []) (en.getD x []):=by
  rw [←uH hxN,List.getD_eq_getElem?_getD,List.getElem?_eq_getElem hx];rfl
 have ho:(Qy (outs.getD x [])).length=(outs.getD x []).length:=by simp [Qy]
 have he':=he;simp only [hrow] at he;unfold yZ at he;rw [List.getElem_append] at he
 have p1:i<(outs.getD x []).length→d%2=0:=fun hlt=>by
  rw [dif_pos (by rw [ho];exact hlt)] at he;have hm:=List.getElem_mem (l:=Qy (outs.getD x [])) (by rw [ho];exact hlt);rw [he] at hm;obtain ⟨k,_,hk⟩:=List.mem_map.1 hm;omega
 have p2:(outs.getD x []).length≤i→d%2=1:=fun hge=>by
  rw [dif_neg (by rw [ho];omega)] at he;have hm:((d:Nat):Int)∈inH (en.getD x []).reverse:=by rw [←he];exact List.getElem_mem _
  obtain ⟨k,_,hk⟩:=List.mem_map.1 hm;omega
 refine ⟨p1,p2,fun hodd=>?_⟩
 have hge:(outs.getD x []).length≤i:=by
  apply Classical.byContradiction;intro hlt;have:=p1 (by omega);omega
 rw [dif_neg (by rw [ho];omega)] at he;have hm:((d:Nat):Int)∈inH (en.getD x []).reverse:=by rw [←he];exact List.getElem_mem _
 have hE:en.getD x []≠[]:=by
  intro e0;rw [e0] at hm;simp [inH] at hm
 obtain ⟨a,ha,hax,hl,hhd⟩:=h.inRow hxN hE;have hlen0:0<(inH (en.getD x []).reverse).length:=List.length_pos_of_mem hm
 have h0:(inH (en.getD x []).reverse)[0]=((2*a+1:Nat):Int):=by
  rw [List.head?_eq_getElem?,List.getElem?_eq_getElem hlen0] at hhd;exact Option.some.inj hhd
 -- the head of the edge is x
 have hdm:d<2*es.length∧vtx es d=x:=by
  obtain ⟨d',h1,h2,h3⟩:=h.right.nat hx hi;rw [he'] at h1;have:d=d':=by omega
  rw [this];exact ⟨h2,h3⟩
 have hin:InN N es:=by have:=ya h.right;rwa [qh] at this
 have hd2:(es.getD (d/2) (0,0)).2=(x:Int):=by
  rw [←vn hin (by omega),show 2*(d/2)+1=d by omega,hdm.2]
 have hnd:(jQ N outs en)[x].Nodup:=h.right.nd x hx
 have hlast:yE es en (d/2)=true↔d/2=a:=by
  rw [Gq,hd2,Int.toNat_natCast,hl];constructor
  ·intro e;have:=congrArg Prod.fst (Option.some.inj e);simp only [itE] at this;omega
  ·intro e;rw [e]
 rw [hlast];constructor
 ·intro e;have hdd:d=2*a+1:=by omega
  have hnI:(inH (en.getD x []).reverse).Nodup:=by
   rw [hrow] at hnd;exact (List.nodup_append.1 hnd).2.1
  have:=xZ hnI (i:=0) (j:=i-(Qy (outs.getD x [])).length) hlen0 (by
   have:=hi;simp only [hrow] at this;unfold yZ at this;rw [List.length_append] at this
   omega) (by rw [h0,he,hdd])
  omega
 ·intro e;have:∀(k:Nat) (hk:k<(inH (en.getD x []).reverse).length),k=0→(inH (en.getD x []).reverse)[k]=((2*a+1:Nat):Int):=fun k hk e=>by subst e;exact h0
  have h2:=this _ (by
   have:=hi;simp only [hrow] at this;unfold yZ at this;rw [List.length_append] at this
   omega) (by rw [ho];omega:i-(Qy (outs.getD x [])).length=0)
  rw [h2] at he;omega
/-- where an angle is high: by the next half edge -/
theorem PlanR.high(h:PlanR N es ord outs en l rF s){d:Nat}(hd:d<2*es.length):zt es (jQ N outs en) d=2↔sig es (jQ N outs en) d%2=1∧(yE es en (sig es (jQ N outs en) d/2)=false∨outs.getD (vtx es d) []=[]):=by
 have hR:=h.right;obtain ⟨x,i,hx,hi,he,hv⟩:=hR.pos hd;have h1:=uc hR hx hi he;obtain ⟨a1,a2,_⟩:=h.rowAt hx hi he;obtain ⟨b1,b2,b3⟩:=h.rowAt hx (Nat.mod_lt _ (by omega)) h1;unfold zt;rw [vM];have ev_iff:∀k,ev k=false↔k%2=1:=fun k=>by unfold ev;simp
 rw [ev_iff,ev_iff,hv];generalize sig es (jQ N outs en) d=e at *
 have hmod:(i+1)%(jQ N outs en)[x].length=if i+1=(jQ N outs en)[x].length then 0 else i+1:=by
  split
  ·rename_i e1;rw [e1];exact Nat.mod_self _
  ·exact Nat.mod_eq_of_lt (by omega)
 rw [hmod] at b1 b2 b3;by_cases hp:(outs.getD x []).length=0
 ·have hno:outs.getD x []=[]:=List.length_eq_zero_iff.1 hp;exact ⟨fun ⟨_,k2⟩=>⟨k2,.inr hno⟩,fun ⟨k1,_⟩=>⟨a2 (by omega),k1⟩⟩
 ·have hno:outs.getD x []≠[]:=fun e=>hp (by rw [e];rfl);constructor
  ·rintro ⟨k1,k2⟩;refine ⟨k2,.inl ?_⟩
   have hge:(outs.getD x []).length≤i:=by
    apply Classical.byContradiction;intro hlt;have:=a1 (by omega);omega
   cases hl:yE es en (e/2) with
   | false=>rfl
   | true=>
    have:=(b3 k2).1 hl
    split at this<;>omega
  ·rintro ⟨k1,k2⟩;refine ⟨?_,k1⟩;rcases k2 with k2 | k2
   ·have h3:=b3 k1;rw [k2] at h3;apply a2;apply Classical.byContradiction;intro hlt
    split at h3
    ·rename_i e1;rw [if_pos e1] at b1;have:=b1 (by omega);omega
    ·rename_i e1;rw [if_neg e1] at b1;by_cases h4:i+1<(outs.getD x []).length
     ·have:=b1 h4;omega
     ·exact absurd (h3.2 (by omega)) (by simp)
   ·exact absurd k2 hno
/-- the turn is bimodal -/
theorem PlanR.bim(h:PlanR N es ord outs en l rF s):VU (jQ N outs en)=true:=by
 unfold VU;rw [List.all_eq_true];intro q hq;obtain ⟨x,hx,rfl⟩:=List.getElem_of_mem hq;rw [decide_eq_true_iff]
 have hle:plU (jQ N outs en)[x] (jQ N outs en)[x].length≤[(outs.getD x []).length-1,(jQ N outs en)[x].length-1].length:=by
  unfold plU;rw [List.countP_eq_length_filter];refine List.Nodup.length_le_of_subset (List.nodup_range.filter _) fun i hi=>?_;obtain ⟨hi,hk⟩:=List.mem_filter.1 hi;have hi:=List.mem_range.1 hi;have hk:=of_decide_eq_true hk;obtain ⟨d,he,hd,_⟩:=h.right.nat hx hi;have h1:=uc h.right hx hi he;obtain ⟨a1,a2,_⟩:=h.rowAt hx hi he;obtain ⟨b1,b2,_⟩:=h.rowAt hx (Nat.mod_lt _ (by omega)) h1
  have hkk:kL (jQ N outs en)[x] i=Qq d (sig es (jQ N outs en) d):=by
   unfold kL;rw [List.getD_eq_getElem?_getD,List.getElem?_eq_getElem hi,List.getD_eq_getElem?_getD,List.getElem?_eq_getElem (Nat.mod_lt _ (by omega)),Option.getD_some,Option.getD_some,he,h1];rfl
  rw [hkk] at hk
  have hne:d%2≠sig es (jQ N outs en) d%2:=by
   have:=(QV _ _).1 hk;unfold ev at this;intro e;exact this (by rw [e])
  generalize sig es (jQ N outs en) d=e at *;by_cases hl:i+1=(jQ N outs en)[x].length
  ·have:i=(jQ N outs en)[x].length-1:=by omega
   rw [this];simp
  ·rw [Nat.mod_eq_of_lt (by omega)] at b1 b2
   have:i=(outs.getD x []).length-1:=by
    apply Classical.byContradiction;intro hn;by_cases hlt:i<(outs.getD x []).length
    ·have:=a1 hlt;have:=b1 (by omega);omega
    ·have:=a2 (by omega);have:=b2 (by omega);omega
   rw [this];simp
 simpa using hle
end
end Go.Proofs.YtneeknlhlkpnpaaGreat
/-
 The reference's Tip; when what is asked of angles may be asked. Written by an AI agent.
-/
namespace Go.Proofs.YtneeknlhlkpnpaaGreat
open Go.RowKit
end Go.Proofs.YtneeknlhlkpnpaaGreat
/-
 The reference's Fits (arborref11). (Printed by rffitsgen.py.) Written by an AI agent.
-/
namespace Go.Proofs.YtneeknlhlkpnpaaGreat
open Go.RowKit
theorem uy{n:Int}{es:List (Int×Int)}{rs:List (List Int)}(hP:RightP n es rs):(jo n es rs).length=0↔es.length=0:=by
 constructor
 ·intro h;apply Classical.byContradiction;intro hne;obtain ⟨f,hf,_⟩:=dW hP (h:=0) (by omega);omega
 ·intro h;have:=kM hP;omega
end Go.Proofs.YtneeknlhlkpnpaaGreat
/-
 The document's Same; it tells what the program's tells. Written by an AI agent.
-/
namespace Go.Proofs.YtneeknlhlkpnpaaGreat
open Go.RowKit
end Go.Proofs.YtneeknlhlkpnpaaGreat
/-
 The reference's Same of two rotations (arborref11). Written by an AI agent.
-/
namespace Go.Proofs.YtneeknlhlkpnpaaGreat
open Go.RowKit
end Go.Proofs.YtneeknlhlkpnpaaGreat
/-
 Plain law: the great angles of a plan's turn fit, all rooms come out empty. Written by an AI agent.
-/
namespace Go.Proofs.YtneeknlhlkpnpaaGreat
open Go.RowKit
theorem dD{n:Int}{es:List (Int×Int)}{rs:List (List Int)}(hR:RightP n es rs){x:Nat}(hx:x<rs.length)(h0:0<rs[x].length):∃d e:Nat,Jh rs x=d∧d<2*es.length∧vtx es d=x∧rs[x][rs[x].length-1]=(d:Int)∧rs[x][0]=(e:Int)∧sig es rs d=e:=by
 obtain ⟨d,h1,h2,h3⟩:=hR.nat hx (i:=rs[x].length-1) (by omega);obtain ⟨e,h4,_,_⟩:=hR.nat hx (i:=0) h0;have h5:=uc hR hx (by omega) h1;have e0:(rs[x].length-1+1)%rs[x].length=0:=by rw [show rs[x].length-1+1=rs[x].length by omega];exact Nat.mod_self _
 simp only [e0] at h5;refine ⟨d,e,?_,h2,h3,h1,h4,by omega⟩;unfold Jh;rw [show rs.getD x []=rs[x] from by rw [List.getD_eq_getElem?_getD,List.getElem?_eq_getElem hx];rfl,List.getD_eq_getElem?_getD,List.getElem?_eq_getElem (by omega),Option.getD_some];exact h1
section
variable {N:Nat}{es:List (Int×Int)}{ord:List Int}{outs:List (List Int)}{en:List (List Itm)}{l:List Nat}{rF:List Itm}{s:Nat}
/-- each inner face has one top -/
theorem PlanR.tops(h:PlanR N es ord outs en l rF s)(_he:0<es.length){o:Nat}(ho:o<2*es.length)(hol:QK es (xv es outs en l) (xu es outs en l) o=es.length) :
  (∀b,b<es.length→yE es en b=false→jT N es (jQ N outs en) (ot (2*b+1))≠jT N es (jQ N outs en) (ot o)) ∧
  ∀f,f<(jo N es (jQ N outs en)).length→f≠jT N es (jQ N outs en) (ot o) → ∃b,b<es.length∧yE es en b=false∧jT N es (jQ N outs en) (ot (2*b+1))=f ∧ ∀b',b'<es.length→yE es en b'=false→jT N es (jQ N outs en) (ot (2*b'+1))=f→b'=b:=by
 have hR:=h.right
 have p1:∀b,b<es.length→yE es en b=false→jT N es (jQ N outs en) (ot (2*b+1))≠jT N es (jQ N outs en) (ot o):=fun b hb hl e=>by
  have:=h.labFace (d:=2*b+1) (e:=o) (by omega) ho e;rw [hol,JP,h.top hb hl] at this;omega
 have inj:∀b,b<es.length→yE es en b=false → ∀b',b'<es.length→yE es en b'=false→jT N es (jQ N outs en) (ot (2*b+1))=jT N es (jQ N outs en) (ot (2*b'+1))→b=b':=fun b hb hl b' hb' hl' e=>by
  have:=h.labFace (d:=2*b+1) (e:=2*b'+1) (by omega) (by omega) e;rw [JP,JP,h.top hb hl,h.top hb' hl'] at this;exact this
 refine ⟨p1,fun f hf hfo=>?_⟩
 have hnd:(((List.range es.length).filter fun b=>!yE es en b).map fun b=>jT N es (jQ N outs en) (ot (2*b+1))).Nodup:=by
  rw [List.nodup_iff_pairwise_ne,List.pairwise_map];refine (List.nodup_iff_pairwise_ne.1 (List.nodup_range.filter _)).imp_of_mem fun {a b} ha hb hne e=>hne ?_;obtain ⟨ha1,ha2⟩:=List.mem_filter.1 ha;obtain ⟨hb1,hb2⟩:=List.mem_filter.1 hb;exact inj a (List.mem_range.1 ha1) (by simpa using ha2) b (List.mem_range.1 hb1) (by simpa using hb2) e
 have hsub:(((List.range es.length).filter fun b=>!yE es en b).map fun b=>jT N es (jQ N outs en) (ot (2*b+1)))⊆(List.range (jo N es (jQ N outs en)).length).filter fun f=>!decide (f=jT N es (jQ N outs en) (ot o)):=by
  intro g hg;obtain ⟨b,hb,rfl⟩:=List.mem_map.1 hg;obtain ⟨hb1,hb2⟩:=List.mem_filter.1 hb;have hb1:=List.mem_range.1 hb1;refine List.mem_filter.2 ⟨List.mem_range.2 (yh hR (vA (by omega))).1,?_⟩;rw [decide_eq_false (p1 b hb1 (by simpa using hb2))];rfl
 have hlen:((List.range (jo N es (jQ N outs en)).length).filter fun f=>!decide (f=jT N es (jQ N outs en) (ot o))).length≤(((List.range es.length).filter fun b=>!yE es en b).map fun b=>jT N es (jQ N outs en) (ot (2*b+1))).length:=by
  rw [List.length_map,←List.countP_eq_length_filter,←List.countP_eq_length_filter];have h1:=yJ (p:=fun _=>true) (q:=fun x=>!decide (x=jT N es (jQ N outs en) (ot o))) (m:=jT N es (jQ N outs en) (ot o)) rfl (fun k=>by simp) (jo N es (jQ N outs en)).length;rw [if_pos (yh hR (vA ho)).1] at h1;simp only [List.countP_true,List.length_range] at h1;have h2:=h.lasts
  have h3:(List.range es.length).countP (yE es en)+(List.range es.length).countP (fun x=>!yE es en x)=es.length:=by
   have:=List.length_eq_countP_add_countP (yE es en) (l:=List.range es.length);rw [List.length_range] at this
   have e:(List.range es.length).countP (fun a=>decide ¬yE es en a=true)=(List.range es.length).countP (fun x=>!yE es en x):=by
    apply List.countP_congr;intro x _;simp
   omega
  have hin:=ya hR;have hg:=JQ hR hin;rw [qh] at hg hin;obtain ⟨s',hs',hq⟩:=kp h.good;have h0:0<N:=by have:=h.sN;omega
  have hc1:cls (Q es es.length) N=1:=YK h0 fun x hx=>Star.trans (Q.symm (hq 0 h0)) (hq x hx);rw [hc1,h.gen] at hg;generalize (List.range es.length).countP (yE es en)=La at *;generalize (List.range es.length).countP (fun x=>!yE es en x)=Lb at *;omega
 have hm:=uV hnd hsub hlen (List.mem_filter.2 ⟨List.mem_range.2 hf,by rw [decide_eq_false hfo];rfl⟩);obtain ⟨b,hb,e⟩:=List.mem_map.1 hm;obtain ⟨hb1,hb2⟩:=List.mem_filter.1 hb;have hb1:=List.mem_range.1 hb1;have hb2:yE es en b=false:=by simpa using hb2
 exact ⟨b,hb1,hb2,e,fun b' h1 h2 h3=>inj b' h1 h2 b hb1 hb2 (h3.trans e.symm)⟩
theorem PlanR.outsNil(h:PlanR N es ord outs en l rF s){x:Nat}(hx:x<N):outs.getD x []=[]↔(jK es Prod.fst (x:Nat) es.length).length=0:=by
 rw [←(h.outp x hx).length_eq,List.length_eq_zero_iff]
theorem PlanR.rowEq(_h:PlanR N es ord outs en l rF s){x:Nat}(hx:x<N):∃hx':x<(jQ N outs en).length,(jQ N outs en)[x]=yZ (outs.getD x []) (en.getD x []):=by
 have hx':x<(jQ N outs en).length:=by rw [qh];exact hx
 refine ⟨hx',?_⟩;rw [←uH hx,List.getD_eq_getElem?_getD,List.getElem?_eq_getElem hx'];rfl
/-- sinks: something ends there -/
theorem PlanR.sink(h:PlanR N es ord outs en l rF s)(he:0<es.length){x:Nat}(hx:x<N)(ho:outs.getD x []=[]):x≠s∧en.getD x []≠[]:=by
 have hxs:x≠s:=fun e=>by
  obtain ⟨i,_,_,_,h4,_⟩:=h.srcOut he;rw [←e,ho] at h4
  cases h4
 refine ⟨hxs,fun e0=>?_⟩;have h1:inD es x≠0:=fun e=>hxs (h.src x hx e);apply h1;rw [yN];intro i hi e;have:=h.edge hx hi e;rw [e0] at this
 cases this
theorem PlanR.tip(h:PlanR N es ord outs en l rF s)(he:0<es.length){x:Nat}(hx:x<N):zD es x=(decide (outs.getD x []=[])||decide (x=s)):=by
 unfold zD;have e1:(jK es Prod.snd (x:Nat) es.length).length=0↔x=s:=⟨fun e=>h.src x hx e,fun e=>by rw [e];exact h.sin⟩;rw [decide_eq_decide.2 e1,decide_eq_decide.2 (h.outsNil hx).symm];by_cases ho:outs.getD x []=[]
 ·rw [decide_eq_true ho,decide_eq_false (h.sink he hx ho).1];rfl
 ·rw [decide_eq_false ho]
  cases decide (x=s)<;>rfl
/-- a sink's list begins with its last edge, which comes behind the list's last half -/
theorem PlanR.sinkRow(h:PlanR N es ord outs en l rF s)(he:0<es.length){x:Nat}(hx:x<N)(ho:outs.getD x []=[]):∃d e:Nat,Jh (jQ N outs en) x=d∧d<2*es.length∧vtx es d=x∧d%2=1∧sig es (jQ N outs en) d=e∧e%2=1∧yE es en (e/2)=true∧vtx es e=x∧e<2*es.length ∧ ∀k,k<2*es.length→vtx es k=x→k%2=1→yE es en (k/2)=true→k=e:=by
 have hR:=h.right;obtain ⟨hx',hrow⟩:=h.rowEq hx;obtain ⟨_,hE⟩:=h.sink he hx ho;obtain ⟨a,ha,hax,hl,hhd⟩:=h.inRow hx hE
 have h0:0<(jQ N outs en)[x].length:=by
  rw [hrow];unfold yZ;rw [List.length_append];have:inH (en.getD x []).reverse≠[]:=fun e=>by rw [e] at hhd;cases hhd
  have:=List.length_pos_iff.2 this;omega
 obtain ⟨d,e,h1,h2,h3,h4,h5,h6⟩:=dD hR hx' h0;have hl0:(outs.getD x []).length=0:=by rw [ho];rfl
 obtain ⟨_,a2,_⟩:=h.rowAt hx' (by omega) h4;obtain ⟨_,b2,b3⟩:=h.rowAt hx' h0 h5;have hv:=qS hR h2;rw [h6] at hv;refine ⟨d,e,h1,h2,h3,a2 (by omega),h6,b2 (by omega),(b3 (b2 (by omega))).2 (by omega),hv.2.trans h3,hv.1,fun k hk hkv hk2 hkl=>?_⟩;obtain ⟨y,i,hy,hi,e1,e2⟩:=hR.pos hk;have hyx:y=x:=by rw [←e2,hkv]
 subst hyx;obtain ⟨_,_,c3⟩:=h.rowAt hy hi e1;have hi0:=(c3 hk2).1 hkl;have hi0:i=0:=by omega
 subst hi0;rw [h5] at e1;omega
theorem Zt{p:Nat→Bool}{N:Nat}(h:∀k,k<N→p k=false):(List.range N).countP p=0:=by
 rw [List.countP_eq_zero];intro k hk;rw [h k (List.mem_range.1 hk)];simp
/-- high angles of a face: its top, and its sinks' great ones -/
theorem PlanR.highs(h:PlanR N es ord outs en l rF s)(he:0<es.length){o:Nat}(ho:o<2*es.length)(hol:QK es (xv es outs en l) (xu es outs en l) o=es.length){f:Nat}(hf:f<(jo N es (jQ N outs en)).length) :
  (List.range (2*es.length)).countP (fun d=>decide (zt es (jQ N outs en) d=2)&&decide (jT N es (jQ N outs en) d=f)) =
   (if f=jT N es (jQ N outs en) (ot o) then 0 else 1)+(List.range N).countP fun x=>decide (outs.getD x []=[])&&decide (jT N es (jQ N outs en) (Jh (jQ N outs en) x).toNat=f):=by
 have hR:=h.right;have hin:InN N es:=by have:=ya hR;rwa [qh] at this
 obtain ⟨t1,t2⟩:=h.tops he ho hol
 have h1:(List.range (2*es.length)).countP (fun d=>decide (zt es (jQ N outs en) d=2)&&decide (jT N es (jQ N outs en) d=f)) =
   (List.range (2*es.length)).countP (fun d=>(fun e=>decide (e%2=1)&&(!yE es en (e/2)||decide (outs.getD (vtx es e) []=[]))&&decide (jT N es (jQ N outs en) (ot e)=f)) (sig es (jQ N outs en) d)):=by
  apply jP;intro d hd;have hv:=qS hR hd;simp only;rw [hv.2,vg hR hd,Bool.eq_iff_iff];simp only [Bool.and_eq_true,Bool.or_eq_true,decide_eq_true_eq,Bool.not_eq_true'];rw [h.high hd]
 rw [h1,Uc (uI hR) (fun e=>decide (e%2=1)&&(!yE es en (e/2)||decide (outs.getD (vtx es e) []=[]))&&decide (jT N es (jQ N outs en) (ot e)=f)),qy _ _ (fun e=>!yE es en (e/2))];congr 1
 ·by_cases hfo:f=jT N es (jQ N outs en) (ot o)
  ·rw [if_pos hfo];apply Zt;intro k hk;apply Bool.eq_false_iff.2;intro hp;simp only [Bool.and_eq_true,Bool.or_eq_true,decide_eq_true_eq,Bool.not_eq_true'] at hp;obtain ⟨⟨⟨k1,_⟩,k2⟩,k3⟩:=hp;refine t1 (k/2) (by omega) k3 ?_;rw [show 2*(k/2)+1=k by omega,k2,hfo]
  ·rw [if_neg hfo];obtain ⟨b,hb,hbl,hbf,hbu⟩:=t2 f hf hfo;refine um (a:=2*b+1) (by omega) ?_ fun k hk hp=>?_
   ·rw [show (2*b+1)/2=b by omega,hbl,hbf];simp
   ·simp only [Bool.and_eq_true,Bool.or_eq_true,decide_eq_true_eq,Bool.not_eq_true'] at hp;obtain ⟨⟨⟨k1,_⟩,k2⟩,k3⟩:=hp;have:=hbu (k/2) (by omega) k3 (by rw [show 2*(k/2)+1=k by omega];exact k2);omega
 ·rw [zU (v:=vtx es) (M:=N) _ _ (fun k hk=>xc hin hk),←vY];apply zg;intro x hx;by_cases hp:outs.getD x []=[]∧jT N es (jQ N outs en) (Jh (jQ N outs en) x).toNat=f
  ·rw [decide_eq_true hp.1,decide_eq_true hp.2,if_pos (by rfl)];obtain ⟨d,e,h1,h2,h3,_,h5,h6,h7,h8,h9,h10⟩:=h.sinkRow he hx hp.1
   have hfe:jT N es (jQ N outs en) (ot e)=f:=by
    have h11:=hp.2;rw [h1,Int.toNat_natCast] at h11;rw [←h5,vg hR h2,h11]
   refine um (a:=e) h9 ?_ fun k hk hq=>?_
   ·rw [h8,h7,hp.1,hfe,decide_eq_true h6];simp
   ·simp only [Bool.and_eq_true,Bool.or_eq_true,decide_eq_true_eq,Bool.not_eq_true',Bool.not_not] at hq;obtain ⟨k1,⟨⟨k2,_⟩,_⟩,k3⟩:=hq;exact h10 k hk k1 k2 k3
  ·rw [if_neg (by
    intro hq;simp only [Bool.and_eq_true,decide_eq_true_eq] at hq
    exact hp hq)]
   apply Zt;intro k hk;apply Bool.eq_false_iff.2;intro hq;simp only [Bool.and_eq_true,Bool.or_eq_true,decide_eq_true_eq,Bool.not_eq_true',Bool.not_not] at hq;obtain ⟨k1,⟨⟨k2,k4⟩,k5⟩,k3⟩:=hq
   have hox:outs.getD x []=[]:=by
    rcases k4 with k4 | k4
    ·rw [k3] at k4;cases k4
    ·rw [←k1];exact k4
   obtain ⟨d,e,h1,h2,h3,_,h5,h6,h7,h8,h9,h10⟩:=h.sinkRow he hx hox;have hke:=h10 k hk k1 k2 k3;apply hp;refine ⟨hox,?_⟩;rw [h1,Int.toNat_natCast,←vg hR h2,h5,←hke];exact k5
/-- the source's list ends with a half that goes up; the one behind it is left of all -/
theorem PlanR.srcRow(h:PlanR N es ord outs en l rF s)(he:0<es.length):∃d o:Nat,Jh (jQ N outs en) s=d∧d<2*es.length∧vtx es d=s∧d%2=0∧sig es (jQ N outs en) d=o∧o<2*es.length∧QK es (xv es outs en l) (xu es outs en l) o=es.length:=by
 have hR:=h.right;obtain ⟨hx',hrow⟩:=h.rowEq h.sN;obtain ⟨i,hi,hL,_,hhd,hE⟩:=h.srcOut he
 have hrow2:(jQ N outs en)[s]=Qy (outs.getD s []):=by
  rw [hrow,hE];unfold yZ inH;simp
 have hlen:(jQ N outs en)[s].length=(outs.getD s []).length:=by rw [hrow2];simp [Qy]
 have hne:outs.getD s []≠[]:=fun e=>by rw [e] at hhd;cases hhd
 have h0:0<(jQ N outs en)[s].length:=by rw [hlen];exact List.length_pos_iff.2 hne
 obtain ⟨d,o,h1,h2,h3,h4,h5,h6⟩:=dD hR hx' h0;obtain ⟨a1,_,_⟩:=h.rowAt hx' (by omega) h4;have hv:=qS hR h2;rw [h6] at hv;refine ⟨d,o,h1,h2,h3,a1 (by omega),h6,hv.1,?_⟩
 have ho:o=2*i:=by
  have e1:(jQ N outs en)[s].head? = some (o:Int):=by rw [List.head?_eq_getElem?,List.getElem?_eq_getElem h0,h5]
  rw [hrow2] at e1;unfold Qy at e1;rw [List.head?_map,hhd] at e1;have e2:2*(i:Int)=(o:Int):=Option.some.inj e1;omega
 rw [ho,Yx,hL]
theorem PlanR.outer(h:PlanR N es ord outs en l rF s)(he:0<es.length):∀k,k≤N→fZ N es (jQ N outs en) k=if s<k then ((jT N es (jQ N outs en) (Jh (jQ N outs en) s).toNat:Nat):Int) else 0
 | 0,_=>by rw [if_neg (by omega)];rfl
 | k+1,hk=>by
  have ih:=h.outer he k (by omega);unfold fZ;rw [h.tip he (by omega)];by_cases hks:k=s
  ·subst hks;obtain ⟨d,o,h1,_,_,h4,_⟩:=h.srcRow he;rw [if_pos (by rw [h1,Int.toNat_natCast];exact ⟨by simp,h4⟩),if_pos (by omega)]
  ·rw [if_neg,ih]
   ·by_cases h1:s<k
    ·rw [if_pos h1,if_pos (by omega)]
    ·rw [if_neg h1,if_neg (by omega)]
   ·rintro ⟨h1,h2⟩;rw [decide_eq_false hks,Bool.or_false,decide_eq_true_eq] at h1;obtain ⟨d,_,h3,_,_,h4,_⟩:=h.sinkRow he (by omega) h1;rw [h3,Int.toNat_natCast] at h2;omega
/-- THE LAW: the great angles of a plan's turn fit, with its outer face -/
theorem PlanR.fits(h:PlanR N es ord outs en l rF s):YO N es (jQ N outs en) (fZ N es (jQ N outs en) N) (ZL es (jQ N outs en) N)=true:=by
 have hR:=h.right
 have hask:xp N es (jQ N outs en)=true:=by
  apply zN;unfold zn;rw [show uD (N:Int) es=true from jt.2 h.good,zh.2 hR,decide_eq_true h.gen];rfl
 have hgl:∀x,x<N→(ZL es (jQ N outs en) N).getD x 0=Kr es (jQ N outs en) x:=fun x hx=>by
  unfold ZL;rw [List.getD_eq_getElem?_getD,List.getElem?_map,List.getElem?_range hx];rfl
 unfold YO;rw [show uD (N:Int) es=true from jt.2 h.good,hask,h.bim,Wt,decide_eq_true rfl]
 show xD N es (jQ N outs en) _ _=true
 unfold xD;rcases Nat.eq_zero_or_pos es.length with he | he
 ·rw [if_pos ((uy hR).2 he)]
  have htip:∀x,zD es x=false:=fun x=>by
   have e0:es=[]:=List.length_eq_zero_iff.1 he;subst e0;rfl
  have hout:∀k,fZ N es (jQ N outs en) k=0:=by
   intro k
   induction k with
   | zero=>rfl
   | succ k ih=>unfold fZ;rw [htip,if_neg (by simp),ih]
  rw [hout,hgl 0 (by have:=h.sN;omega)];unfold Kr;rw [htip];rfl
 ·have hF:(jo N es (jQ N outs en)).length≠0:=fun e=>by have:=(uy hR).1 e;omega
  obtain ⟨d,o,h1,h2,h3,_,h5,h6,h7⟩:=h.srcRow he;have hfd:=yh hR h2;have hfo:jT N es (jQ N outs en) (ot o)=jT N es (jQ N outs en) d:=by rw [←h5,vg hR h2]
  have hout:fZ N es (jQ N outs en) N=((jT N es (jQ N outs en) d:Nat):Int):=by
   rw [h.outer he N (Nat.le_refl _),if_pos h.sN,h1,Int.toNat_natCast]
  rw [if_neg hF,hout,if_pos ⟨by omega,by omega⟩,Int.toNat_natCast,qh];have hrl:(vr N es (jQ N outs en) (jT N es (jQ N outs en) d)).length=(jo N es (jQ N outs en)).length:=by unfold vr;rw [vK]
  obtain ⟨r,e1,e2,e3⟩:=Vu (n:=N) (es:=es) (rs:=jQ N outs en) (great:=ZL es (jQ N outs en) N) (room:=vr N es (jQ N outs en) (jT N es (jQ N outs en) d)) (k:=N) (fun x hx ht=>by
   obtain ⟨_,_,g,k1,k2,k3⟩:=pV hR ht;refine ⟨g,?_,k2,k3,by rw [hrl];exact (yh hR k2).1⟩;rw [hgl x hx];unfold Kr;rw [ht,if_pos rfl,k1]) (fun x hx ht=>by
   rw [hgl x hx];unfold Kr
   rw [ht,if_neg (by simp)])
  rw [e1];simp only [Bool.not_eq_true'];rw [List.any_eq_false];intro v hv;obtain ⟨f,hf,rfl⟩:=List.getElem_of_mem hv;have hf':f<(jo N es (jQ N outs en)).length:=by rw [←hrl,←e2];exact hf
  have h8:=e3 f (by rw [hrl];exact hf');rw [List.getD_eq_getElem?_getD,List.getElem?_eq_getElem hf,Option.getD_some] at h8;unfold vr at h8;rw [Qd hf',h.highs he h6 h7 hf',hfo] at h8
  have hT:(List.range N).countP (fun x=>zD es x&&decide (jT N es (jQ N outs en) ((ZL es (jQ N outs en) N).getD x 0).toNat=f)) =
    ((List.range N).countP fun x=>decide (outs.getD x []=[])&&decide (jT N es (jQ N outs en) (Jh (jQ N outs en) x).toNat=f))+if f=jT N es (jQ N outs en) d then 1 else 0:=by
   rw [qy _ _ (fun x=>decide (outs.getD x []=[]))];congr 1
   ·apply jP;intro x hx;rw [h.tip he hx,hgl x hx];unfold Kr;rw [h.tip he hx];by_cases ho:outs.getD x []=[]
    ·rw [decide_eq_true ho,Bool.true_or,if_pos rfl,Bool.true_and,Bool.and_true]
    ·rw [decide_eq_false ho,Bool.and_false,Bool.false_and]
   ·have hso:outs.getD s []≠[]:=fun e=>(h.sink he h.sN e).1 rfl;by_cases hfd2:f=jT N es (jQ N outs en) d
    ·rw [if_pos hfd2];refine um (a:=s) h.sN ?_ fun x hx hq=>?_
     ·rw [h.tip he h.sN,hgl s h.sN];unfold Kr;rw [h.tip he h.sN,h1];rw [decide_eq_false hso,decide_eq_true (rfl:s=s),Bool.false_or,if_pos rfl,Int.toNat_natCast,decide_eq_true hfd2.symm];rfl
     ·rw [h.tip he hx] at hq;simp only [Bool.and_eq_true,Bool.or_eq_true,decide_eq_true_eq,Bool.not_eq_true',decide_eq_false_iff_not] at hq;rcases hq.1.1 with h9 | h9
      ·exact absurd h9 hq.2
      ·exact h9
    ·rw [if_neg hfd2];apply Zt;intro x hx;apply Bool.eq_false_iff.2;intro hq;rw [h.tip he hx,hgl x hx] at hq;unfold Kr at hq;rw [h.tip he hx] at hq;simp only [Bool.and_eq_true,Bool.or_eq_true,decide_eq_true_eq,Bool.not_eq_true',decide_eq_false_iff_not] at hq;rcases hq.1.1 with h9 | h9
     ·exact hq.2 h9
     ·have:=hq.1.2;rw [if_pos (.inr h9),h9,h1,Int.toNat_natCast] at this;exact hfd2 this.symm
  rw [hT] at h8
  have:r[f]=0:=by
   rw [h8];by_cases hq:f=jT N es (jQ N outs en) d
   ·rw [if_pos hq,if_pos hq,if_pos hq];omega
   ·rw [if_neg hq,if_neg hq,if_neg hq];omega
  rw [this];simp [nz]
end
end Go.Proofs.YtneeknlhlkpnpaaGreat
/-
 Plain law: the order in which ready vertices are placed does not matter. Written by an AI agent.
-/
namespace Go.Proofs.YtneeknlhlkpnpaaGreat
open Go.RowKit
section
variable {N:Nat}{es:List (Int×Int)}{outs:List (List Int)}{s:Nat}
/-- what two vertices cut out of a row lies apart -/
theorem mE{r:List Itm}{x y:Nat}{A E B C F D:List Itm}(hxy:x≠y)(h1:CutR es r x A E B)(h2:CutR es r y C F D)(hE:E≠[])(hF:F≠[]) :
  (∃M,B=M++F++D∧C=A++E++M) ∨ ∃M,D=M++E++B∧A=C++F++M:=by
 obtain ⟨⟨ea,a1,a2⟩,_⟩:=h1.ends hE;obtain ⟨⟨eb,b1,b2⟩,_⟩:=h2.ends hF;have hlE:=List.length_pos_iff.2 hE;have hlF:=List.length_pos_iff.2 hF;have hr1:=h1.row;have hr2:=h2.row
 have ga:r[A.length]? = some ea:=by
  rw [hr1,List.append_assoc,List.getElem?_append_right (Nat.le_refl _),Nat.sub_self,List.getElem?_append_left hlE,←List.head?_eq_getElem?,a1]
 have gc:r[C.length]? = some eb:=by
  rw [hr2,List.append_assoc,List.getElem?_append_right (Nat.le_refl _),Nat.sub_self,List.getElem?_append_left hlF,←List.head?_eq_getElem?,b1]
 have inE:∀k e,A.length≤k→k<A.length+E.length→r[k]? = some e→e.2.2=(x:Int)∨e.2.2 = -1:=fun k e k1 k2 hk=>by
  rw [hr1,List.append_assoc,List.getElem?_append_right k1,List.getElem?_append_left (by omega)] at hk;exact h1.ine e (List.mem_of_getElem? hk)
 have inF:∀k e,C.length≤k→k<C.length+F.length→r[k]? = some e→e.2.2=(y:Int)∨e.2.2 = -1:=fun k e k1 k2 hk=>by
  rw [hr2,List.append_assoc,List.getElem?_append_right k1,List.getElem?_append_left (by omega)] at hk;exact h2.ine e (List.mem_of_getElem? hk)
 have hor:A.length+E.length≤C.length∨C.length+F.length≤A.length:=by
  apply Classical.byContradiction;intro hn;by_cases hac:A.length≤C.length
  ·rcases inE C.length eb hac (by omega) gc with h | h<;>omega
  ·rcases inF A.length ea (by omega) (by omega) ga with h | h<;>omega
 rw [hr1] at hr2;rcases hor with h | h
 ·left
  rw [List.append_assoc C F D] at hr2;rcases List.append_eq_append_iff.1 hr2 with ⟨M,e1,e2⟩ | ⟨M,e1,e2⟩
  ·exact ⟨M,by rw [e2,List.append_assoc],e1⟩
  ·have:M=[]:=by
    have:=congrArg List.length e1;simp only [List.length_append] at this;exact List.length_eq_zero_iff.1 (by omega)
   subst this;exact ⟨[],by simpa using e2.symm,by simpa using e1.symm⟩
 ·right
  rw [List.append_assoc A E B] at hr2;rcases List.append_eq_append_iff.1 hr2 with ⟨M,e1,e2⟩ | ⟨M,e1,e2⟩
  ·have:M=[]:=by
    have:=congrArg List.length e1;simp only [List.length_append] at this;exact List.length_eq_zero_iff.1 (by omega)
   subst this;exact ⟨[],by simpa using e2.symm,by simpa using e1.symm⟩
  ·exact ⟨M,by rw [e2,List.append_assoc],e1⟩
/-- edges to a ready vertex come from placed ones -/
theorem SwI.tails{r:List Itm}{pl:List Int}{en:List (List Itm)}(h:SwI N es outs r pl en)(hO:vS N es outs){y:Nat}{C F D:List Itm}(hc:CutR es r y C F D){i:Nat}(hi:i<es.length)(hh:(es.getD i (0,0)).2=(y:Int)):(es.getD i (0,0)).1∈pl:=by
 have hFr:∀e∈F,e∈r:=fun e he=>by rw [hc.row];simp [he]
 have hnd:F.Nodup:=by
  have:=(List.nodup_append.1 (h.nodup hO)).1;rw [hc.row] at this;exact (List.nodup_append.1 (List.nodup_append.1 this).1).2.1
 have key:(jK es Prod.snd (y:Nat) es.length).map (fun a=>itE es a.toNat)⊆F.filter fun e=>decide (e.2.2=(y:Int)):=by
  refine uV (hnd.filter _) (fun e he=>?_) ?_
  ·obtain ⟨h1,h2⟩:=List.mem_filter.1 he;have h2:=of_decide_eq_true h2;rcases h.item hO (List.mem_append_left _ (hFr e h1)) with ⟨j,hj,_,rfl⟩ | ⟨x,_,_,rfl⟩
   ·exact List.mem_map.2 ⟨(j:Int),qs.2 ⟨j,rfl,hj,h2⟩,rfl⟩
   ·simp at h2
  ·rw [List.length_map,←List.countP_eq_length_filter,hc.cnt];exact Nat.le_refl _
 have h1:itE es i∈F:=(List.mem_filter.1 (key (List.mem_map.2 ⟨(i:Int),qs.2 ⟨i,rfl,hi,hh⟩,rfl⟩))).1;rcases h.item hO (List.mem_append_left _ (hFr _ h1)) with ⟨j,hj,h2,e⟩ | ⟨x,_,_,e⟩
 ·have:i=j:=by have:=congrArg Prod.fst e;simp [itE] at this;omega
  rw [this];exact h2
 ·have:=congrArg Prod.fst e;simp [itE] at this
/-- nothing goes from an unplaced vertex to a ready one -/
theorem SwI.apart{r:List Itm}{pl:List Int}{en:List (List Itm)}(h:SwI N es outs r pl en)(hO:vS N es outs){x y:Nat}(hx:x<N)(hp:(x:Int)∉pl){C F D:List Itm}(hc:CutR es r y C F D):∀e∈yA es outs x,e.2.2≠(y:Int):=by
 intro e he e1;rcases (Yf hO hx).1 he with ⟨i,hi,h1,rfl⟩ | ⟨_,rfl⟩
 ·have:=h.tails hO hc hi e1;rw [h1] at this;exact hp this
 ·simp at e1
/-- a cut is told by the row -/
theorem CutR.same{r:List Itm}{x:Nat}{A E B A' E' B':List Itm}(h:CutR es r x A E B)(h':CutR es r x A' E' B'):E'=E∧A'++yA es outs x++B'=A++yA es outs x++B:=⟨by rw [←h.gone,←h'.gone],by unfold yA;rw [←h.place,←h'.place]⟩
/-- only what is placed counts, not the order -/
theorem Walk.mems{st fin:JV}{rest:List Nat}(hw:Walk es outs st rest fin):∀pl':List Int,(∀a,a∈pl'↔a∈st.2.1)→Walk es outs (st.1,pl',st.2.2) rest (fin.1,pl'++yH rest,fin.2.2):=by
 induction hw with
 | nil st=>intro pl' _;unfold yH;simp only [List.map_nil,List.append_nil];exact Walk.nil _
 | @cons r pl en x A E B rest fin hp hc hw ih=>
  intro pl' hm;refine Walk.cons (fun h=>hp ((hm _).1 h)) hc ?_
  have:=ih (pl'++[(x:Int)]) (fun a=>by
   have:=hm a
   simp only [List.mem_append,this])
  have e:pl'++yH (x::rest)=pl'++[(x:Int)]++yH rest:=by simp [yH]
  rw [e];exact this
/-- two ready vertices: one behind the other -/
theorem oH{r:List Itm}{pl:List Int}{en:List (List Itm)}(hI:SwI N es outs r pl en)(hO:vS N es outs)(hs:∀y,y<N→inD es y=0→y=s)(hS:gm s (r,pl,en)){x y:Nat}(hx:x<N)(hy:y<N)(hxy:x≠y)(hpx:(x:Int)∉pl)(hpy:(y:Int)∉pl){A E B C F D:List Itm}(h1:CutR es r x A E B)(h2:CutR es r y C F D) :
  ∃C' D' A' B',CutR es (A++yA es outs x++B) y C' F D'∧CutR es (C++yA es outs y++D) x A' E B'∧C'++yA es outs y++D'=A'++yA es outs x++B':=by
 have hE:E≠[]:=fun e=>by
  obtain ⟨_,hz⟩:=hS.step (outs:=outs) hs hx hpx h1;have hr:=hz e
  have hF:F=[]:=by
   have:=h2.row;rw [hr] at this;exact (List.append_eq_nil_iff.1 (List.append_eq_nil_iff.1 this.symm).1).2
  exact hxy ((hs x hx (h1.nil e).2).trans (hs y hy (h2.nil hF).2).symm)
 have hF:F≠[]:=fun e=>by
  obtain ⟨_,hz⟩:=hS.step (outs:=outs) hs hy hpy h2;have hr:=hz e;apply hE;have:=h1.row;rw [hr] at this;exact (List.append_eq_nil_iff.1 (List.append_eq_nil_iff.1 this.symm).1).2
 have ax:=hI.apart hO hx hpx h2;have ay:=hI.apart hO hy hpy h1
 have hpy':(y:Int)∉pl++[(x:Int)]:=by
  simp only [List.mem_append,List.mem_singleton,not_or];exact ⟨hpy,fun e=>hxy (by omega)⟩
 have hpx':(x:Int)∉pl++[(y:Int)]:=by
  simp only [List.mem_append,List.mem_singleton,not_or];exact ⟨hpx,fun e=>hxy (by omega)⟩
 rcases mE hxy h1 h2 hE hF with ⟨M,rfl,rfl⟩ | ⟨M,rfl,rfl⟩
 ·refine ⟨A++yA es outs x++M,D,A,M++yA es outs y++D,?_,?_,by simp only [List.append_assoc]⟩
  ·refine (xN hpy' (by simp only [List.append_assoc]) (fun e he=>?_) h2.ine h2.cnt (fun e=>absurd e hF) h2.ends).2;simp only [List.mem_append] at he;rcases he with ((he | he) | he) | he
   ·exact h2.out e (by simp [he])
   ·exact ax e he
   ·exact h2.out e (by simp [he])
   ·exact h2.out e (by simp [he])
  ·refine (xN hpx' (by simp only [List.append_assoc]) (fun e he=>?_) h1.ine h1.cnt (fun e=>absurd e hE) h1.ends).2;simp only [List.mem_append] at he;rcases he with he | ((he | he) | he)
   ·exact h1.out e (by simp [he])
   ·exact h1.out e (by simp [he])
   ·exact ay e he
   ·exact h1.out e (by simp [he])
 ·refine ⟨C,M++yA es outs x++B,C++yA es outs y++M,B,?_,?_,by simp only [List.append_assoc]⟩
  ·refine (xN hpy' (by simp only [List.append_assoc]) (fun e he=>?_) h2.ine h2.cnt (fun e=>absurd e hF) h2.ends).2;simp only [List.mem_append] at he;rcases he with he | ((he | he) | he)
   ·exact h2.out e (by simp [he])
   ·exact h2.out e (by simp [he])
   ·exact ax e he
   ·exact h2.out e (by simp [he])
  ·refine (xN hpx' (by simp only [List.append_assoc]) (fun e he=>?_) h1.ine h1.cnt (fun e=>absurd e hE) h1.ends).2;simp only [List.mem_append] at he;rcases he with ((he | he) | he) | he
   ·exact h1.out e (by simp [he])
   ·exact ay e he
   ·exact h1.out e (by simp [he])
   ·exact h1.out e (by simp [he])
/-- a ready vertex may be placed first -/
theorem Walk.first(hO:vS N es outs)(hs:∀y,y<N→inD es y=0→y=s){y:Nat}{rest2:List Nat}:∀(rest1:List Nat) {st fin:JV},Walk es outs st (rest1++y::rest2) fin→(rest1++y::rest2).Nodup→(∀x∈rest1++y::rest2,x<N)→gm s st→SwI N es outs st.1 st.2.1 st.2.2 →
  ∀ {C F D:List Itm},(y:Int)∉st.2.1→CutR es st.1 y C F D → ∃pl',Walk es outs (C++yA es outs y++D,st.2.1++[(y:Int)],st.2.2.set y F) (rest1++rest2) (fin.1,pl',fin.2.2)
 | [],st,fin,hw,_,_,_,_,C,F,D,hp,hc=>by
  rw [List.nil_append] at hw
  cases hw with
  | @cons r pl en _ A E B _ _ hp' hc' hw=>
   obtain ⟨e1,e2⟩:=hc.same (outs:=outs) hc';rw [e1,e2] at hw;exact ⟨_,hw⟩
 | x::rest1,st,fin,hw,hn,hr,hS,hI,C,F,D,hp,hc=>by
  rw [List.cons_append] at hw hn hr
  cases hw with
  | @cons r pl en _ A E B _ _ hpx hcx hw=>
   have hx:=hr x (List.mem_cons_self ..);have hy:=hr y (by simp);have hn2:=List.nodup_cons.1 hn;have hxy:x≠y:=fun e=>hn2.1 (by rw [e];simp);obtain ⟨C',D',A',B',k1,k2,k3⟩:=oH hI hO hs hS hx hy hxy hpx hp hcx hc;obtain ⟨hS',_⟩:=hS.step (outs:=outs) hs hx hpx hcx;have hI':=hI.step (outs:=outs) hx hpx hcx
   have hpy':(y:Int)∉pl++[(x:Int)]:=by
    simp only [List.mem_append,List.mem_singleton,not_or];exact ⟨hp,fun e=>hxy (by omega)⟩
   have hpx':(x:Int)∉pl++[(y:Int)]:=by
    simp only [List.mem_append,List.mem_singleton,not_or];exact ⟨hpx,fun e=>hxy (by omega)⟩
   obtain ⟨pl',h1⟩:=Walk.first hO hs rest1 hw hn2.2 (fun z hz=>hr z (List.mem_cons_of_mem _ hz)) hS' hI' hpy' k1
   have h2:=h1.mems (pl++[(y:Int)]++[(x:Int)]) (fun a=>by simp only [List.mem_append];constructor<;>(rintro ((h | h) | h)<;>simp [h]));refine ⟨pl++[(y:Int)]++[(x:Int)]++yH (rest1++rest2),?_⟩
   show Walk es outs (C++yA es outs y++D,pl++[(y:Int)],en.set y F) (x::(rest1++rest2)) _
   refine Walk.cons hpx' k2 ?_;have e1:(en.set y F).set x E=(en.set x E).set y F:=List.set_comm _ _ (fun e=>hxy e.symm);rw [e1,←k3];exact h2
/-- any ready vertex may be placed next: the rest still runs, to the same end -/
theorem Walk.any(hO:vS N es outs)(hs:∀y,y<N→inD es y=0→y=s){st fin:JV}{rest:List Nat}(hw:Walk es outs st rest fin)(hn:rest.Nodup)(hr:∀x∈rest,x<N)(hS:gm s st)(hI:SwI N es outs st.1 st.2.1 st.2.2){y:Nat}(hy:y∈rest){C F D:List Itm}(hp:(y:Int)∉st.2.1)(hc:CutR es st.1 y C F D) :
  ∃rest' pl',rest.Perm (y::rest')∧Walk es outs (C++yA es outs y++D,st.2.1++[(y:Int)],st.2.2.set y F) rest' (fin.1,pl',fin.2.2):=by
 obtain ⟨l1,l2,rfl⟩:=List.append_of_mem hy;obtain ⟨pl',h⟩:=Walk.first hO hs l1 hw hn hr hS hI hp hc
 exact ⟨l1++l2,pl',List.perm_middle,h⟩
end
end Go.Proofs.YtneeknlhlkpnpaaGreat
