import Derived.Test.YtneeknlhlkpnpaaGreatZRPlain
import Derived.Test.YtneeknlhlkpnpaaGreatZFits
import Derived.Test.YtneeknlhlkpnpaaGreatZRGr
import Derived.Test.YtneeknlhlkpnpaaGreatZFit2
import Derived.Test.YtneeknlhlkpnpaaGreatZEul
import Derived.Test.YtneeknlhlkpnpaaGreatZGol
import Derived.Test.YtneeknlhlkpnpaaGreatZWeb
import Derived.Test.YtneeknlhlkpnpaaGreatZRfs
import Derived.Test.YtneeknlhlkpnpaaGreatZChks
/-
 Plain law: the great angles of a plan's turn fit. Written by an AI agent.
-/
namespace Go.Proofs.YtneeknlhlkpnpaaGreat
open Go.RowKit
section
variable {n:Int}{es:List (Int×Int)}{rs:List (List Int)}{great room:List Int}
theorem ZG{k:Nat}(ht:∀x,x<k→yJ es x=true → ∃h:Nat,great.getD x 0=h∧h<2*es.length∧vtx es h=x∧jY n es rs h<room.length)(hn:∀x,x<k→yJ es x=false→great.getD x 0 = -1) :
  ∃r,uJ n es rs great room k=some r∧r.length=room.length ∧ ∀f,f<room.length→r.getD f 0=room.getD f 0-(((List.range k).countP fun x=>yJ es x&&decide (jY n es rs (great.getD x 0).toNat=f):Nat):Int):=by
 induction k with
 | zero=>exact ⟨room,rfl,rfl,fun f _=>by simp⟩
 | succ k ih=>
  obtain ⟨r,h1,h2,h3⟩:=ih (fun x hx=>ht x (by omega)) (fun x hx=>hn x (by omega));rw [zX,h1];unfold Yk;simp only
  cases hb:yJ es k with
  | true=>
   obtain ⟨h,e,hh,hv,hf⟩:=ht k (by omega) hb;rw [if_pos rfl,if_pos (by rw [e];exact ⟨by omega,by omega,by simpa using hv⟩)];refine ⟨_,rfl,by rw [List.length_set];exact h2,fun f hff=>?_⟩;rw [List.range_succ,List.countP_append,List.countP_singleton,hb,Bool.true_and,e,Int.toNat_natCast];rw [List.getD_eq_getElem?_getD,List.getElem?_set];by_cases hq:jY n es rs h=f
   ·rw [if_pos hq,if_pos (by rw [hq,h2];exact hff),decide_eq_true hq,if_pos rfl,Option.getD_some,hq,h3 f hff];omega
   ·rw [if_neg hq,decide_eq_false hq,if_neg (by simp),←List.getD_eq_getElem?_getD,h3 f hff];omega
  | false=>
   rw [if_neg (by simp),if_pos (hn k (by omega) hb)];refine ⟨r,rfl,h2,fun f hff=>?_⟩;rw [List.range_succ,List.countP_append,List.countP_singleton,hb,Bool.false_and,if_neg (by simp),h3 f hff];omega
theorem zT(hR:RightP n es rs){d:Nat}(hd:d<2*es.length):jY n es rs (ot (sig es rs d))=jY n es rs d:=by
 rw [ck hR (xY (yl hR hd).1) hd,Qf];refine Orb.symm (vI hR) (xY hd) ⟨1,?_⟩
 show nxf es rs (ot d)=sig es rs d
 rfl
end
theorem ub{p:Nat→Bool}{N a:Nat}(ha:a<N)(hp:p a=true)(hu:∀b,b<N→p b=true→b=a):(List.range N).countP p=1:=by
 have h:=vt (p:=p) (q:=fun h=>p h && !decide (h=a)) (m:=a) hp (fun _=>rfl) N;rw [if_pos ha] at h
 have h0:(List.range N).countP (fun h=>p h && !decide (h=a))=0:=by
  rw [List.countP_eq_zero];intro b hb hpb;have hb:=List.mem_range.1 hb;rw [Bool.and_eq_true] at hpb;have:=hu b hb hpb.1;rw [this] at hpb;simp at hpb
 omega
section
variable {N:Nat}{es:List (Int×Int)}{ord:List Int}{outs:List (List Int)}{en:List (List Itm)}{l:List Nat}{rF:List Itm}{s:Nat}
theorem PlanR.labFace(h:PlanR N es ord outs en l rF s){d e:Nat}(hd:d<2*es.length)(he:e<2*es.length)(hf:jY N es (jS N outs en) (ot d)=jY N es (jS N outs en) (ot e)):Qe es (xf es outs en l) (xe es outs en l) d=Qe es (xf es outs en l) (xe es outs en l) e:=by
 rw [ck h.right (xY hd) (xY he),Qf,Qf] at hf;obtain ⟨i,hi⟩:=hf;subst hi;have hP:=vI h.right
 have:∀(i x:Nat),x<2*es.length→Qe es (xf es outs en l) (xe es outs en l) x=Qe es (xf es outs en l) (xe es outs en l) (qQ (nxf es (jS N outs en)) i x):=by
  intro i
  induction i with
  | zero=>intro x _;rfl
  | succ i ih=>intro x hx;rw [←h.lab_next hx];exact ih _ (hP.lt x hx)
 exact this i d hd
theorem PlanR.inRow(h:PlanR N es ord outs en l rF s){x:Nat}(hx:x<N)(hE:en.getD x []≠[]):∃a:Nat,a<es.length∧(es.getD a (0,0)).2=(x:Int)∧(en.getD x []).getLast? = some (itE es a)∧(inH (en.getD x []).reverse).head? = some ((2*a+1:Nat):Int):=by
 obtain ⟨_,e,he,hex⟩:=h.inv.ends x hx hE;rcases h.item hx (List.mem_of_getLast? he) with ⟨a,ha,h1,rfl⟩ | h1
 ·refine ⟨a,ha,h1,he,?_⟩;obtain ⟨q,hq⟩:=List.getLast?_eq_some_iff.1 he;rw [hq];unfold inH;rw [List.reverse_append];simp [itE]
 ·rcases h.inv.item h.outp (List.mem_append_right _ (yS (List.mem_of_getLast? he))) with ⟨i,hi,_,rfl⟩ | ⟨u,_,_,rfl⟩
  ·simp [itE] at h1
  ·simp at hex
theorem PlanR.rowAt(h:PlanR N es ord outs en l rF s){x i:Nat}(hx:x<(jS N outs en).length)(hi:i<(jS N outs en)[x].length){d:Nat}(he:(jS N outs en)[x][i]=(d:Int)) :
  (i<(outs.getD x []).length→d%2=0)∧((outs.getD x []).length≤i→d%2=1)∧(d%2=1→(yH es en (d/2)=true↔i=(outs.getD x []).length)):=by
 have hxN:x<N:=by simpa [qB] using hx
 have hrow:(jS N outs en)[x]=zt (outs.getD x []) (en.getD x []):=by
  rw [←Jl hxN,List.getD_eq_getElem?_getD,List.getElem?_eq_getElem hx];rfl
 have ho:(YS (outs.getD x [])).length=(outs.getD x []).length:=by simp [YS]
 have he':=he;simp only [hrow] at he;unfold zt at he;rw [List.getElem_append] at he
 have p1:i<(outs.getD x []).length→d%2=0:=fun hlt=>by
  rw [dif_pos (by rw [ho];exact hlt)] at he;have hm:=List.getElem_mem (l:=YS (outs.getD x [])) (by rw [ho];exact hlt);rw [he] at hm;obtain ⟨k,_,hk⟩:=List.mem_map.1 hm;omega
 have p2:(outs.getD x []).length≤i→d%2=1:=fun hge=>by
  rw [dif_neg (by rw [ho];omega)] at he;have hm:((d:Nat):Int)∈inH (en.getD x []).reverse:=by rw [←he];exact List.getElem_mem _
  obtain ⟨k,_,hk⟩:=List.mem_map.1 hm;omega
 refine ⟨p1,p2,fun hodd=>?_⟩
 have hge:(outs.getD x []).length≤i:=by
  apply Classical.byContradiction;intro hlt;have:=p1 (by omega);omega
 rw [dif_neg (by rw [ho];omega)] at he;have hm:((d:Nat):Int)∈inH (en.getD x []).reverse:=by rw [←he];exact List.getElem_mem _
 have hE:en.getD x []≠[]:=by
  intro e0;rw [e0] at hm;simp [inH] at hm
 obtain ⟨a,ha,hax,hl,hhd⟩:=h.inRow hxN hE;have hlen0:0<(inH (en.getD x []).reverse).length:=List.length_pos_of_mem hm
 have h0:(inH (en.getD x []).reverse)[0]=((2*a+1:Nat):Int):=by
  rw [List.head?_eq_getElem?,List.getElem?_eq_getElem hlen0] at hhd;exact Option.some.inj hhd
 have hdm:d<2*es.length∧vtx es d=x:=by
  obtain ⟨d',h1,h2,h3⟩:=h.right.nat hx hi;rw [he'] at h1;have:d=d':=by omega
  rw [this];exact ⟨h2,h3⟩
 have hin:InN N es:=by have:=yV h.right;rwa [qB] at this
 have hd2:(es.getD (d/2) (0,0)).2=(x:Int):=by
  rw [←zY hin (by omega),show 2*(d/2)+1=d by omega,hdm.2]
 have hnd:(jS N outs en)[x].Nodup:=h.right.nd x hx
 have hlast:yH es en (d/2)=true↔d/2=a:=by
  rw [We,hd2,Int.toNat_natCast,hl];constructor
  ·intro e;have:=congrArg Prod.fst (Option.some.inj e);simp only [itE] at this;omega
  ·intro e;rw [e]
 rw [hlast];constructor
 ·intro e;have hdd:d=2*a+1:=by omega
  have hnI:(inH (en.getD x []).reverse).Nodup:=by
   rw [hrow] at hnd;exact (List.nodup_append.1 hnd).2.1
  have:=ku hnI (i:=0) (j:=i-(YS (outs.getD x [])).length) hlen0 (by
   have:=hi;simp only [hrow] at this;unfold zt at this;rw [List.length_append] at this
   omega) (by rw [h0,he,hdd])
  omega
 ·intro e;have:∀(k:Nat) (hk:k<(inH (en.getD x []).reverse).length),k=0→(inH (en.getD x []).reverse)[k]=((2*a+1:Nat):Int):=fun k hk e=>by subst e;exact h0
  have h2:=this _ (by
   have:=hi;simp only [hrow] at this;unfold zt at this;rw [List.length_append] at this
   omega) (by rw [ho];omega:i-(YS (outs.getD x [])).length=0)
  rw [h2] at he;omega
theorem PlanR.high(h:PlanR N es ord outs en l rF s){d:Nat}(hd:d<2*es.length):yE es (jS N outs en) d=2↔sig es (jS N outs en) d%2=1∧(yH es en (sig es (jS N outs en) d/2)=false∨outs.getD (vtx es d) []=[]):=by
 have hR:=h.right;obtain ⟨x,i,hx,hi,he,hv⟩:=hR.pos hd;have h1:=kR hR hx hi he;obtain ⟨a1,a2,_⟩:=h.rowAt hx hi he;obtain ⟨b1,b2,b3⟩:=h.rowAt hx (Nat.mod_lt _ (by omega)) h1;unfold yE;rw [kb];have ev_iff:∀k,ev k=false↔k%2=1:=fun k=>by unfold ev;simp
 rw [ev_iff,ev_iff,hv];generalize sig es (jS N outs en) d=e at *
 have hmod:(i+1)%(jS N outs en)[x].length=if i+1=(jS N outs en)[x].length then 0 else i+1:=by
  split
  ·rename_i e1;rw [e1];exact Nat.mod_self _
  ·exact Nat.mod_eq_of_lt (by omega)
 rw [hmod] at b1 b2 b3;by_cases hp:(outs.getD x []).length=0
 ·have hno:outs.getD x []=[]:=List.length_eq_zero_iff.1 hp;exact ⟨fun ⟨_,k2⟩=>⟨k2,.inr hno⟩,fun ⟨k1,_⟩=>⟨a2 (by omega),k1⟩⟩
 ·have hno:outs.getD x []≠[]:=fun e=>hp (by rw [e];rfl);constructor
  ·rintro ⟨k1,k2⟩;refine ⟨k2,.inl ?_⟩
   have hge:(outs.getD x []).length≤i:=by
    apply Classical.byContradiction;intro hlt;have:=a1 (by omega);omega
   cases hl:yH es en (e/2) with
   | false=>rfl
   | true=>
    have:=(b3 k2).1 hl
    split at this<;>omega
  ·rintro ⟨k1,k2⟩;refine ⟨?_,k1⟩;rcases k2 with k2 | k2
   ·have h3:=b3 k1;rw [k2] at h3;apply a2;apply Classical.byContradiction;intro hlt
    split at h3
    ·rename_i e1;rw [if_pos e1] at b1;have:=b1 (by omega);omega
    ·rename_i e1;rw [if_neg e1] at b1;by_cases h4:i+1<(outs.getD x []).length
     ·have:=b1 h4;omega
     ·exact absurd (h3.2 (by omega)) (by simp)
   ·exact absurd k2 hno
theorem PlanR.bim(h:PlanR N es ord outs en l rF s):xP (jS N outs en)=true:=by
 unfold xP;rw [List.all_eq_true];intro q hq;obtain ⟨x,hx,rfl⟩:=List.getElem_of_mem hq;rw [decide_eq_true_iff]
 have hle:plU (jS N outs en)[x] (jS N outs en)[x].length≤[(outs.getD x []).length-1,(jS N outs en)[x].length-1].length:=by
  unfold plU;rw [List.countP_eq_length_filter];refine List.Nodup.length_le_of_subset (List.nodup_range.filter _) fun i hi=>?_;obtain ⟨hi,hk⟩:=List.mem_filter.1 hi;have hi:=List.mem_range.1 hi;have hk:=of_decide_eq_true hk;obtain ⟨d,he,hd,_⟩:=h.right.nat hx hi;have h1:=kR h.right hx hi he;obtain ⟨a1,a2,_⟩:=h.rowAt hx hi he;obtain ⟨b1,b2,_⟩:=h.rowAt hx (Nat.mod_lt _ (by omega)) h1
  have hkk:kL (jS N outs en)[x] i=xL d (sig es (jS N outs en) d):=by
   unfold kL;rw [List.getD_eq_getElem?_getD,List.getElem?_eq_getElem hi,List.getD_eq_getElem?_getD,List.getElem?_eq_getElem (Nat.mod_lt _ (by omega)),Option.getD_some,Option.getD_some,he,h1];rfl
  rw [hkk] at hk
  have hne:d%2≠sig es (jS N outs en) d%2:=by
   have:=(Qt _ _).1 hk;unfold ev at this;intro e;exact this (by rw [e])
  generalize sig es (jS N outs en) d=e at *;by_cases hl:i+1=(jS N outs en)[x].length
  ·have:i=(jS N outs en)[x].length-1:=by omega
   rw [this];simp
  ·rw [Nat.mod_eq_of_lt (by omega)] at b1 b2
   have:i=(outs.getD x []).length-1:=by
    apply Classical.byContradiction;intro hn;by_cases hlt:i<(outs.getD x []).length
    ·have:=a1 hlt;have:=b1 (by omega);omega
    ·have:=a2 (by omega);have:=b2 (by omega);omega
   rw [this];simp
 simpa using hle
end
end Go.Proofs.YtneeknlhlkpnpaaGreat
/-
 The document's Same; it tells what the program's tells. Written by an AI agent.
-/
namespace Go.Proofs.YtneeknlhlkpnpaaGreat
open Go.RowKit
def lr(a b:List Int)(k i:Nat):Bool:=decide (a.getD ((i+k)%a.length) 0=b.getD i 0)
def KX(a b:List Int)(k n:Nat):Bool:=(List.range n).all (lr a b k)
def vm(a b:List Int):Bool:=decide (a.length=b.length)&&(decide (a.length=0)||(List.range a.length).any fun k=>KX a b k a.length)
theorem gq(a b:List Int)(k n:Nat):KX a b k (n+1)=(KX a b k n&&lr a b k n):=by
 unfold KX;rw [List.range_succ,List.all_append];simp
theorem aT{a b:List Int}{k:Nat}(hk:k<a.length)(hl:a.length=b.length):KX a b k a.length=decide (rot a k=b):=by
 rw [Bool.eq_iff_iff,decide_eq_true_eq];unfold KX;rw [List.all_eq_true]
 have key:∀i,i<a.length→(rot a k).getD i 0=a.getD ((i+k)%a.length) 0:=fun i hi=>by
  unfold rot;rw [List.getD_eq_getElem?_getD,List.getD_eq_getElem?_getD,List.getElem?_append];simp only [List.length_drop]
  split
  ·rw [List.getElem?_drop,Nat.mod_eq_of_lt (by omega),Nat.add_comm k i]
  ·rw [List.getElem?_take,if_pos (by omega)];congr 2;rw [show i+k=(i-(a.length-k))+a.length by omega,Nat.add_mod_right,Nat.mod_eq_of_lt (by omega)]
 constructor
 ·intro h;refine List.ext_getElem (by rw [qM,hl]) fun i h1 h2=>?_;have hi:i<a.length:=by rw [qM] at h1;exact h1
  have:=h i (List.mem_range.2 hi);unfold lr at this;rw [decide_eq_true_eq,←key i hi,List.getD_eq_getElem?_getD,List.getElem?_eq_getElem h1,List.getD_eq_getElem?_getD,List.getElem?_eq_getElem h2] at this;exact this
 ·intro h i hi;unfold lr;rw [decide_eq_true_eq,←key i (List.mem_range.1 hi),h]
theorem cX(a b:List Int):vm a b=zr a b:=by
 unfold vm zr;by_cases hl:a.length=b.length
 ·rw [decide_eq_true hl,Bool.true_and,Bool.or_comm];congr 1
  ·rw [Bool.eq_iff_iff,List.any_eq_true,List.any_eq_true];exact ⟨fun ⟨k,hk,h⟩=>⟨k,hk,by rw [←aT (List.mem_range.1 hk) hl];exact h⟩,fun ⟨k,hk,h⟩=>⟨k,hk,by rw [aT (List.mem_range.1 hk) hl];exact h⟩⟩
  ·by_cases h0:a.length=0
   ·rw [decide_eq_true h0,decide_eq_true (by omega)];rfl
   ·rw [decide_eq_false h0,Bool.false_and]
 ·rw [decide_eq_false hl,Bool.false_and,eq_comm,Bool.or_eq_false_iff];constructor
  ·rw [List.any_eq_false];intro i _;rw [decide_eq_true_eq];intro h;apply hl;rw [←h,qM]
  ·by_cases h0:a.length=0
   ·rw [decide_eq_false (show ¬b.length=0 by omega),Bool.and_false]
   ·rw [decide_eq_false h0,Bool.false_and]
set_option maxHeartbeats 1000000 in
theorem ai(A B:Option Addr)(c d:Nat)(a b:List Int)(w:World)(ha:jr w w.heap.size A (jf a))(hb:jr w w.heap.size B (jf b))(hla:a.length≤1000)(hlb:b.length≤1000) :
  Calls Tryz.prog 82 #[.slice A a.length c,.slice B b.length d] w (KU (vm a b) w):=by
 by_cases hl:a.length=b.length
 ·have H1:((a.length:Int) != (b.length:Int))=false:=by rw [xd];simp [hl]
  have HL:=Lib.hid hl;have hl1:a.length≤b.length:=by omega
  clear hl
  go_enter Tryz.func82,Tryz.ntmps82
  go_wp2_with fail
  go_loopg [5] a.length (fun n s5 wr=>∃k m:Nat,s5 = .int .i64 k∧k≤a.length∧n=a.length-k∧wr=w.drewN m ∧ ∀j,j<k→KX a b j a.length=false)
  case atStart=>exact ⟨0,0,rfl,Nat.zero_le _,rfl,rfl,fun j hj=>absurd hj (by omega)⟩
  case round=>
   obtain ⟨k,m,rfl,hk,hn,hwr,hno⟩:=hrel;have Hn:=Lib.hid hn;clear hn;have Hno:=Lib.hid hno;clear hno;have Hwr:=Lib.hid hwr;clear hwr;by_cases hlt:k<a.length
   ·have hlt':(k:Int)<a.length:=by omega
    obtain ⟨b1,o1,rfl,_,hc1⟩:=ha.ints (by omega);obtain ⟨b2,o2,rfl,_,hc2⟩:=hb.ints (by omega);obtain ⟨w0,rfl⟩:∃x,x=wr:=⟨_,rfl⟩;go_wp2_with fail
    go_loopg [6,7] a.length (fun n s6 s7 wr=>∃(i m:Nat) (p:Bool),s7 = .int .i64 i∧i≤a.length∧n=a.length-i∧wr=w.drewN m∧s6 = .bool p∧p=KX a b k i)
    case atStart=>exact ⟨0,m,true,rfl,Nat.zero_le _,rfl,Hwr.out,rfl,rfl⟩
    case round=>
     obtain ⟨i,m2,p,rfl,hi,hn,hwr,rfl,hp⟩:=hrel;have Hn2:=Lib.hid hn;clear hn;have Hp:=Lib.hid hp;clear hp;by_cases hlt2:i<a.length
     ·have hlt2':(i:Int)<a.length:=by omega
      have hj:(i+k)%a.length<a.length:=Nat.mod_lt _ (by omega);have c1:wr.cell? ⟨b1,o1+(i+k)%a.length,none⟩=some (.int .i64 (a[(i+k)%a.length])):=by rw [hwr];exact hc1 _ hj
      have c2:wr.cell? ⟨b2,o2+i,none⟩=some (.int .i64 (b[i]'(by omega))):=by rw [hwr];exact hc2 i (by omega)
      have hm:Int.tmod ((i:Int)+k) a.length=(((i+k)%a.length:Nat):Int):=by rw [Int.tmod_eq_emod_of_nonneg (by omega)];simp
      have hl0:¬((a.length:Int)=0):=by omega
      have hj':(((i+k)%a.length:Nat):Int)<a.length:=by omega
      have hb':(i:Int)<b.length:=by omega
      have HE:=Lib.hid (show lr a b k i=decide (a[(i+k)%a.length]=b[i]'(by omega)) by
       unfold lr
       rw [List.getD_eq_getElem?_getD,List.getElem?_eq_getElem hj,List.getD_eq_getElem?_getD,List.getElem?_eq_getElem (show i<b.length by omega)];rfl)
      have HS:=Lib.hid (gq a b k i);have Hwr2:=Lib.hid hwr;clear hwr;generalize a[(i+k)%a.length]=x at *;generalize b[i]'(by omega)=y at *;generalize (i+k)%a.length=jj at *
      cases p with
      | true=>
       by_cases hxy:x=y
       ·have hd:(x==y)=true:=by simp [hxy]
        have HQ:=Lib.hid (show KX a b k (i+1)=true by rw [HS.out,←Hp.out,HE.out,decide_eq_true hxy];rfl);clear hxy;go_wp2_with fail
        go_quiet (fail)
        go_wp2_with fail
        go_roundg (a.length-(i+1))
        case measure=>rw [Hn2.out];omega
        case rel=>exact ⟨i+1,m2+nq,true,by go_num,by omega,rfl,by rw [Hwr2.out];simp,rfl,HQ.out.symm⟩
       ·have hd:(x==y)=false:=by simp [hxy]
        have HQ:=Lib.hid (show KX a b k (i+1)=false by rw [HS.out,HE.out,decide_eq_false hxy,Bool.and_false]);clear hxy;go_wp2_with fail
        go_quiet (fail)
        go_wp2_with fail
        go_roundg (a.length-(i+1))
        case measure=>rw [Hn2.out];omega
        case rel=>exact ⟨i+1,m2+nq,false,by go_num,by omega,rfl,by rw [Hwr2.out];simp,rfl,HQ.out.symm⟩
      | false=>
       have HQ:=Lib.hid (show KX a b k (i+1)=false by rw [HS.out,←Hp.out,Bool.false_and]);go_wp2_with fail
       go_quiet (fail)
       go_wp2_with fail
       go_roundg (a.length-(i+1))
       case measure=>rw [Hn2.out];omega
       case rel=>exact ⟨i+1,m2+nq,false,by go_num,by omega,rfl,by rw [Hwr2.out];simp,rfl,HQ.out.symm⟩
     ·have hie:i=a.length:=by omega
      subst hie;have Hwr2:=Lib.hid hwr;clear hwr
      cases p with
      | true=>
       have HR:=Lib.hid (show vm a b=true by
        unfold vm;rw [decide_eq_true HL.out,Bool.true_and,Bool.or_eq_true]
        exact .inr (List.any_eq_true.2 ⟨k,List.mem_range.2 hlt,Hp.out.symm⟩))
       go_wp2_with fail;go_ret;exact ⟨jx HR.out.symm,m2,Hwr2.out⟩
      | false=>
       go_wp2_with fail
       go_roundg (a.length-(k+1))
       case measure=>rw [Hn.out];omega
       case rel=>exact ⟨k+1,m2,by go_num,by omega,rfl,Hwr2.out,fun j hj=>by
        by_cases h:j=k
        ·rw [h];exact Hp.out.symm
        ·exact Hno.out j (by omega)⟩
   ·have HR:=Lib.hid (show vm a b=decide (a.length=0) by
     unfold vm;rw [decide_eq_true HL.out,Bool.true_and]
     have:((List.range a.length).any fun k=>KX a b k a.length)=false:=by
      rw [List.any_eq_false];intro j hj;rw [Hno.out j (by have:=List.mem_range.1 hj;omega)];simp
     rw [this,Bool.or_false])
    by_cases h0:a.length=0
    ·have h0':((a.length:Int)==0)=true:=by simp [h0]
     rw [decide_eq_true h0] at HR;clear h0;go_wp2_with fail;go_ret;exact ⟨jx HR.out.symm,m,Hwr.out⟩
    ·have h0':((a.length:Int)==0)=false:=by simp;intro hh;apply h0;rw [hh];rfl
     rw [decide_eq_false h0] at HR;clear h0;go_wp2_with fail;go_ret;exact ⟨jx HR.out.symm,m,Hwr.out⟩
 ·have H1:((a.length:Int) != (b.length:Int))=true:=by rw [xd];simp [hl]
  have HR:=Lib.hid (show vm a b=false by unfold vm;rw [decide_eq_false hl];rfl);clear hl
  go_enter Tryz.func82,Tryz.ntmps82
  go_wp2_with fail;go_ret;exact ⟨jx HR.out.symm,0,rfl⟩
end Go.Proofs.YtneeknlhlkpnpaaGreat
namespace Go.Proofs.YtneeknlhlkpnpaaGreat
open Go.RowKit
theorem eF{P:Program}{f:FuncId}{args:Array Value}{w:World}{n:Nat}{p:Bool}(h:Calls P f args (w.drewN n) (KU p (w.drewN n))):Calls P f args (w.drewN n) fun e w''=>e = .returned (.bool p) ∧ ∃m,w''=w.drewN m:=
 h.mono fun _ _ ⟨he,m,hm⟩=>⟨he,n+m,by rw [hm,World.drewN_drewN]⟩
def xN(xs ys:List (List Int))(i:Nat):Bool:=(List.range i).all fun j=>vm (xs.getD j []) (ys.getD j [])
def uw(xs ys:List (List Int)):Bool:=decide (xs.length=ys.length)&&xN xs ys xs.length
theorem WJ(xs ys:List (List Int))(i:Nat):xN xs ys (i+1)=(xN xs ys i&&vm (xs.getD i []) (ys.getD i [])):=by
 unfold xN;rw [List.range_succ,List.all_append];simp
theorem WK{xs ys:List (List Int)}{i:Nat}(h:xN xs ys i=false){j:Nat}(hj:i≤j):xN xs ys j=false:=by
 unfold xN at h ⊢;rw [List.all_eq_false] at h ⊢;obtain ⟨k,hk,h2⟩:=h;exact ⟨k,List.mem_range.2 (by have:=List.mem_range.1 hk;omega),h2⟩
set_option maxRecDepth 20000 in
set_option maxHeartbeats 4000000 in
theorem YH(A B:Option Addr)(c d:Nat)(xs ys:List (List Int))(w:World)(ha:qm w w.heap.size A xs)(hb:qm w w.heap.size B ys)(h1:∀l∈xs,l.length≤1000)(h2:∀l∈ys,l.length≤1000)(h3:xs.length≤1000) :
  Calls Tryz.prog 32 #[.slice A xs.length c,.slice B ys.length d] w (fun e w'=>e = .returned (.bool (uw xs ys))∧Below w.heap.size w w'):=by
 have HA:=Lib.hid ha;have HB:=Lib.hid hb;have H1:=Lib.hid h1;have H2:=Lib.hid h2;clear ha hb h1 h2
 go_enter Tryz.func32,Tryz.ntmps32
 by_cases hl:xs.length=ys.length
 case neg=>
  have hl':((xs.length:Int) != (ys.length:Int))=true:=by rw [bne_iff_ne];omega
  have HR:=Lib.hid (show uw xs ys=false by unfold uw;rw [decide_eq_false hl,Bool.false_and]);clear hl;go_wp2_with fail;go_ret;exact ⟨jx HR.out.symm,Below.refl _ _⟩
 have hl':((xs.length:Int) != (ys.length:Int))=false:=by rw [hl];simp
 have HR:=Lib.hid (show uw xs ys=xN xs ys xs.length by unfold uw;rw [decide_eq_true hl,Bool.true_and]);have HL:=Lib.hid hl;clear hl;go_wp2_with fail;clear hl'
 go_loopg [5] xs.length (fun k s5 wr=>∃i:Nat,s5 = .int .i64 i∧i≤xs.length∧k=xs.length-i∧Below w.heap.size w wr∧xN xs ys i=true)
 case atStart=>exact ⟨0,rfl,Nat.zero_le _,rfl,Below.refl _ _,rfl⟩
 case round=>
  obtain ⟨i,rfl,hi,hk,hbr,hp⟩:=hrel;have Hk:=Lib.hid hk;have Hp:=Lib.hid hp;clear hk hp;by_cases hlt:i<xs.length
  ·have hlt':(i:Int)<xs.length:=by omega
   have hlb:i<ys.length:=by have:=HL.out;omega
   have hlb':(i:Int)<ys.length:=by omega
   obtain ⟨b1,o1,rfl,hb1,hc1⟩:=HA.out (by omega);obtain ⟨A1,c1,e1,hC1⟩:=hc1 i hlt;obtain ⟨b2,o2,rfl,hb2,hc2⟩:=HB.out (by omega);obtain ⟨A2,c2,e2,hC2⟩:=hc2 i hlb;have e1:=(hbr.cell (p:=⟨b1,o1+i,none⟩) hb1).trans e1;have e2:=(hbr.cell (p:=⟨b2,o2+i,none⟩) hb2).trans e2;have hC1:=hC1.below hbr;have hC2:=hC2.below hbr;have hs:=hbr.size
   have HT:=Lib.hid (show xN xs ys (i+1)=vm xs[i] ys[i] by
    rw [WJ,Hp.out,Bool.true_and]
    simp [hlt,hlb])
   have k1:=H1.out _ (List.getElem_mem hlt);have k2:=H2.out _ (List.getElem_mem hlb);clear hc1 hc2;generalize xs[i]=x at *;generalize ys[i]=y at *;have HRS:=Lib.hid (fun n=>ai A1 A2 c1 c2 x y (wr.drewN n) (hC1.more hs) (hC2.more hs) (by omega) (by omega))
   cases hq:vm x y with
   | true=>
    rw [hq] at HRS HT;go_wp2_with fail
    go_quiet ((go_at_call 82;exact eF (HRS.out _)))
    go_wp2_with fail
    go_roundg (xs.length-(i+1))
    case measure=>rw [Hk.out];omega
    case rel=>exact ⟨i+1,by go_num,by omega,rfl,below_drewN hbr nq,HT.out⟩
   | false=>
    rw [hq] at HRS HT;have HF:=Lib.hid (show uw xs ys=false by rw [HR.out];exact WK HT.out (by omega));go_wp2_with fail
    go_quiet ((go_at_call 82;exact eF (HRS.out _)))
    go_wp2_with fail;go_ret;exact ⟨jx HF.out.symm,below_drewN hbr nq⟩
  ·have hlt':¬(i:Int)<xs.length:=by omega
   have HF:=Lib.hid (show uw xs ys=true by rw [HR.out,show xs.length=i by omega];exact Hp.out);go_wp2_with fail;go_ret;exact ⟨jx HF.out.symm,hbr⟩
end Go.Proofs.YtneeknlhlkpnpaaGreat
namespace Go.Proofs.YtneeknlhlkpnpaaGreat
open Go.RowKit
end Go.Proofs.YtneeknlhlkpnpaaGreat
namespace Go.Proofs.YtneeknlhlkpnpaaGreat
open Go.RowKit
theorem ui{n:Int}{es:List (Int×Int)}{rs:List (List Int)}(hP:RightP n es rs):(jE n es rs).length=0↔es.length=0:=by
 constructor
 ·intro h;apply Classical.byContradiction;intro hne;obtain ⟨f,hf,_⟩:=bJ hP (h:=0) (by omega);omega
 ·intro h;have:=xn hP;omega
end Go.Proofs.YtneeknlhlkpnpaaGreat
/-
 Plain law: where great angles fit, each inner face has one top; the outer one none, and it has the source's great angle. Written by an AI agent.
-/
namespace Go.Proofs.YtneeknlhlkpnpaaGreat
open Go.RowKit
section
variable {n:Int}{es:List (Int×Int)}{rs:List (List Int)}{great room:List Int}
theorem Kn{k:Nat}{r:List Int}(h:uJ n es rs great room k=some r):(∀x,x<k→yJ es x=true → ∃h:Nat,great.getD x 0=h∧h<2*es.length∧vtx es h=x) ∧ ∀x,x<k→yJ es x=false→great.getD x 0 = -1:=by
 induction k generalizing r with
 | zero=>exact ⟨fun x hx=>absurd hx (Nat.not_lt_zero _),fun x hx=>absurd hx (Nat.not_lt_zero _)⟩
 | succ k ih=>
  rw [zX] at h
  cases hq:uJ n es rs great room k with
  | none=>rw [hq] at h;cases h
  | some q=>
   obtain ⟨i1,i2⟩:=ih hq;rw [hq] at h;unfold Yk at h;simp only at h;refine ⟨fun x hx ht=>?_,fun x hx ht=>?_⟩
   ·by_cases e:x=k
    ·subst e;rw [if_pos ht] at h
     split at h
     ·rename_i hc;exact ⟨(great.getD x 0).toNat,by omega,by omega,hc.2.2⟩
     ·cases h
    ·exact i1 x (by omega) ht
   ·by_cases e:x=k
    ·subst e;rw [if_neg (by rw [ht];simp)] at h
     split at h
     ·assumption
     ·cases h
    ·exact i2 x (by omega) ht
end
structure FitT(N:Nat)(es:List (Int×Int))(rs:List (List Int))(o s:Nat)(gr:Nat→Nat):Prop where
 good:GoodP N es
 right:RightP N es rs
 gen:gen N es rs=0
 bim:xP rs=true
 sN:s<N
 src:∀y,y<N→inD es y=0→y=s
 sin:inD es s=0
 pos:0<es.length
 oF:o<(jE N es rs).length
 tip:∀x,x<N→yJ es x=true→gr x<2*es.length∧vtx es (gr x)=x
 srcG:yJ es s=true∧jY N es rs (gr s)=o
 out:∀d,d<2*es.length→yE es rs d=2→jY N es rs d=o→yJ es (vtx es d)=true∧gr (vtx es d)=d
 top:∀f,f<(jE N es rs).length→f≠o → ∃d,d<2*es.length∧yE es rs d=2∧jY N es rs d=f ∧ ¬(yJ es (vtx es d)=true∧gr (vtx es d)=d) ∧ ∀e,e<2*es.length→yE es rs e=2→jY N es rs e=f → ¬(yJ es (vtx es e)=true∧gr (vtx es e)=e)→e=d
theorem JJ{p:Nat→Bool}{N:Nat}(h:∀k,k<N→p k=false):(List.range N).countP p=0:=by
 rw [List.countP_eq_zero];intro k hk;rw [h k (List.mem_range.1 hk)];simp
theorem pI{p:Nat→Bool}{N:Nat}(h:(List.range N).countP p=1):∃a,a<N∧p a=true ∧ ∀b,b<N→p b=true→b=a:=by
 obtain ⟨a,ha,hp⟩:=List.countP_pos_iff.1 (by omega:0<(List.range N).countP p);have ha:=List.mem_range.1 ha;refine ⟨a,ha,hp,fun b hb hpb=>?_⟩;apply Classical.byContradiction;intro hne;have h1:=vt (p:=p) (q:=fun h=>p h && !decide (h=a)) (m:=a) hp (fun _=>rfl) N;rw [if_pos ha] at h1;have:0<(List.range N).countP fun h=>p h && !decide (h=a):=List.countP_pos_iff.2 ⟨b,List.mem_range.2 hb,by rw [hpb,decide_eq_false hne];rfl⟩;omega
theorem oW{N:Nat}{es:List (Int×Int)}{rs:List (List Int)}{outer:Int}{great:List Int}(h:vz N es rs outer great=true)(he:0<es.length):∃s,FitT N es rs outer.toNat s (fun x=>(great.getD x 0).toNat)∧0≤outer:=by
 unfold vz at h;simp only [Bool.and_eq_true,decide_eq_true_eq] at h;obtain ⟨hg,⟨ha,hb⟩,_,hr⟩:=h;have hG:GoodP N es:=jB.1 hg;have hR:=Jj ha;have hin0:=yV hR;have hrl:rs.length=N:=by have:=hR.len;omega
 have hin:InN N es:=by rwa [hrl] at hin0
 obtain ⟨s,hs,hs0,hsu⟩:=ZD hG;unfold zS at hr;rw [if_neg (fun e=>by have:=(ui hR).1 e;omega)] at hr
 split at hr
 ·rename_i ho
  split at hr
  ·cases hr
  ·rename_i room hroom;rw [hrl] at hroom;obtain ⟨c1,c2⟩:=Kn hroom;have hlen:(zw N es rs outer.toNat).length=(jE N es rs).length:=by unfold zw;rw [yY]
   obtain ⟨r,e1,e2,e3⟩:=ZG (n:=N) (es:=es) (rs:=rs) (great:=great) (room:=zw N es rs outer.toNat) (k:=N) (fun x hx ht=>by
    obtain ⟨g,k1,k2,k3⟩:=c1 x hx ht
    exact ⟨g,k1,k2,k3,by rw [hlen];exact (ya hR k2).1⟩) c2
   rw [hroom] at e1;have e1:=Option.some.inj e1;subst e1;rw [Bool.not_eq_true',List.any_eq_false] at hr
   have hz:∀f,f<(jE N es rs).length→room.getD f 0=0:=fun f hf=>by
    have hf':f<room.length:=by rw [e2,hlen];exact hf
    have:=hr _ (List.getElem_mem hf');rw [List.getD_eq_getElem?_getD,List.getElem?_eq_getElem hf',Option.getD_some];simpa [nz] using this
   have hT:∀x,x<N→yJ es x=true→(great.getD x 0).toNat<2*es.length∧vtx es (great.getD x 0).toNat=x:=fun x hx ht=>by
    obtain ⟨g,k1,k2,k3⟩:=c1 x hx ht;rw [k1,Int.toNat_natCast];exact ⟨k2,k3⟩
   have sEv:∀d,d<2*es.length→vtx es d=s→d%2=0:=fun d hd hv=>by
    apply Classical.byContradiction;intro hodd;have h1:=zY hin (i:=d/2) (by omega);rw [show 2*(d/2)+1=d by omega,hv] at h1;exact zn.1 hs0 (d/2) (by omega) h1.symm
   have sLow:∀d,d<2*es.length→vtx es d=s→yE es rs d≠2:=fun d hd hv h2=>by
    have h3:=((kb _ _).1 h2).1;have:=sEv d hd hv;unfold ev at h3;simp [this] at h3
   have sTip:yJ es s=true:=by
    unfold yJ;have h1:(jK es Prod.snd (s:Nat) es.length).length=0:=hs0
    have h2:(jK es Prod.fst (s:Nat) es.length).length≠0:=fun e=>by
     obtain ⟨s',hs',hq⟩:=Jh hG;have hc1:cls (Q es es.length) N=1:=Yi (by omega) fun x hx=>Star.trans (Q.symm (hq 0 (by omega))) (hq x hx);rcases pn hin hc1 he hs with ⟨d,hd,hv,ho⟩ | ⟨d,hd,hv,ho⟩
     ·have:=sEv d hd hv;unfold ev at ho;simp [this] at ho
     ·have h3:=zL hin (i:=d/2) (by omega);have:=sEv d hd hv;rw [show 2*(d/2)=d by omega,hv] at h3;have hm:=ql.2 ⟨d/2,rfl,(by omega:d/2<es.length),h3.symm⟩;rw [List.length_eq_zero_iff.1 e] at hm
      cases hm
    rw [decide_eq_true h1,decide_eq_false h2];rfl
   have kHigh:∀x,x<N→x≠s→yJ es x=true → ∀d,d<2*es.length→vtx es d=x→yE es rs d=2:=fun x hx hxs ht d hd hv=>by
    refine aQ hR hd ?_;rintro ⟨k,hk,hkv,hke⟩;unfold yJ at ht;have h1:(jK es Prod.snd (x:Nat) es.length).length≠0:=fun e=>hxs (hsu x hx e);rw [decide_eq_false h1] at ht;simp only [Bool.false_bne,decide_eq_true_eq] at ht;have hk2:k%2=0:=by unfold ev at hke;simpa using hke
    have h3:=zL hin (i:=k/2) (by omega);rw [show 2*(k/2)=k by omega,hkv,hv] at h3;have hm:=ql.2 ⟨k/2,rfl,(by omega:k/2<es.length),h3.symm⟩;rw [List.length_eq_zero_iff.1 ht] at hm
    cases hm
   have hH:∀f,(List.range (2*es.length)).countP (fun d=>decide (yE es rs d=2)&&decide (jY N es rs d=f)) =
     ((List.range N).countP fun x=>(yJ es x && !decide (x=s))&&decide (jY N es rs (great.getD x 0).toNat=f)) +
     (List.range (2*es.length)).countP (fun d=>(decide (yE es rs d=2)&&decide (jY N es rs d=f)) && !(yJ es (vtx es d)&&decide ((great.getD (vtx es d) 0).toNat=d))):=fun f=>by
    rw [yA _ _ (fun d=>yJ es (vtx es d)&&decide ((great.getD (vtx es d) 0).toNat=d))];congr 1;rw [kl (v:=vtx es) (M:=N) _ _ (fun k hk=>xS hin hk),←Jd];apply Je;intro x hx;by_cases hp:(yJ es x=true∧x≠s)∧jY N es rs (great.getD x 0).toNat=f
    ·obtain ⟨⟨ht,hxs⟩,hf⟩:=hp;obtain ⟨g1,g2⟩:=hT x hx ht;rw [if_pos (by rw [ht,decide_eq_false hxs,decide_eq_true hf];rfl)];refine ub (a:=(great.getD x 0).toNat) g1 ?_ fun k hk hq=>?_
     ·rw [g2,ht,hf,kHigh x hx hxs ht _ g1 g2];simp
     ·simp only [Bool.and_eq_true,decide_eq_true_eq] at hq;rw [←hq.2.2.2,hq.1]
    ·rw [if_neg (by
      simp only [Bool.and_eq_true,decide_eq_true_eq,Bool.not_eq_true',decide_eq_false_iff_not]
      exact hp)]
     apply JJ;intro k hk;apply Bool.eq_false_iff.2;intro hq;simp only [Bool.and_eq_true,decide_eq_true_eq] at hq;obtain ⟨k1,⟨k2,k3⟩,k4,k5⟩:=hq;rw [k1] at k4 k5;refine hp ⟨⟨k4,fun e=>sLow k hk (k1.trans e) k2⟩,by rw [k5];exact k3⟩
   have hTs:∀f,(List.range N).countP (fun x=>yJ es x&&decide (jY N es rs (great.getD x 0).toNat=f)) =
     ((List.range N).countP fun x=>(yJ es x && !decide (x=s))&&decide (jY N es rs (great.getD x 0).toNat=f))+if jY N es rs (great.getD s 0).toNat=f then 1 else 0:=fun f=>by
    rw [yA _ _ (fun x=>!decide (x=s))];congr 1
    ·apply qn;intro x hx
     cases yJ es x<;>cases decide (x=s)<;>simp
    ·split
     ·rename_i hf;refine ub (a:=s) hs (by rw [sTip,hf];simp) fun b hb hq=>?_;simp only [Bool.and_eq_true,Bool.not_not,decide_eq_true_eq] at hq;exact hq.2
     ·rename_i hf;apply JJ;intro k hk;apply Bool.eq_false_iff.2;intro hq;simp only [Bool.and_eq_true,Bool.not_not,decide_eq_true_eq] at hq;exact hf (by rw [←hq.2];exact hq.1.2)
   have key:∀f,f<(jE N es rs).length→(if f=outer.toNat then (1:Int) else -1)+((List.range (2*es.length)).countP (fun d=>(decide (yE es rs d=2)&&decide (jY N es rs d=f)) && !(yJ es (vtx es d)&&decide ((great.getD (vtx es d) 0).toNat=d))):Nat)-(if jY N es rs (great.getD s 0).toNat=f then (1:Int) else 0)=0:=fun f hf=>by
    have h1:=e3 f (by rw [hlen];exact hf);rw [hz f hf] at h1;unfold zw at h1;rw [XT hf,hH,hTs] at h1
    split at h1<;>split at h1<;>rename_i q1 q2<;>simp only [q1,q2,if_true,if_false] at * <;> omega
   have hoF:outer.toNat<(jE N es rs).length:=by omega
   have hso:jY N es rs (great.getD s 0).toNat=outer.toNat:=by
    have h1:=key _ hoF;rw [if_pos rfl] at h1;apply Classical.byContradiction;intro hne;rw [if_neg hne] at h1;omega
   have hgen:gen N es rs=0:=by
    unfold xy at ha;simp only [Bool.and_eq_true,decide_eq_true_eq] at ha;exact ha.2.1
   refine ⟨s,⟨hG,hR,hgen,hb,hs,hsu,hs0,he,hoF,hT,⟨sTip,hso⟩,fun d hd hk hf=>?_,fun f hf hfo=>?_⟩,ho.1⟩
   ·have h1:=key _ hoF;rw [if_pos rfl,if_pos hso] at h1;have h2:(List.range (2*es.length)).countP (fun d=>(decide (yE es rs d=2)&&decide (jY N es rs d=outer.toNat)) && !(yJ es (vtx es d)&&decide ((great.getD (vtx es d) 0).toNat=d)))=0:=by omega
    rw [List.countP_eq_zero] at h2;have h3:=h2 d (List.mem_range.2 hd);simp only [hk,hf,decide_true,Bool.true_and,Bool.not_eq_true',Bool.not_eq_false,Bool.and_eq_true,decide_eq_true_eq] at h3;exact h3
   ·have h1:=key _ hf;rw [if_neg hfo,if_neg (fun e=>hfo (by rw [←e];exact hso))] at h1;have h2:(List.range (2*es.length)).countP (fun d=>(decide (yE es rs d=2)&&decide (jY N es rs d=f)) && !(yJ es (vtx es d)&&decide ((great.getD (vtx es d) 0).toNat=d)))=1:=by omega
    obtain ⟨d,hd,hp,hu⟩:=pI h2;simp only [Bool.and_eq_true,decide_eq_true_eq,Bool.not_eq_true',Bool.and_eq_false_iff,decide_eq_false_iff_not] at hp;refine ⟨d,hd,hp.1.1,hp.1.2,fun ⟨q1,q2⟩=>?_,fun e he' k1 k2 k3=>hu e he' ?_⟩
    ·rcases hp.2 with h | h
     ·rw [q1] at h;cases h
     ·exact h q2
    ·simp only [k1,k2,decide_true,Bool.true_and,Bool.not_eq_true',Bool.and_eq_false_iff,decide_eq_false_iff_not];by_cases q:yJ es (vtx es e)=true
     ·exact .inr fun e'=>k3 ⟨q,e'⟩
     ·exact .inl (by simpa using q)
 ·cases hr
end Go.Proofs.YtneeknlhlkpnpaaGreat
/-
 Plain law: the placed part of a map taken as one vertex, its list the row's edges. Written by an AI agent.
-/
namespace Go.Proofs.YtneeknlhlkpnpaaGreat
open Go.RowKit
def nxr(l:List Nat)(a:Nat):Nat:=l.getD ((l.idxOf a+1)%l.length) 0
section
variable {l:List Nat}{a b:Nat}
theorem Yc(hn:l.Nodup){i:Nat}(hi:i<l.length):nxr l l[i]=l[(i+1)%l.length]'(Nat.mod_lt _ (by omega)):=by
 unfold nxr;rw [List.Nodup.idxOf_getElem hn i hi,List.getD_eq_getElem?_getD,List.getElem?_eq_getElem (Nat.mod_lt _ (by omega))];rfl
theorem uQ(hn:l.Nodup)(ha:a∈l):nxr l a∈l:=by
 obtain ⟨i,hi,rfl⟩:=List.getElem_of_mem ha;rw [Yc hn hi];exact List.getElem_mem _
theorem oG(hn:l.Nodup)(ha:a∈l)(hb:b∈l)(h:nxr l a=nxr l b):a=b:=by
 obtain ⟨i,hi,rfl⟩:=List.getElem_of_mem ha;obtain ⟨j,hj,rfl⟩:=List.getElem_of_mem hb;rw [Yc hn hi,Yc hn hj] at h;have:=Zn hi hj (ku hn _ _ h);subst this;rfl
end
structure Cut(N:Nat)(es:List (Int×Int))(rs:List (List Int))(o s:Nat)(pl:Nat→Prop)(ρ : List Nat):Prop where
 nd : ρ.Nodup
 mem:∀i,i ∈ ρ ↔ i<es.length∧pl (vtx es (2*i)) ∧ ¬pl (vtx es (2*i+1))
 down:∀i,i<es.length→pl (vtx es (2*i+1))→pl (vtx es (2*i))
 src:pl s
 out:∀a,ρ.head? = some a→jY N es rs (ot (2*a))=o
 ring:∀a ∈ ρ,jY N es rs (ot (2*a+1))=jY N es rs (ot (2*nxr ρ a))
section
variable {N:Nat}{es:List (Int×Int)}{rs:List (List Int)}{o s:Nat}{gr:Nat→Nat}{pl:Nat→Prop}{ρ : List Nat}
noncomputable def sP(es:List (Int×Int))(rs:List (List Int))(pl:Nat→Prop)(ρ : List Nat)(d:Nat):Nat:=
 if tst (¬pl (vtx es d))=true then sig es rs d else if d%2=0∧d/2 ∈ ρ then 2*nxr ρ (d/2) else d
theorem YW{d:Nat}(h:¬pl (vtx es d)):sP es rs pl ρ d=sig es rs d:=by unfold sP;rw [if_pos (jB.2 h)]
theorem ux{a:Nat}(hc:Cut N es rs o s pl ρ)(h:a ∈ ρ):sP es rs pl ρ (2*a)=2*nxr ρ a:=by
 unfold sP;rw [if_neg (by rw [jB];exact fun h1=>h1 ((hc.mem a).1 h).2.1),if_pos (by rw [show 2*a/2=a by omega];exact ⟨by omega,h⟩),show 2*a/2=a by omega]
theorem uP{d:Nat}(h:pl (vtx es d))(h2:¬(d%2=0∧d/2 ∈ ρ)):sP es rs pl ρ d=d:=by
 unfold sP;rw [if_neg (by rw [jB];exact fun h1=>h1 h),if_neg h2]
theorem uO(d:Nat)(pl:Nat→Prop)(ρ : List Nat):¬pl (vtx es d)∨(pl (vtx es d) ∧ ∃a ∈ ρ,d=2*a)∨(pl (vtx es d) ∧ ¬(d%2=0∧d/2 ∈ ρ)):=by
 by_cases h1:pl (vtx es d)
 ·by_cases h2:d%2=0∧d/2 ∈ ρ
  ·exact .inr (.inl ⟨h1,d/2,h2.2,by omega⟩)
  ·exact .inr (.inr ⟨h1,h2⟩)
 ·exact .inl h1
theorem eq(hR:RightP N es rs)(hc:Cut N es rs o s pl ρ):Perm (2*es.length) (sP es rs pl ρ):=by
 refine ⟨fun d hd=>?_,fun d e hd he hde=>?_⟩
 ·rcases uO d pl ρ with h | ⟨_,a,ha,rfl⟩ | ⟨h,h2⟩
  ·rw [YW h];exact (yl hR hd).1
  ·rw [ux hc ha];have:=((hc.mem _).1 (uQ hc.nd ha)).1;omega
  ·rw [uP h h2];exact hd
 ·rcases uO d pl ρ with h | ⟨h,a,ha,rfl⟩ | ⟨h,h2⟩
  ·rw [YW h] at hde;have hv:=(yl hR hd).2;rcases uO e pl ρ with k | ⟨k,b,hb,rfl⟩ | ⟨k,k2⟩
   ·rw [YW k] at hde;exact (QA hR).inj _ _ hd he hde
   ·rw [ux hc hb] at hde;have:=((hc.mem _).1 (uQ hc.nd hb)).2.1;rw [←hde,hv] at this;exact absurd this h
   ·rw [uP k k2] at hde;rw [←hde,hv] at k;exact absurd k h
  ·rw [ux hc ha] at hde;have hm:=(hc.mem _).1 (uQ hc.nd ha);rcases uO e pl ρ with k | ⟨k,b,hb,rfl⟩ | ⟨k,k2⟩
   ·rw [YW k] at hde;have hv:=(yl hR he).2;rw [←hde] at hv;rw [hv] at hm;exact absurd hm.2.1 k
   ·rw [ux hc hb] at hde;rw [oG hc.nd ha hb (by omega)]
   ·rw [uP k k2] at hde;exfalso;apply k2;rw [←hde];exact ⟨by omega,by rw [show 2*nxr ρ a/2=nxr ρ a by omega];exact uQ hc.nd ha⟩
  ·rw [uP h h2] at hde;rcases uO e pl ρ with k | ⟨k,b,hb,rfl⟩ | ⟨k,k2⟩
   ·rw [YW k] at hde;have hv:=(yl hR he).2;rw [←hde] at hv;rw [hv] at h;exact absurd h k
   ·rw [ux hc hb] at hde;exfalso;apply h2;rw [hde];exact ⟨by omega,by rw [show 2*nxr ρ b/2=nxr ρ b by omega];exact uQ hc.nd hb⟩
   ·rw [uP k k2] at hde;exact hde
def zf(es:List (Int×Int))(pl:Nat→Prop)(d:Nat):Prop:=pl (vtx es (2*(d/2)+1))
noncomputable def Vb(N:Nat)(es:List (Int×Int))(pl:Nat→Prop)(d:Nat):Nat:=if tst (zf es pl d)=true then N+1+d else if tst (pl (vtx es d))=true then N else vtx es d
noncomputable def Gz(N:Nat)(es:List (Int×Int))(rs:List (List Int))(pl:Nat→Prop)(d:Nat):Nat:=if tst (zf es pl d)=true then (jE N es rs).length+d/2 else jY N es rs (ot d)
end
end Go.Proofs.YtneeknlhlkpnpaaGreat
