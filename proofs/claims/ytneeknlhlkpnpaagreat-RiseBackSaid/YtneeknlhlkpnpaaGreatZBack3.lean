import Derived.Test.YtneeknlhlkpnpaaGreatZRing5
import Derived.Test.YtneeknlhlkpnpaaGreatZFlat3
/-
 Plain law: a state's next one: a vertex is placed, labels and ends go on. Written by an AI agent.
-/
namespace Go.Proofs.YtneeknlhlkpnpaaGreat
open Go.RowKit
structure StateI(N:Nat)(es:List (Int×Int))(rs:List (List Int))(o s:Nat)(gr:Nat→Nat)(Q:Nat→List Nat)(outs:List (List Int))(r:List Itm)(pl:List Int)(en:List (List Itm)):Prop where
 inv:SwI N es outs r pl en
 src:(s:Int)∈pl
 ch:chn (itL N es rs gr) (itR N es rs gr) o r o
 ends:∀x,x<N→(x:Int)∈pl→(en.getD x []).filter (fun e=>decide (e.1 ≠ -1))=(Q x).map (itE es)
section
variable {N:Nat}{es:List (Int×Int)}{rs:List (List Int)}{o s:Nat}{gr:Nat→Nat}{D P Q:Nat→List Nat}{outs:List (List Int)}{r:List Itm}{pl:List Int}{en:List (List Itm)}
theorem KN(i:Nat):itL N es rs gr (itE es i)=jY N es rs (ot (2*i)):=by
 unfold itL;rw [if_neg (fun e=>by have e:(i:Int) = -1:=e;omega)];rfl
theorem KM(i:Nat):itR N es rs gr (itE es i)=jY N es rs (ot (2*i+1)):=by
 unfold itR;rw [if_neg (fun e=>by have e:(i:Int) = -1:=e;omega)];rfl
theorem Xb(hf:FitT N es rs o s gr){w:Nat}(hD:NormR es rs gr w (D w) (P w) (Q w))(_hP:P w≠[]):∀(k n:Nat) (h:k+n<(P w).length),chn (itL N es rs gr) (itR N es rs gr) (jY N es rs (ot (2*(P w)[k]'(by omega)))) ((((P w).drop k).take (n+1)).map (itE es)) (jY N es rs (ot (2*(P w)[k+n]+1))):=by
 intro k n
 induction n generalizing k with
 | zero=>
  intro h;have h:k<(P w).length:=h;rw [List.drop_eq_getElem_cons h];exact ⟨KN _,KM _⟩
 | succ n ih=>
  intro h;rw [List.drop_eq_getElem_cons (show k<(P w).length by omega),List.take_succ_cons,List.map_cons];refine ⟨KN _,?_⟩;have h1:=ih (k+1) (by omega);have e:k+1+n=k+(n+1):=by omega
  simp only [e] at h1;have hn:=hD.next k (by rw [hD.len];omega)
  rw [hD.atP (show k<(P w).length by omega),hD.atP (show k+1<(P w).length by omega)] at hn
  have h2:itR N es rs gr (itE es ((P w)[k]'(by omega)))=jY N es rs (ot (2*(P w)[k+1]'(by omega))):=by
   rw [KM,uy,←hn,zT hf.right];have:=(hD.memP.1 (List.getElem_mem (show k<(P w).length by omega))).1;omega
  rw [h2];exact h1
end
end Go.Proofs.YtneeknlhlkpnpaaGreat
/-
 Plain law: the vertex that is placed next. Written by an AI agent.
-/
namespace Go.Proofs.YtneeknlhlkpnpaaGreat
open Go.RowKit
section
variable {N:Nat}{es:List (Int×Int)}{rs:List (List Int)}{o s:Nat}{gr:Nat→Nat}{D P Q:Nat→List Nat}{outs:List (List Int)}{r:List Itm}{pl:List Int}{en:List (List Itm)}
theorem gk(hI:SwI N es outs r pl en)(hO:zO N es outs):r.filter (fun e=>decide (e.1 ≠ -1))=(cz r).map (itE es):=by
 unfold cz;rw [List.map_map]
 conv=>lhs;rw [←List.map_id (r.filter _)]
 apply List.map_congr_left;intro e he;obtain ⟨h1,h2⟩:=List.mem_filter.1 he;rcases hI.item hO (List.mem_append_left _ h1) with ⟨i,_,_,rfl⟩ | ⟨x,_,_,rfl⟩
 ·rfl
 ·simp at h2
theorem StateI.cut(hf:FitT N es rs o s gr)(hO:zO N es outs)(hD:∀x,x<N→NormR es rs gr x (D x) (P x) (Q x))(h:StateI N es rs o s gr Q outs r pl en){x:Nat}(hx:x<N)(hp:(x:Int)∉pl) :
  ∃w A E B,w<N∧(w:Int)∉pl∧w≠s∧Q w≠[]∧CutR es r w A E B∧E.filter (fun e=>decide (e.1 ≠ -1))=(Q w).map (itE es):=by
 have hin:=hf.inN;have hc:=iJ hf hO h.inv h.src h.ch;obtain ⟨w,hg⟩:=au hf hc hx hp;have hw:=hg.1.1;have hwp:(w:Int)∉pl:=hg.1.2.1;have hws:w≠s:=fun e=>hwp (by rw [e];exact h.src);have hN:=hD w hw
 have hQ:Q w≠[]:=by
  obtain ⟨k,hk,hv,ho⟩:=hf.odd_at hw hws;have ho2:k%2=1:=by unfold ev at ho;simpa using ho
  exact List.ne_nil_of_mem (hN.memQ.2 ⟨(by omega:k/2<es.length),by rw [show 2*(k/2)+1=k by omega];exact hv⟩)
 obtain ⟨X,Z,hXZ⟩:=dq hc.nd hN hg hQ;have hfil:=gk h.inv hO;rw [hXZ,List.map_append,List.map_append] at hfil;obtain ⟨A,E,B,hr,hA,hE,hB,⟨e1,k1,k2⟩,e2,k3,k4⟩:=WW (fun e:Itm=>decide (e.1 ≠ -1)) r _ _ _ hfil (fun e=>hQ (List.map_eq_nil_iff.1 e));have hndr:=(List.nodup_append.1 (h.inv.nodup hO)).1
 have head:∀a∈Q w,(itE es a).2.2=(w:Int):=fun a ha=>by
  obtain ⟨h1,h2⟩:=hN.memQ.1 ha;have:=zY hin h1
  show (es.getD a (0,0)).2=(w:Int)
  omega
 have inQ:∀e∈r,e.2.2=(w:Int) → ∃a∈Q w,e=itE es a:=fun e he hew=>by
  rcases h.inv.item hO (List.mem_append_left _ he) with ⟨i,hi,_,rfl⟩ | ⟨x,_,_,rfl⟩
  ·refine ⟨i,hN.memQ.2 ⟨hi,?_⟩,rfl⟩;have:=zY hin hi;have hew:(es.getD i (0,0)).2=(w:Int):=hew;omega
  ·simp at hew
 have realE:∀e∈E,decide (e.1 ≠ -1)=true → ∃a∈Q w,e=itE es a:=fun e he hr2=>by
  have:e∈E.filter (fun e=>decide (e.1 ≠ -1)):=List.mem_filter.2 ⟨he,hr2⟩;rw [hE] at this;obtain ⟨a,ha,rfl⟩:=List.mem_map.1 this;exact ⟨a,ha,rfl⟩
 have hEr:∀e∈E,e∈r:=fun e he=>by rw [hr];simp [he]
 have hin2:∀a∈Q w,itE es a∈E:=fun a ha=>by
  have:itE es a∈E.filter (fun e=>decide (e.1 ≠ -1)):=by rw [hE];exact List.mem_map.2 ⟨a,ha,rfl⟩
  exact (List.mem_filter.1 this).1
 refine ⟨w,A,E,B,hw,hwp,hws,hQ,?_,hE⟩;refine (vZ hwp hr (fun e he hew=>?_) (fun e he=>?_) ?_ (fun e=>?_) (fun _=>⟨⟨e1,k1,?_⟩,e2,k3,?_⟩)).2
 ·have her:e∈r:=by rw [hr];simp only [List.mem_append] at he ⊢;rcases he with he | he<;>simp [he]
  obtain ⟨a,ha,rfl⟩:=inQ e her hew;have hm:=hin2 a ha;rw [hr] at hndr;rcases List.mem_append.1 he with he | he
  ·exact (List.nodup_append.1 (List.nodup_append.1 hndr).1).2.2 _ he _ hm rfl
  ·exact (List.nodup_append.1 hndr).2.2 _ (List.mem_append_right _ hm) _ he rfl
 ·by_cases hl:e.1 = -1
  ·rcases h.inv.item hO (List.mem_append_left _ (hEr e he)) with ⟨i,_,_,rfl⟩ | ⟨x,_,_,rfl⟩
   ·have hl:(i:Int) = -1:=hl;omega
   ·exact .inr rfl
  ·obtain ⟨a,ha,rfl⟩:=realE e he (decide_eq_true hl);exact .inl (head a ha)
 ·have h1:E.countP (fun e=>decide (e.2.2=(w:Int)))=(E.filter fun e=>decide (e.1 ≠ -1)).length:=by
   rw [←List.countP_eq_length_filter];apply List.countP_congr;intro e he;simp only [decide_eq_true_eq];constructor
   ·intro hew hl;obtain ⟨a,_,rfl⟩:=inQ e (hEr e he) hew;have hl:(a:Int) = -1:=hl;omega
   ·intro hl;obtain ⟨a,ha,rfl⟩:=realE e he (decide_eq_true hl);exact head a ha
  rw [h1,hE,List.length_map];unfold inD
  have hpm:((Q w).map fun a:Nat=>(a:Int)).Perm (jK es Prod.snd (w:Nat) es.length):=by
   refine (List.perm_ext_iff_of_nodup ?_ (vq _ _ _ _)).2 fun a=>?_
   ·rw [List.nodup_iff_pairwise_ne,List.pairwise_map];exact (List.nodup_iff_pairwise_ne.1 hN.ndQ).imp fun h e=>h (by omega)
   ·rw [ql,List.mem_map];constructor
    ·rintro ⟨b,hb,rfl⟩;obtain ⟨h1,_⟩:=hN.memQ.1 hb;exact ⟨b,rfl,h1,head b hb⟩
    ·rintro ⟨b,rfl,h1,h2⟩;have:=zY hin h1;exact ⟨b,hN.memQ.2 ⟨h1,by omega⟩,rfl⟩
  rw [←hpm.length_eq,List.length_map]
 ·exfalso;rw [e] at k1
  cases k1
 ·obtain ⟨a,ha,rfl⟩:=realE e1 (List.mem_of_mem_head? k1) k2;exact head a ha
 ·obtain ⟨a,ha,rfl⟩:=realE e2 (List.mem_of_getLast? k3) k4;exact head a ha
end
end Go.Proofs.YtneeknlhlkpnpaaGreat
/-
 Plain law: labels at the vertex that is placed next. Written by an AI agent.
-/
namespace Go.Proofs.YtneeknlhlkpnpaaGreat
open Go.RowKit
section
variable {N:Nat}{es:List (Int×Int)}{rs:List (List Int)}{o s:Nat}{gr:Nat→Nat}{D P Q:Nat→List Nat}{outs:List (List Int)}{r:List Itm}{pl:List Int}{en:List (List Itm)}
theorem VW{α : Type}{p : α → Bool}{E:List α}{e : α}(h:E.head? = some e)(hp:p e=true):(E.filter p).head? = some e:=by
 cases E with
 | nil=>cases h
 | cons x t=>
  injection h with h;subst h;rw [List.filter_cons,if_pos hp];rfl
theorem az{α : Type}{p : α → Bool}{E:List α}{e : α}(h:E.getLast? = some e)(hp:p e=true):(E.filter p).getLast? = some e:=by
 rw [←List.head?_reverse] at h;have:=VW h hp;rw [List.filter_reverse,List.head?_reverse] at this;exact this
theorem gV(hf:FitT N es rs o s gr){w:Nat}(hN:NormR es rs gr w (D w) (P w) (Q w))(hQ:0<(Q w).length)(hP:P w≠[]):chn (itL N es rs gr) (itR N es rs gr) (jY N es rs (ot (2*(Q w)[0]))) ((P w).map (itE es)) (jY N es rs (ot (2*(Q w)[(Q w).length-1]+1))):=by
 have hp:=List.length_pos_iff.2 hP;have hl:=hN.len;have h1:=Xb hf hN hP 0 ((P w).length-1) (by omega);rw [List.drop_zero,List.take_of_length_le (by omega)] at h1;simp only [Nat.zero_add] at h1;have hw:=hN.wrap (by omega);have q0:=hN.atQ (k:=0) hQ;have e1:(P w).length+((Q w).length-1-0)=(D w).length-1:=by omega
 simp only [e1] at q0;rw [q0,hN.atP (k:=0) hp] at hw;have hn:=hN.next ((P w).length-1) (by omega)
 have q1:=hN.atQ (k:=(Q w).length-1) (by omega);have e2:(P w).length+((Q w).length-1-((Q w).length-1))=(P w).length-1+1:=by omega
 simp only [e2] at q1;rw [q1,hN.atP (k:=(P w).length-1) (by omega)] at hn;have m0:=(hN.memQ.1 (List.getElem_mem hQ)).1;have m1:=(hN.memP.1 (List.getElem_mem (show (P w).length-1<(P w).length by omega))).1
 have f0:jY N es rs (ot (2*(P w)[0]))=jY N es rs (ot (2*(Q w)[0])):=by
  rw [←hw,zT hf.right (by omega),kT]
 have f1:jY N es rs (ot (2*(Q w)[(Q w).length-1]+1))=jY N es rs (ot (2*(P w)[(P w).length-1]+1)):=by
  rw [←hn,zT hf.right (by omega),uy]
 rw [←f0,f1];exact h1
end
end Go.Proofs.YtneeknlhlkpnpaaGreat
/-
 Plain law: the next state. Written by an AI agent.
-/
namespace Go.Proofs.YtneeknlhlkpnpaaGreat
open Go.RowKit
section
variable {N:Nat}{es:List (Int×Int)}{rs:List (List Int)}{o s:Nat}{gr:Nat→Nat}{D P Q:Nat→List Nat}{outs:List (List Int)}{r:List Itm}{pl:List Int}{en:List (List Itm)}
theorem eK(hf:FitT N es rs o s gr){w:Nat}(hN:NormR es rs gr w (D w) (P w) (Q w))(hout:outs.getD w []=(P w).map fun a:Nat=>(a:Int)):yD es outs w=if P w=[] then [(-1,(w:Int),-1)] else (P w).map (itE es):=by
 unfold yD yj;rw [hout,List.length_map];by_cases h:P w=[]
 ·rw [if_pos (by rw [h];rfl),if_pos h]
 ·rw [if_neg (fun e=>h (List.length_eq_zero_iff.1 e)),if_neg h,List.map_map];apply List.map_congr_left;intro a ha;obtain ⟨h1,h2⟩:=hN.memP.1 ha;have h3:=zL hf.inN h1
  show ((a:Int),(w:Int),(es.getD (a:Int).toNat (0,0)).2)=itE es a
  unfold itE;rw [←h3,h2];rfl
theorem StateI.next(hf:FitT N es rs o s gr)(hO:zO N es outs)(hD:∀x,x<N→NormR es rs gr x (D x) (P x) (Q x))(hout:∀x,x<N→outs.getD x []=(P x).map fun a:Nat=>(a:Int))(h:StateI N es rs o s gr Q outs r pl en){x:Nat}(hx:x<N)(hp:(x:Int)∉pl) :
  ∃w A E B,w<N∧(w:Int)∉pl∧CutR es r w A E B∧StateI N es rs o s gr Q outs (A++yD es outs w++B) (pl++[(w:Int)]) (en.set w E):=by
 obtain ⟨w,A,E,B,hw,hwp,hws,hQ,hc,hE⟩:=h.cut hf hO hD hx hp;have hN:=hD w hw;have hq:=List.length_pos_iff.2 hQ;have hEne:E≠[]:=fun e=>hQ (by rw [e] at hE;exact List.map_eq_nil_iff.1 hE.symm);obtain ⟨⟨e1,k1,k2⟩,e2,k3,k4⟩:=hc.ends hEne
 have real:∀e:Itm,e∈E→e.2.2=(w:Int)→decide (e.1 ≠ -1)=true:=fun e he hew=>by
  rcases h.inv.item hO (List.mem_append_left _ (by rw [hc.row];simp [he]:e∈r)) with ⟨i,_,_,rfl⟩ | ⟨y,_,_,rfl⟩
  ·exact decide_eq_true fun e=>by have e:(i:Int) = -1:=e;omega
  ·simp at hew
 have f1:=VW (p:=fun e:Itm=>decide (e.1 ≠ -1)) k1 (real e1 (List.mem_of_mem_head? k1) k2);have f2:=az (p:=fun e:Itm=>decide (e.1 ≠ -1)) k3 (real e2 (List.mem_of_getLast? k3) k4);rw [hE,List.head?_map,List.head?_eq_getElem?,List.getElem?_eq_getElem hq] at f1;rw [hE,List.getLast?_map,List.getLast?_eq_getElem?,List.getElem?_eq_getElem (by omega)] at f2;have g1:itE es (Q w)[0]=e1:=Option.some.inj f1;have g2:itE es (Q w)[(Q w).length-1]=e2:=Option.some.inj f2;have hch:=h.ch;rw [hc.row,zp] at hch;obtain ⟨c',h1,h2⟩:=hch;obtain ⟨c,h3,h4⟩:=(zp _).1 h1;have ec:=QL h4 k1;have ec':=ZM h4 k3;rw [←g1,KN] at ec;rw [←g2,KM] at ec'
 have hA:chn (itL N es rs gr) (itR N es rs gr) c (yD es outs w) c':=by
  rw [eK hf hN (hout w hw),←ec,←ec'];by_cases hP:P w=[]
  ·rw [if_pos hP]
   have ht:yJ es w=true:=(hf.tip_even hw hws).2 fun ⟨k,hk,hv,he⟩=>by
    have he2:k%2=0:=by unfold ev at he;simpa using he
    have:=hN.memP.2 ⟨(by omega:k/2<es.length),by rw [show 2*(k/2)=k by omega];exact hv⟩;rw [hP] at this
    cases this
   have hl:=hN.len;have hp0:(P w).length=0:=by rw [hP];rfl
   have hg:=hN.great ht;rw [List.getLast?_eq_getElem?,List.getElem?_eq_getElem (by omega)] at hg;have hg:=Option.some.inj hg;have q0:=hN.atQ (k:=0) hq;have e1:(P w).length+((Q w).length-1-0)=(D w).length-1:=by omega
   simp only [e1] at q0;have hwr:=hN.wrap (by omega);have q1:=hN.atQ (k:=(Q w).length-1) (by omega);have e2:(P w).length+((Q w).length-1-((Q w).length-1))=0:=by omega
   simp only [e2] at q1;have m0:=(hN.memQ.1 (List.getElem_mem hq)).1;have hgr:gr w=2*(Q w)[0]+1:=by rw [←hg,q0]
   rw [q0,q1] at hwr;refine ⟨?_,?_⟩
   ·show itL N es rs gr (-1,(w:Int),-1)=_
    unfold itL;rw [if_pos rfl,Int.toNat_natCast,hgr,kT]
   ·show itR N es rs gr (-1,(w:Int),-1)=_
    unfold itR;rw [if_pos rfl,Int.toNat_natCast,hgr,←hwr,zT hf.right (by omega)]
  ·rw [if_neg hP];exact gV hf hN hq hP
 refine ⟨w,A,E,B,hw,hwp,hc,h.inv.step hw hwp hc,List.mem_append_left _ h.src,?_,fun z hz hzp=>?_⟩
 ·exact (zp _).2 ⟨c',(zp _).2 ⟨c,h3,hA⟩,h2⟩
 ·rw [xm (by rw [h.inv.len];exact hw)];by_cases hzw:z=w
  ·rw [if_pos hzw,hzw];exact hE
  ·rw [if_neg hzw];refine h.ends z hz ?_;rcases List.mem_append.1 hzp with h9 | h9
   ·exact h9
   ·simp at h9;omega
end
end Go.Proofs.YtneeknlhlkpnpaaGreat
/-
 Plain law: from a state to the end: all vertices can be placed. Written by an AI agent.
-/
namespace Go.Proofs.YtneeknlhlkpnpaaGreat
open Go.RowKit
section
variable {N:Nat}{es:List (Int×Int)}{rs:List (List Int)}{o s:Nat}{gr:Nat→Nat}{D P Q:Nat→List Nat}{outs:List (List Int)}
theorem StateI.run(hf:FitT N es rs o s gr)(hO:zO N es outs)(hD:∀x,x<N→NormR es rs gr x (D x) (P x) (Q x))(hout:∀x,x<N→outs.getD x []=(P x).map fun a:Nat=>(a:Int)):∀(n:Nat) {r:List Itm} {pl:List Int} {en:List (List Itm)},StateI N es rs o s gr Q outs r pl en→pl.length+n=N →
  ∃l rF en',Walk es outs (r,pl,en) l (rF,pl++yd l,en')∧(∀x∈l,x<N)∧l.length=n∧StateI N es rs o s gr Q outs rF (pl++yd l) en'
 | 0,r,pl,en,h,hn=>⟨[],r,en,by unfold yd;simp only [List.map_nil,List.append_nil];exact Walk.nil _,by simp,rfl,by unfold yd;simpa using h⟩
 | n+1,r,pl,en,h,hn=>by
  have hex:∃x,x<N∧(x:Int)∉pl:=by
   apply Classical.byContradiction;intro hno
   have hsub:yd (List.range N)⊆pl:=fun a ha=>by
    obtain ⟨x,hx,rfl⟩:=List.mem_map.1 ha;exact Classical.byContradiction fun hn=>hno ⟨x,List.mem_range.1 hx,hn⟩
   have hnd:(yd (List.range N)).Nodup:=by
    unfold yd;rw [List.nodup_iff_pairwise_ne,List.pairwise_map];exact (List.nodup_iff_pairwise_ne.1 List.nodup_range).imp fun h e=>h (by omega)
   have:=List.Nodup.length_le_of_subset hnd hsub;unfold yd at this;rw [List.length_map,List.length_range] at this;omega
  obtain ⟨x,hx,hp⟩:=hex;obtain ⟨w,A,E,B,hw,hwp,hc,h'⟩:=h.next hf hO hD hout hx hp
  obtain ⟨l,rF,en',k1,k2,k3,k4⟩:=StateI.run hf hO hD hout n h' (by rw [List.length_append];simp;omega);have e:pl++yd (w::l)=pl++[(w:Int)]++yd l:=by simp [yd]
  refine ⟨w::l,rF,en',?_,fun z hz=>?_,by rw [List.length_cons,k3],?_⟩
  ·rw [e];exact Walk.cons hwp hc k1
  ·rcases List.mem_cons.1 hz with rfl | hz
   ·exact hw
   ·exact k2 z hz
  ·rw [e];exact k4
end
end Go.Proofs.YtneeknlhlkpnpaaGreat
/-
 Plain law: the first state: the source is placed. Written by an AI agent.
-/
namespace Go.Proofs.YtneeknlhlkpnpaaGreat
open Go.RowKit
section
variable {N:Nat}{es:List (Int×Int)}{rs:List (List Int)}{o s:Nat}{gr:Nat→Nat}{D P Q:Nat→List Nat}{outs:List (List Int)}
theorem StateI.first(hf:FitT N es rs o s gr)(hD:∀x,x<N→NormR es rs gr x (D x) (P x) (Q x))(hout:∀x,x<N→outs.getD x []=(P x).map fun a:Nat=>(a:Int)) :
  CutR es [] s [] [] []∧StateI N es rs o s gr Q outs ([]++yD es outs s++[]) ([]++[(s:Int)]) ((List.replicate N []).set s []):=by
 have hN:=hD s hf.sN;have hc:CutR es [] s [] [] []:=(vZ (pl:=[]) (by simp) rfl (by simp) (by simp) (by rw [hf.sin];rfl) (fun _=>⟨rfl,hf.sin⟩) (fun h=>absurd rfl h)).2
 have hQ:Q s=[]:=by
  rw [List.eq_nil_iff_forall_not_mem];intro a ha;obtain ⟨h1,h2⟩:=hN.memQ.1 ha;have:=zY hf.inN h1;rw [h2] at this;exact zn.1 hf.sin a h1 this.symm
 have hl:=hN.len;have hq0:(Q s).length=0:=by rw [hQ];rfl
 have hg:=hN.great hf.srcG.1
 have hDp:0<(D s).length:=by
  apply Nat.pos_of_ne_zero;intro e;rw [List.length_eq_zero_iff.1 e] at hg
  cases hg
 have hp:0<(P s).length:=by omega
 have hP:P s≠[]:=List.length_pos_iff.1 hp;rw [List.getLast?_eq_getElem?,List.getElem?_eq_getElem (by omega)] at hg;have hg:=Option.some.inj hg;have hw:=hN.wrap hDp;have p1:=hN.atP (k:=(P s).length-1) (by omega);have p0:=hN.atP (k:=0) hp;have e1:(P s).length-1=(D s).length-1:=by omega
 have hlast:(D s)[(D s).length-1]'(by omega)=2*(P s)[(P s).length-1]:=by
  have:∀(j:Nat) (hj:j<(D s).length),j=(P s).length-1→(D s)[j]=2*(P s)[(P s).length-1]:=fun j hj e=>by subst e;exact p1
  exact this _ (by omega) (by omega)
 rw [hlast] at hg hw;rw [p0] at hw;have m1:=(hN.memP.1 (List.getElem_mem (show (P s).length-1<(P s).length by omega))).1
 have hch:chn (itL N es rs gr) (itR N es rs gr) o (yD es outs s) o:=by
  rw [eK hf hN (hout s hf.sN),if_neg hP];have h1:=Xb hf hN hP 0 ((P s).length-1) (by omega);rw [List.drop_zero,List.take_of_length_le (by omega)] at h1;simp only [Nat.zero_add] at h1
  have f0:jY N es rs (ot (2*(P s)[0]))=o:=by
   rw [←hw,zT hf.right (by omega),hg];exact hf.srcG.2
  have f1:jY N es rs (ot (2*(P s)[(P s).length-1]+1))=o:=by
   rw [uy,hg];exact hf.srcG.2
  rw [f0,f1] at h1;exact h1
 refine ⟨hc,SwI.start.step hf.sN (by simp) hc,by simp,?_,fun x hx hxp=>?_⟩
 ·rw [List.nil_append,List.append_nil];exact hch
 ·have:x=s:=by simp at hxp;omega
  subst this;rw [xm (by rw [List.length_replicate];exact hx),if_pos rfl,hQ];rfl
end
end Go.Proofs.YtneeknlhlkpnpaaGreat
/-
 Plain law: EXISTENCE: where great angles fit there is a plan that runs, with that turn. Written by an AI agent.
-/
namespace Go.Proofs.YtneeknlhlkpnpaaGreat
open Go.RowKit
section
variable {N:Nat}{es:List (Int×Int)}{rs:List (List Int)}{o s:Nat}{gr:Nat→Nat}
theorem aA(hf:FitT N es rs o s gr):∃(D P Q:Nat→List Nat) (outs:List (List Int)) (ord:List Int) (en:List (List Itm)) (l:List Nat) (rF:List Itm),(∀x,x<N→NormR es rs gr x (D x) (P x) (Q x))∧(∀x,x<N→outs.getD x []=(P x).map fun a:Nat=>(a:Int))∧PlanR N es ord outs en l rF s ∧
  ∀x,x<N→(jS N outs en).getD x []=(D x).map fun a:Nat=>(a:Int):=by
 have hch:∀x,∃t:List Nat×List Nat×List Nat,x<N→NormR es rs gr x t.1 t.2.1 t.2.2:=fun x=>by
  by_cases hx:x<N
  ·obtain ⟨D,P,Q,h⟩:=me hf hx;exact ⟨(D,P,Q),fun _=>h⟩
  ·exact ⟨([],[],[]),fun h=>absurd h hx⟩
 obtain ⟨t,ht⟩:∃t:Nat→List Nat×List Nat×List Nat,∀x,x<N→NormR es rs gr x (t x).1 (t x).2.1 (t x).2.2:=⟨fun x=>Classical.choose (hch x),fun x=>Classical.choose_spec (hch x)⟩;obtain ⟨outs,ho⟩:∃outs:List (List Int),outs=(List.range N).map fun x=>(t x).2.1.map fun a:Nat=>(a:Int):=⟨_,rfl⟩
 have hout:∀x,x<N→outs.getD x []=(t x).2.1.map fun a:Nat=>(a:Int):=fun x hx=>by
  rw [ho,List.getD_eq_getElem?_getD,List.getElem?_map,List.getElem?_range hx];rfl
 have hO:zO N es outs:=fun x hx=>by
  rw [hout x hx];refine (List.perm_ext_iff_of_nodup ?_ (vq _ _ _ _)).2 fun a=>?_
  ·rw [List.nodup_iff_pairwise_ne,List.pairwise_map];exact (List.nodup_iff_pairwise_ne.1 (ht x hx).ndP).imp fun h e=>h (by omega)
  ·rw [ql,List.mem_map];constructor
   ·rintro ⟨b,hb,rfl⟩;obtain ⟨h1,h2⟩:=(ht x hx).memP.1 hb;have:=zL hf.inN h1;exact ⟨b,rfl,h1,by omega⟩
   ·rintro ⟨b,rfl,h1,h2⟩;have:=zL hf.inN h1;exact ⟨b,(ht x hx).memP.2 ⟨h1,by omega⟩,rfl⟩
 obtain ⟨hc,h0⟩:=StateI.first (D:=fun x=>(t x).1) (P:=fun x=>(t x).2.1) (Q:=fun x=>(t x).2.2) hf ht hout
 have hsN:=hf.sN;obtain ⟨l,rF,en,k1,k2,k3,k4⟩:=StateI.run hf hO ht hout (N-1) h0 (by simp;omega);have hw:Walk es outs ([],[],List.replicate N []) (s::l) (rF,yd (s::l),en):=Walk.cons (by simp) hc (by simpa [yd] using k1)
 have hnd:(s::l).Nodup:=by
  have h1:=k4.inv.nd;have e:[]++[(s:Int)]++yd l=yd (s::l):=by simp [yd]
  rw [e] at h1;unfold yd at h1;rw [List.nodup_iff_pairwise_ne,List.pairwise_map] at h1;exact List.nodup_iff_pairwise_ne.2 (h1.imp fun h e=>h (by rw [e]))
 have hlt:∀x∈s::l,x<N:=fun x hx=>by
  rcases List.mem_cons.1 hx with rfl | hx
  ·exact hsN
  ·exact k2 x hx
 have hperm:(s::l).Perm (List.range N):=by
  have hsub:List.range N⊆s::l:=uD hnd (fun x hx=>List.mem_range.2 (hlt x hx)) (by simp [k3];omega);exact (List.perm_ext_iff_of_nodup hnd List.nodup_range).2 fun a=>⟨fun h=>List.mem_range.2 (hlt a h),fun h=>hsub h⟩
 refine ⟨fun x=>(t x).1,fun x=>(t x).2.1,fun x=>(t x).2.2,outs,yd (s::l),en,s::l,rF,ht,hout,⟨hf.good,rfl,hperm,hO,by rw [ho];simp,hw,hsN,hf.src,hf.sin⟩,fun x hx=>?_⟩
 have hxp:(x:Int)∈[]++[(s:Int)]++yd l:=by
  have e:[]++[(s:Int)]++yd l=yd (s::l):=by simp [yd]
  rw [e];exact List.mem_map.2 ⟨x,hperm.mem_iff.2 (List.mem_range.2 hx),rfl⟩
 have hE:=k4.ends x hx hxp;rw [Jl hx,hout x hx];unfold zt YS inH;rw [List.filter_reverse,hE]
 show _=List.map (fun a:Nat=>(a:Int)) (t x).1
 rw [(ht x hx).parts];simp only [List.map_append,List.map_map,←List.map_reverse];congr 1
end
end Go.Proofs.YtneeknlhlkpnpaaGreat
/-
 Plain law: the great angles of a plan's turn fit, all rooms come out empty. Written by an AI agent.
-/
namespace Go.Proofs.YtneeknlhlkpnpaaGreat
open Go.RowKit
theorem bq{n:Int}{es:List (Int×Int)}{rs:List (List Int)}(hR:RightP n es rs){x:Nat}(hx:x<rs.length)(h0:0<rs[x].length):∃d e:Nat,kD rs x=d∧d<2*es.length∧vtx es d=x∧rs[x][rs[x].length-1]=(d:Int)∧rs[x][0]=(e:Int)∧sig es rs d=e:=by
 obtain ⟨d,h1,h2,h3⟩:=hR.nat hx (i:=rs[x].length-1) (by omega);obtain ⟨e,h4,_,_⟩:=hR.nat hx (i:=0) h0;have h5:=kR hR hx (by omega) h1;have e0:(rs[x].length-1+1)%rs[x].length=0:=by rw [show rs[x].length-1+1=rs[x].length by omega];exact Nat.mod_self _
 simp only [e0] at h5;refine ⟨d,e,?_,h2,h3,h1,h4,by omega⟩;unfold kD;rw [show rs.getD x []=rs[x] from by rw [List.getD_eq_getElem?_getD,List.getElem?_eq_getElem hx];rfl,List.getD_eq_getElem?_getD,List.getElem?_eq_getElem (by omega),Option.getD_some];exact h1
section
variable {N:Nat}{es:List (Int×Int)}{ord:List Int}{outs:List (List Int)}{en:List (List Itm)}{l:List Nat}{rF:List Itm}{s:Nat}
theorem PlanR.tops(h:PlanR N es ord outs en l rF s)(_he:0<es.length){o:Nat}(ho:o<2*es.length)(hol:Qe es (xf es outs en l) (xe es outs en l) o=es.length) :
  (∀b,b<es.length→yH es en b=false→jY N es (jS N outs en) (ot (2*b+1))≠jY N es (jS N outs en) (ot o)) ∧
  ∀f,f<(jE N es (jS N outs en)).length→f≠jY N es (jS N outs en) (ot o) → ∃b,b<es.length∧yH es en b=false∧jY N es (jS N outs en) (ot (2*b+1))=f ∧ ∀b',b'<es.length→yH es en b'=false→jY N es (jS N outs en) (ot (2*b'+1))=f→b'=b:=by
 have hR:=h.right
 have p1:∀b,b<es.length→yH es en b=false→jY N es (jS N outs en) (ot (2*b+1))≠jY N es (jS N outs en) (ot o):=fun b hb hl e=>by
  have:=h.labFace (d:=2*b+1) (e:=o) (by omega) ho e;rw [hol,Jp,h.top hb hl] at this;omega
 have inj:∀b,b<es.length→yH es en b=false → ∀b',b'<es.length→yH es en b'=false→jY N es (jS N outs en) (ot (2*b+1))=jY N es (jS N outs en) (ot (2*b'+1))→b=b':=fun b hb hl b' hb' hl' e=>by
  have:=h.labFace (d:=2*b+1) (e:=2*b'+1) (by omega) (by omega) e;rw [Jp,Jp,h.top hb hl,h.top hb' hl'] at this;exact this
 refine ⟨p1,fun f hf hfo=>?_⟩
 have hnd:(((List.range es.length).filter fun b=>!yH es en b).map fun b=>jY N es (jS N outs en) (ot (2*b+1))).Nodup:=by
  rw [List.nodup_iff_pairwise_ne,List.pairwise_map];refine (List.nodup_iff_pairwise_ne.1 (List.nodup_range.filter _)).imp_of_mem fun {a b} ha hb hne e=>hne ?_;obtain ⟨ha1,ha2⟩:=List.mem_filter.1 ha;obtain ⟨hb1,hb2⟩:=List.mem_filter.1 hb;exact inj a (List.mem_range.1 ha1) (by simpa using ha2) b (List.mem_range.1 hb1) (by simpa using hb2) e
 have hsub:(((List.range es.length).filter fun b=>!yH es en b).map fun b=>jY N es (jS N outs en) (ot (2*b+1)))⊆(List.range (jE N es (jS N outs en)).length).filter fun f=>!decide (f=jY N es (jS N outs en) (ot o)):=by
  intro g hg;obtain ⟨b,hb,rfl⟩:=List.mem_map.1 hg;obtain ⟨hb1,hb2⟩:=List.mem_filter.1 hb;have hb1:=List.mem_range.1 hb1;refine List.mem_filter.2 ⟨List.mem_range.2 (ya hR (xY (by omega))).1,?_⟩;rw [decide_eq_false (p1 b hb1 (by simpa using hb2))];rfl
 have hlen:((List.range (jE N es (jS N outs en)).length).filter fun f=>!decide (f=jY N es (jS N outs en) (ot o))).length≤(((List.range es.length).filter fun b=>!yH es en b).map fun b=>jY N es (jS N outs en) (ot (2*b+1))).length:=by
  rw [List.length_map,←List.countP_eq_length_filter,←List.countP_eq_length_filter];have h1:=vt (p:=fun _=>true) (q:=fun x=>!decide (x=jY N es (jS N outs en) (ot o))) (m:=jY N es (jS N outs en) (ot o)) rfl (fun k=>by simp) (jE N es (jS N outs en)).length;rw [if_pos (ya hR (xY ho)).1] at h1;simp only [List.countP_true,List.length_range] at h1;have h2:=h.lasts
  have h3:(List.range es.length).countP (yH es en)+(List.range es.length).countP (fun x=>!yH es en x)=es.length:=by
   have:=List.length_eq_countP_add_countP (yH es en) (l:=List.range es.length);rw [List.length_range] at this
   have e:(List.range es.length).countP (fun a=>decide ¬yH es en a=true)=(List.range es.length).countP (fun x=>!yH es en x):=by
    apply List.countP_congr;intro x _;simp
   omega
  have hin:=yV hR;have hg:=QK hR hin;rw [qB] at hg hin;obtain ⟨s',hs',hq⟩:=Jh h.good;have h0:0<N:=by have:=h.sN;omega
  have hc1:cls (Q es es.length) N=1:=Yi h0 fun x hx=>Star.trans (Q.symm (hq 0 h0)) (hq x hx);rw [hc1,h.gen] at hg;generalize (List.range es.length).countP (yH es en)=La at *;generalize (List.range es.length).countP (fun x=>!yH es en x)=Lb at *;omega
 have hm:=uD hnd hsub hlen (List.mem_filter.2 ⟨List.mem_range.2 hf,by rw [decide_eq_false hfo];rfl⟩);obtain ⟨b,hb,e⟩:=List.mem_map.1 hm;obtain ⟨hb1,hb2⟩:=List.mem_filter.1 hb;have hb1:=List.mem_range.1 hb1;have hb2:yH es en b=false:=by simpa using hb2
 exact ⟨b,hb1,hb2,e,fun b' h1 h2 h3=>inj b' h1 h2 b hb1 hb2 (h3.trans e.symm)⟩
theorem PlanR.outsNil(h:PlanR N es ord outs en l rF s){x:Nat}(hx:x<N):outs.getD x []=[]↔(jK es Prod.fst (x:Nat) es.length).length=0:=by
 rw [←(h.outp x hx).length_eq,List.length_eq_zero_iff]
theorem PlanR.rowEq(_h:PlanR N es ord outs en l rF s){x:Nat}(hx:x<N):∃hx':x<(jS N outs en).length,(jS N outs en)[x]=zt (outs.getD x []) (en.getD x []):=by
 have hx':x<(jS N outs en).length:=by rw [qB];exact hx
 refine ⟨hx',?_⟩;rw [←Jl hx,List.getD_eq_getElem?_getD,List.getElem?_eq_getElem hx'];rfl
theorem PlanR.sink(h:PlanR N es ord outs en l rF s)(he:0<es.length){x:Nat}(hx:x<N)(ho:outs.getD x []=[]):x≠s∧en.getD x []≠[]:=by
 have hxs:x≠s:=fun e=>by
  obtain ⟨i,_,_,_,h4,_⟩:=h.srcOut he;rw [←e,ho] at h4
  cases h4
 refine ⟨hxs,fun e0=>?_⟩;have h1:inD es x≠0:=fun e=>hxs (h.src x hx e);apply h1;rw [zn];intro i hi e;have:=h.edge hx hi e;rw [e0] at this
 cases this
theorem PlanR.tip(h:PlanR N es ord outs en l rF s)(he:0<es.length){x:Nat}(hx:x<N):yJ es x=(decide (outs.getD x []=[])||decide (x=s)):=by
 unfold yJ;have e1:(jK es Prod.snd (x:Nat) es.length).length=0↔x=s:=⟨fun e=>h.src x hx e,fun e=>by rw [e];exact h.sin⟩;rw [decide_eq_decide.2 e1,decide_eq_decide.2 (h.outsNil hx).symm];by_cases ho:outs.getD x []=[]
 ·rw [decide_eq_true ho,decide_eq_false (h.sink he hx ho).1];rfl
 ·rw [decide_eq_false ho]
  cases decide (x=s)<;>rfl
theorem PlanR.sinkRow(h:PlanR N es ord outs en l rF s)(he:0<es.length){x:Nat}(hx:x<N)(ho:outs.getD x []=[]):∃d e:Nat,kD (jS N outs en) x=d∧d<2*es.length∧vtx es d=x∧d%2=1∧sig es (jS N outs en) d=e∧e%2=1∧yH es en (e/2)=true∧vtx es e=x∧e<2*es.length ∧ ∀k,k<2*es.length→vtx es k=x→k%2=1→yH es en (k/2)=true→k=e:=by
 have hR:=h.right;obtain ⟨hx',hrow⟩:=h.rowEq hx;obtain ⟨_,hE⟩:=h.sink he hx ho;obtain ⟨a,ha,hax,hl,hhd⟩:=h.inRow hx hE
 have h0:0<(jS N outs en)[x].length:=by
  rw [hrow];unfold zt;rw [List.length_append];have:inH (en.getD x []).reverse≠[]:=fun e=>by rw [e] at hhd;cases hhd
  have:=List.length_pos_iff.2 this;omega
 obtain ⟨d,e,h1,h2,h3,h4,h5,h6⟩:=bq hR hx' h0;have hl0:(outs.getD x []).length=0:=by rw [ho];rfl
 obtain ⟨_,a2,_⟩:=h.rowAt hx' (by omega) h4;obtain ⟨_,b2,b3⟩:=h.rowAt hx' h0 h5;have hv:=yl hR h2;rw [h6] at hv;refine ⟨d,e,h1,h2,h3,a2 (by omega),h6,b2 (by omega),(b3 (b2 (by omega))).2 (by omega),hv.2.trans h3,hv.1,fun k hk hkv hk2 hkl=>?_⟩;obtain ⟨y,i,hy,hi,e1,e2⟩:=hR.pos hk;have hyx:y=x:=by rw [←e2,hkv]
 subst hyx;obtain ⟨_,_,c3⟩:=h.rowAt hy hi e1;have hi0:=(c3 hk2).1 hkl;have hi0:i=0:=by omega
 subst hi0;rw [h5] at e1;omega
theorem YO{p:Nat→Bool}{N:Nat}(h:∀k,k<N→p k=false):(List.range N).countP p=0:=by
 rw [List.countP_eq_zero];intro k hk;rw [h k (List.mem_range.1 hk)];simp
theorem PlanR.highs(h:PlanR N es ord outs en l rF s)(he:0<es.length){o:Nat}(ho:o<2*es.length)(hol:Qe es (xf es outs en l) (xe es outs en l) o=es.length){f:Nat}(hf:f<(jE N es (jS N outs en)).length) :
  (List.range (2*es.length)).countP (fun d=>decide (yE es (jS N outs en) d=2)&&decide (jY N es (jS N outs en) d=f)) =
   (if f=jY N es (jS N outs en) (ot o) then 0 else 1)+(List.range N).countP fun x=>decide (outs.getD x []=[])&&decide (jY N es (jS N outs en) (kD (jS N outs en) x).toNat=f):=by
 have hR:=h.right;have hin:InN N es:=by have:=yV hR;rwa [qB] at this
 obtain ⟨t1,t2⟩:=h.tops he ho hol
 have h1:(List.range (2*es.length)).countP (fun d=>decide (yE es (jS N outs en) d=2)&&decide (jY N es (jS N outs en) d=f)) =
   (List.range (2*es.length)).countP (fun d=>(fun e=>decide (e%2=1)&&(!yH es en (e/2)||decide (outs.getD (vtx es e) []=[]))&&decide (jY N es (jS N outs en) (ot e)=f)) (sig es (jS N outs en) d)):=by
  apply qn;intro d hd;have hv:=yl hR hd;simp only;rw [hv.2,zT hR hd,Bool.eq_iff_iff];simp only [Bool.and_eq_true,Bool.or_eq_true,decide_eq_true_eq,Bool.not_eq_true'];rw [h.high hd]
 rw [h1,Kf (QA hR) (fun e=>decide (e%2=1)&&(!yH es en (e/2)||decide (outs.getD (vtx es e) []=[]))&&decide (jY N es (jS N outs en) (ot e)=f)),yA _ _ (fun e=>!yH es en (e/2))];congr 1
 ·by_cases hfo:f=jY N es (jS N outs en) (ot o)
  ·rw [if_pos hfo];apply YO;intro k hk;apply Bool.eq_false_iff.2;intro hp;simp only [Bool.and_eq_true,Bool.or_eq_true,decide_eq_true_eq,Bool.not_eq_true'] at hp;obtain ⟨⟨⟨k1,_⟩,k2⟩,k3⟩:=hp;refine t1 (k/2) (by omega) k3 ?_;rw [show 2*(k/2)+1=k by omega,k2,hfo]
  ·rw [if_neg hfo];obtain ⟨b,hb,hbl,hbf,hbu⟩:=t2 f hf hfo;refine ub (a:=2*b+1) (by omega) ?_ fun k hk hp=>?_
   ·rw [show (2*b+1)/2=b by omega,hbl,hbf];simp
   ·simp only [Bool.and_eq_true,Bool.or_eq_true,decide_eq_true_eq,Bool.not_eq_true'] at hp;obtain ⟨⟨⟨k1,_⟩,k2⟩,k3⟩:=hp;have:=hbu (k/2) (by omega) k3 (by rw [show 2*(k/2)+1=k by omega];exact k2);omega
 ·rw [kl (v:=vtx es) (M:=N) _ _ (fun k hk=>xS hin hk),←Jd];apply Je;intro x hx;by_cases hp:outs.getD x []=[]∧jY N es (jS N outs en) (kD (jS N outs en) x).toNat=f
  ·rw [decide_eq_true hp.1,decide_eq_true hp.2,if_pos (by rfl)];obtain ⟨d,e,h1,h2,h3,_,h5,h6,h7,h8,h9,h10⟩:=h.sinkRow he hx hp.1
   have hfe:jY N es (jS N outs en) (ot e)=f:=by
    have h11:=hp.2;rw [h1,Int.toNat_natCast] at h11;rw [←h5,zT hR h2,h11]
   refine ub (a:=e) h9 ?_ fun k hk hq=>?_
   ·rw [h8,h7,hp.1,hfe,decide_eq_true h6];simp
   ·simp only [Bool.and_eq_true,Bool.or_eq_true,decide_eq_true_eq,Bool.not_eq_true',Bool.not_not] at hq;obtain ⟨k1,⟨⟨k2,_⟩,_⟩,k3⟩:=hq;exact h10 k hk k1 k2 k3
  ·rw [if_neg (by
    intro hq;simp only [Bool.and_eq_true,decide_eq_true_eq] at hq
    exact hp hq)]
   apply YO;intro k hk;apply Bool.eq_false_iff.2;intro hq;simp only [Bool.and_eq_true,Bool.or_eq_true,decide_eq_true_eq,Bool.not_eq_true',Bool.not_not] at hq;obtain ⟨k1,⟨⟨k2,k4⟩,k5⟩,k3⟩:=hq
   have hox:outs.getD x []=[]:=by
    rcases k4 with k4 | k4
    ·rw [k3] at k4;cases k4
    ·rw [←k1];exact k4
   obtain ⟨d,e,h1,h2,h3,_,h5,h6,h7,h8,h9,h10⟩:=h.sinkRow he hx hox;have hke:=h10 k hk k1 k2 k3;apply hp;refine ⟨hox,?_⟩;rw [h1,Int.toNat_natCast,←zT hR h2,h5,←hke];exact k5
theorem PlanR.srcRow(h:PlanR N es ord outs en l rF s)(he:0<es.length):∃d o:Nat,kD (jS N outs en) s=d∧d<2*es.length∧vtx es d=s∧d%2=0∧sig es (jS N outs en) d=o∧o<2*es.length∧Qe es (xf es outs en l) (xe es outs en l) o=es.length:=by
 have hR:=h.right;obtain ⟨hx',hrow⟩:=h.rowEq h.sN;obtain ⟨i,hi,hL,_,hhd,hE⟩:=h.srcOut he
 have hrow2:(jS N outs en)[s]=YS (outs.getD s []):=by
  rw [hrow,hE];unfold zt inH;simp
 have hlen:(jS N outs en)[s].length=(outs.getD s []).length:=by rw [hrow2];simp [YS]
 have hne:outs.getD s []≠[]:=fun e=>by rw [e] at hhd;cases hhd
 have h0:0<(jS N outs en)[s].length:=by rw [hlen];exact List.length_pos_iff.2 hne
 obtain ⟨d,o,h1,h2,h3,h4,h5,h6⟩:=bq hR hx' h0;obtain ⟨a1,_,_⟩:=h.rowAt hx' (by omega) h4;have hv:=yl hR h2;rw [h6] at hv;refine ⟨d,o,h1,h2,h3,a1 (by omega),h6,hv.1,?_⟩
 have ho:o=2*i:=by
  have e1:(jS N outs en)[s].head? = some (o:Int):=by rw [List.head?_eq_getElem?,List.getElem?_eq_getElem h0,h5]
  rw [hrow2] at e1;unfold YS at e1;rw [List.head?_map,hhd] at e1;have e2:2*(i:Int)=(o:Int):=Option.some.inj e1;omega
 rw [ho,QW,hL]
theorem PlanR.outer(h:PlanR N es ord outs en l rF s)(he:0<es.length):∀k,k≤N→Zu N es (jS N outs en) k=if s<k then ((jY N es (jS N outs en) (kD (jS N outs en) s).toNat:Nat):Int) else 0
 | 0,_=>by rw [if_neg (by omega)];rfl
 | k+1,hk=>by
  have ih:=h.outer he k (by omega);unfold Zu;rw [h.tip he (by omega)];by_cases hks:k=s
  ·subst hks;obtain ⟨d,o,h1,_,_,h4,_⟩:=h.srcRow he;rw [if_pos (by rw [h1,Int.toNat_natCast];exact ⟨by simp,h4⟩),if_pos (by omega)]
  ·rw [if_neg,ih]
   ·by_cases h1:s<k
    ·rw [if_pos h1,if_pos (by omega)]
    ·rw [if_neg h1,if_neg (by omega)]
   ·rintro ⟨h1,h2⟩;rw [decide_eq_false hks,Bool.or_false,decide_eq_true_eq] at h1;obtain ⟨d,_,h3,_,_,h4,_⟩:=h.sinkRow he (by omega) h1;rw [h3,Int.toNat_natCast] at h2;omega
theorem PlanR.fits(h:PlanR N es ord outs en l rF s):vz N es (jS N outs en) (Zu N es (jS N outs en) N) (zU es (jS N outs en) N)=true:=by
 have hR:=h.right
 have hask:xy N es (jS N outs en)=true:=by
  apply ZH;unfold Zb;rw [show xz (N:Int) es=true from jB.2 h.good,qZ.2 hR,decide_eq_true h.gen];rfl
 have hgl:∀x,x<N→(zU es (jS N outs en) N).getD x 0=Za es (jS N outs en) x:=fun x hx=>by
  unfold zU;rw [List.getD_eq_getElem?_getD,List.getElem?_map,List.getElem?_range hx];rfl
 unfold vz;rw [show xz (N:Int) es=true from jB.2 h.good,hask,h.bim,Um,decide_eq_true rfl]
 show zS N es (jS N outs en) _ _=true
 unfold zS;rcases Nat.eq_zero_or_pos es.length with he | he
 ·rw [if_pos ((ui hR).2 he)]
  have htip:∀x,yJ es x=false:=fun x=>by
   have e0:es=[]:=List.length_eq_zero_iff.1 he;subst e0;rfl
  have hout:∀k,Zu N es (jS N outs en) k=0:=by
   intro k
   induction k with
   | zero=>rfl
   | succ k ih=>unfold Zu;rw [htip,if_neg (by simp),ih]
  rw [hout,hgl 0 (by have:=h.sN;omega)];unfold Za;rw [htip];rfl
 ·have hF:(jE N es (jS N outs en)).length≠0:=fun e=>by have:=(ui hR).1 e;omega
  obtain ⟨d,o,h1,h2,h3,_,h5,h6,h7⟩:=h.srcRow he;have hfd:=ya hR h2;have hfo:jY N es (jS N outs en) (ot o)=jY N es (jS N outs en) d:=by rw [←h5,zT hR h2]
  have hout:Zu N es (jS N outs en) N=((jY N es (jS N outs en) d:Nat):Int):=by
   rw [h.outer he N (Nat.le_refl _),if_pos h.sN,h1,Int.toNat_natCast]
  rw [if_neg hF,hout,if_pos ⟨by omega,by omega⟩,Int.toNat_natCast,qB];have hrl:(zw N es (jS N outs en) (jY N es (jS N outs en) d)).length=(jE N es (jS N outs en)).length:=by unfold zw;rw [yY]
  obtain ⟨r,e1,e2,e3⟩:=ZG (n:=N) (es:=es) (rs:=jS N outs en) (great:=zU es (jS N outs en) N) (room:=zw N es (jS N outs en) (jY N es (jS N outs en) d)) (k:=N) (fun x hx ht=>by
   obtain ⟨_,_,g,k1,k2,k3⟩:=ed hR ht;refine ⟨g,?_,k2,k3,by rw [hrl];exact (ya hR k2).1⟩;rw [hgl x hx];unfold Za;rw [ht,if_pos rfl,k1]) (fun x hx ht=>by
   rw [hgl x hx];unfold Za
   rw [ht,if_neg (by simp)])
  rw [e1];simp only [Bool.not_eq_true'];rw [List.any_eq_false];intro v hv;obtain ⟨f,hf,rfl⟩:=List.getElem_of_mem hv;have hf':f<(jE N es (jS N outs en)).length:=by rw [←hrl,←e2];exact hf
  have h8:=e3 f (by rw [hrl];exact hf');rw [List.getD_eq_getElem?_getD,List.getElem?_eq_getElem hf,Option.getD_some] at h8;unfold zw at h8;rw [XT hf',h.highs he h6 h7 hf',hfo] at h8
  have hT:(List.range N).countP (fun x=>yJ es x&&decide (jY N es (jS N outs en) ((zU es (jS N outs en) N).getD x 0).toNat=f)) =
    ((List.range N).countP fun x=>decide (outs.getD x []=[])&&decide (jY N es (jS N outs en) (kD (jS N outs en) x).toNat=f))+if f=jY N es (jS N outs en) d then 1 else 0:=by
   rw [yA _ _ (fun x=>decide (outs.getD x []=[]))];congr 1
   ·apply qn;intro x hx;rw [h.tip he hx,hgl x hx];unfold Za;rw [h.tip he hx];by_cases ho:outs.getD x []=[]
    ·rw [decide_eq_true ho,Bool.true_or,if_pos rfl,Bool.true_and,Bool.and_true]
    ·rw [decide_eq_false ho,Bool.and_false,Bool.false_and]
   ·have hso:outs.getD s []≠[]:=fun e=>(h.sink he h.sN e).1 rfl;by_cases hfd2:f=jY N es (jS N outs en) d
    ·rw [if_pos hfd2];refine ub (a:=s) h.sN ?_ fun x hx hq=>?_
     ·rw [h.tip he h.sN,hgl s h.sN];unfold Za;rw [h.tip he h.sN,h1];rw [decide_eq_false hso,decide_eq_true (rfl:s=s),Bool.false_or,if_pos rfl,Int.toNat_natCast,decide_eq_true hfd2.symm];rfl
     ·rw [h.tip he hx] at hq;simp only [Bool.and_eq_true,Bool.or_eq_true,decide_eq_true_eq,Bool.not_eq_true',decide_eq_false_iff_not] at hq;rcases hq.1.1 with h9 | h9
      ·exact absurd h9 hq.2
      ·exact h9
    ·rw [if_neg hfd2];apply YO;intro x hx;apply Bool.eq_false_iff.2;intro hq;rw [h.tip he hx,hgl x hx] at hq;unfold Za at hq;rw [h.tip he hx] at hq;simp only [Bool.and_eq_true,Bool.or_eq_true,decide_eq_true_eq,Bool.not_eq_true',decide_eq_false_iff_not] at hq;rcases hq.1.1 with h9 | h9
     ·exact hq.2 h9
     ·have:=hq.1.2;rw [if_pos (.inr h9),h9,h1,Int.toNat_natCast] at this;exact hfd2 this.symm
  rw [hT] at h8
  have:r[f]=0:=by
   rw [h8];by_cases hq:f=jY N es (jS N outs en) d
   ·rw [if_pos hq,if_pos hq,if_pos hq];omega
   ·rw [if_neg hq,if_neg hq,if_neg hq];omega
  rw [this];simp [nz]
end
end Go.Proofs.YtneeknlhlkpnpaaGreat
