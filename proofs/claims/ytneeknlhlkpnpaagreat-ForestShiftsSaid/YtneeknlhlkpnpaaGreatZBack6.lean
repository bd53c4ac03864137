import Derived.Test.YtneeknlhlkpnpaaGreatZOutFit
import Derived.Test.YtneeknlhlkpnpaaGreatZEulL
import Derived.Test.YtneeknlhlkpnpaaGreatZAsg
import Derived.Test.YtneeknlhlkpnpaaGreatZRing6
import Derived.Test.YtneeknlhlkpnpaaGreatZRRf9
import Derived.Test.YtneeknlhlkpnpaaGreatZFlat3
import Derived.Test.YtneeknlhlkpnpaaGreatZOuts
import Derived.Test.YtneeknlhlkpnpaaGreatZReg
/-
 Plain law: the next state. Written by an AI agent.
-/
namespace Go.Proofs.YtneeknlhlkpnpaaGreat
open Go.RowKit
section
variable {N:Nat}{es:List (Int×Int)}{rs:List (List Int)}{o s:Nat}{gr:Nat→Nat}{D P Q:Nat→List Nat}{outs:List (List Int)}{r:List Itm}{pl:List Int}{en:List (List Itm)}
theorem il(hf:FitT N es rs o s gr){w:Nat}(hN:NormR es rs gr w (D w) (P w) (Q w))(hout:outs.getD w []=(P w).map fun a:Nat=>(a:Int)):yA es outs w=if P w=[] then [(-1,(w:Int),-1)] else (P w).map (itE es):=by
 unfold yA vh;rw [hout,List.length_map];by_cases h:P w=[]
 ·rw [if_pos (by rw [h];rfl),if_pos h]
 ·rw [if_neg (fun e=>h (List.length_eq_zero_iff.1 e)),if_neg h,List.map_map];apply List.map_congr_left;intro a ha;obtain ⟨h1,h2⟩:=hN.memP.1 ha;have h3:=zx hf.inN h1
  show ((a:Int),(w:Int),(es.getD (a:Int).toNat (0,0)).2)=itE es a
  unfold itE;rw [←h3,h2];rfl
theorem StateI.next(hf:FitT N es rs o s gr)(hO:vS N es outs)(hD:∀x,x<N→NormR es rs gr x (D x) (P x) (Q x))(hout:∀x,x<N→outs.getD x []=(P x).map fun a:Nat=>(a:Int))(h:StateI N es rs o s gr Q outs r pl en){x:Nat}(hx:x<N)(hp:(x:Int)∉pl) :
  ∃w A E B,w<N∧(w:Int)∉pl∧CutR es r w A E B∧StateI N es rs o s gr Q outs (A++yA es outs w++B) (pl++[(w:Int)]) (en.set w E):=by
 obtain ⟨w,A,E,B,hw,hwp,hws,hQ,hc,hE⟩:=h.cut hf hO hD hx hp;have hN:=hD w hw;have hq:=List.length_pos_iff.2 hQ;have hEne:E≠[]:=fun e=>hQ (by rw [e] at hE;exact List.map_eq_nil_iff.1 hE.symm);obtain ⟨⟨e1,k1,k2⟩,e2,k3,k4⟩:=hc.ends hEne
 have real:∀e:Itm,e∈E→e.2.2=(w:Int)→decide (e.1 ≠ -1)=true:=fun e he hew=>by
  rcases h.inv.item hO (List.mem_append_left _ (by rw [hc.row];simp [he]:e∈r)) with ⟨i,_,_,rfl⟩ | ⟨y,_,_,rfl⟩
  ·exact decide_eq_true fun e=>by have e:(i:Int) = -1:=e;omega
  ·simp at hew
 have f1:=XY (p:=fun e:Itm=>decide (e.1 ≠ -1)) k1 (real e1 (List.mem_of_mem_head? k1) k2);have f2:=cJ (p:=fun e:Itm=>decide (e.1 ≠ -1)) k3 (real e2 (List.mem_of_getLast? k3) k4);rw [hE,List.head?_map,List.head?_eq_getElem?,List.getElem?_eq_getElem hq] at f1;rw [hE,List.getLast?_map,List.getLast?_eq_getElem?,List.getElem?_eq_getElem (by omega)] at f2;have g1:itE es (Q w)[0]=e1:=Option.some.inj f1;have g2:itE es (Q w)[(Q w).length-1]=e2:=Option.some.inj f2;have hch:=h.ch;rw [hc.row,zm] at hch;obtain ⟨c',h1,h2⟩:=hch;obtain ⟨c,h3,h4⟩:=(zm _).1 h1;have ec:=Yl h4 k1;have ec':=Vy h4 k3;rw [←g1,UP] at ec;rw [←g2,UO] at ec'
 have hA:chn (itL N es rs gr) (itR N es rs gr) c (yA es outs w) c':=by
  rw [il hf hN (hout w hw),←ec,←ec'];by_cases hP:P w=[]
  ·rw [if_pos hP]
   have ht:zD es w=true:=(hf.tip_even hw hws).2 fun ⟨k,hk,hv,he⟩=>by
    have he2:k%2=0:=by unfold ev at he;simpa using he
    have:=hN.memP.2 ⟨(by omega:k/2<es.length),by rw [show 2*(k/2)=k by omega];exact hv⟩;rw [hP] at this
    cases this
   have hl:=hN.len;have hp0:(P w).length=0:=by rw [hP];rfl
   have hg:=hN.great ht;rw [List.getLast?_eq_getElem?,List.getElem?_eq_getElem (by omega)] at hg;have hg:=Option.some.inj hg;have q0:=hN.atQ (k:=0) hq;have e1:(P w).length+((Q w).length-1-0)=(D w).length-1:=by omega
   simp only [e1] at q0;have hwr:=hN.wrap (by omega);have q1:=hN.atQ (k:=(Q w).length-1) (by omega);have e2:(P w).length+((Q w).length-1-((Q w).length-1))=0:=by omega
   simp only [e2] at q1;have m0:=(hN.memQ.1 (List.getElem_mem hq)).1;have hgr:gr w=2*(Q w)[0]+1:=by rw [←hg,q0]
   rw [q0,q1] at hwr;refine ⟨?_,?_⟩
   ·show itL N es rs gr (-1,(w:Int),-1)=_
    unfold itL;rw [if_pos rfl,Int.toNat_natCast,hgr,ud]
   ·show itR N es rs gr (-1,(w:Int),-1)=_
    unfold itR;rw [if_pos rfl,Int.toNat_natCast,hgr,←hwr,vg hf.right (by omega)]
  ·rw [if_neg hP];exact lU hf hN hq hP
 refine ⟨w,A,E,B,hw,hwp,hc,h.inv.step hw hwp hc,List.mem_append_left _ h.src,?_,fun z hz hzp=>?_⟩
 ·exact (zm _).2 ⟨c',(zm _).2 ⟨c,h3,hA⟩,h2⟩
 ·rw [vf (by rw [h.inv.len];exact hw)];by_cases hzw:z=w
  ·rw [if_pos hzw,hzw];exact hE
  ·rw [if_neg hzw];refine h.ends z hz ?_;rcases List.mem_append.1 hzp with h9 | h9
   ·exact h9
   ·simp at h9;omega
end
end Go.Proofs.YtneeknlhlkpnpaaGreat
/-
 Plain law: from a state to the end: all vertices can be placed. Written by an AI agent.
-/
namespace Go.Proofs.YtneeknlhlkpnpaaGreat
open Go.RowKit
section
variable {N:Nat}{es:List (Int×Int)}{rs:List (List Int)}{o s:Nat}{gr:Nat→Nat}{D P Q:Nat→List Nat}{outs:List (List Int)}
theorem StateI.run(hf:FitT N es rs o s gr)(hO:vS N es outs)(hD:∀x,x<N→NormR es rs gr x (D x) (P x) (Q x))(hout:∀x,x<N→outs.getD x []=(P x).map fun a:Nat=>(a:Int)):∀(n:Nat) {r:List Itm} {pl:List Int} {en:List (List Itm)},StateI N es rs o s gr Q outs r pl en→pl.length+n=N →
  ∃l rF en',Walk es outs (r,pl,en) l (rF,pl++yH l,en')∧(∀x∈l,x<N)∧l.length=n∧StateI N es rs o s gr Q outs rF (pl++yH l) en'
 | 0,r,pl,en,h,hn=>⟨[],r,en,by unfold yH;simp only [List.map_nil,List.append_nil];exact Walk.nil _,by simp,rfl,by unfold yH;simpa using h⟩
 | n+1,r,pl,en,h,hn=>by
  have hex:∃x,x<N∧(x:Int)∉pl:=by
   apply Classical.byContradiction;intro hno
   have hsub:yH (List.range N)⊆pl:=fun a ha=>by
    obtain ⟨x,hx,rfl⟩:=List.mem_map.1 ha;exact Classical.byContradiction fun hn=>hno ⟨x,List.mem_range.1 hx,hn⟩
   have hnd:(yH (List.range N)).Nodup:=by
    unfold yH;rw [List.nodup_iff_pairwise_ne,List.pairwise_map];exact (List.nodup_iff_pairwise_ne.1 List.nodup_range).imp fun h e=>h (by omega)
   have:=List.Nodup.length_le_of_subset hnd hsub;unfold yH at this;rw [List.length_map,List.length_range] at this;omega
  obtain ⟨x,hx,hp⟩:=hex;obtain ⟨w,A,E,B,hw,hwp,hc,h'⟩:=h.next hf hO hD hout hx hp
  obtain ⟨l,rF,en',k1,k2,k3,k4⟩:=StateI.run hf hO hD hout n h' (by rw [List.length_append];simp;omega);have e:pl++yH (w::l)=pl++[(w:Int)]++yH l:=by simp [yH]
  refine ⟨w::l,rF,en',?_,fun z hz=>?_,by rw [List.length_cons,k3],?_⟩
  ·rw [e];exact Walk.cons hwp hc k1
  ·rcases List.mem_cons.1 hz with rfl | hz
   ·exact hw
   ·exact k2 z hz
  ·rw [e];exact k4
end
end Go.Proofs.YtneeknlhlkpnpaaGreat
/-
 Plain law: the first state: the source is placed. Written by an AI agent.
-/
namespace Go.Proofs.YtneeknlhlkpnpaaGreat
open Go.RowKit
section
variable {N:Nat}{es:List (Int×Int)}{rs:List (List Int)}{o s:Nat}{gr:Nat→Nat}{D P Q:Nat→List Nat}{outs:List (List Int)}
theorem StateI.first(hf:FitT N es rs o s gr)(hD:∀x,x<N→NormR es rs gr x (D x) (P x) (Q x))(hout:∀x,x<N→outs.getD x []=(P x).map fun a:Nat=>(a:Int)) :
  CutR es [] s [] [] []∧StateI N es rs o s gr Q outs ([]++yA es outs s++[]) ([]++[(s:Int)]) ((List.replicate N []).set s []):=by
 have hN:=hD s hf.sN;have hc:CutR es [] s [] [] []:=(xN (pl:=[]) (by simp) rfl (by simp) (by simp) (by rw [hf.sin];rfl) (fun _=>⟨rfl,hf.sin⟩) (fun h=>absurd rfl h)).2
 have hQ:Q s=[]:=by
  rw [List.eq_nil_iff_forall_not_mem];intro a ha;obtain ⟨h1,h2⟩:=hN.memQ.1 ha;have:=vn hf.inN h1;rw [h2] at this;exact yN.1 hf.sin a h1 this.symm
 have hl:=hN.len;have hq0:(Q s).length=0:=by rw [hQ];rfl
 have hg:=hN.great hf.srcG.1
 have hDp:0<(D s).length:=by
  apply Nat.pos_of_ne_zero;intro e;rw [List.length_eq_zero_iff.1 e] at hg
  cases hg
 have hp:0<(P s).length:=by omega
 have hP:P s≠[]:=List.length_pos_iff.1 hp;rw [List.getLast?_eq_getElem?,List.getElem?_eq_getElem (by omega)] at hg;have hg:=Option.some.inj hg;have hw:=hN.wrap hDp;have p1:=hN.atP (k:=(P s).length-1) (by omega);have p0:=hN.atP (k:=0) hp;have e1:(P s).length-1=(D s).length-1:=by omega
 have hlast:(D s)[(D s).length-1]'(by omega)=2*(P s)[(P s).length-1]:=by
  have:∀(j:Nat) (hj:j<(D s).length),j=(P s).length-1→(D s)[j]=2*(P s)[(P s).length-1]:=fun j hj e=>by subst e;exact p1
  exact this _ (by omega) (by omega)
 rw [hlast] at hg hw;rw [p0] at hw;have m1:=(hN.memP.1 (List.getElem_mem (show (P s).length-1<(P s).length by omega))).1
 have hch:chn (itL N es rs gr) (itR N es rs gr) o (yA es outs s) o:=by
  rw [il hf hN (hout s hf.sN),if_neg hP];have h1:=Kg hf hN hP 0 ((P s).length-1) (by omega);rw [List.drop_zero,List.take_of_length_le (by omega)] at h1;simp only [Nat.zero_add] at h1
  have f0:jT N es rs (ot (2*(P s)[0]))=o:=by
   rw [←hw,vg hf.right (by omega),hg];exact hf.srcG.2
  have f1:jT N es rs (ot (2*(P s)[(P s).length-1]+1))=o:=by
   rw [uR,hg];exact hf.srcG.2
  rw [f0,f1] at h1;exact h1
 refine ⟨hc,SwI.start.step hf.sN (by simp) hc,by simp,?_,fun x hx hxp=>?_⟩
 ·rw [List.nil_append,List.append_nil];exact hch
 ·have:x=s:=by simp at hxp;omega
  subst this;rw [vf (by rw [List.length_replicate];exact hx),if_pos rfl,hQ];rfl
end
end Go.Proofs.YtneeknlhlkpnpaaGreat
/-
 Plain law: EXISTENCE: where great angles fit there is a plan that runs, with that turn. Written by an AI agent.
-/
namespace Go.Proofs.YtneeknlhlkpnpaaGreat
open Go.RowKit
section
variable {N:Nat}{es:List (Int×Int)}{rs:List (List Int)}{o s:Nat}{gr:Nat→Nat}
theorem cL(hf:FitT N es rs o s gr):∃(D P Q:Nat→List Nat) (outs:List (List Int)) (ord:List Int) (en:List (List Itm)) (l:List Nat) (rF:List Itm),(∀x,x<N→NormR es rs gr x (D x) (P x) (Q x))∧(∀x,x<N→outs.getD x []=(P x).map fun a:Nat=>(a:Int))∧PlanR N es ord outs en l rF s ∧
  ∀x,x<N→(jQ N outs en).getD x []=(D x).map fun a:Nat=>(a:Int):=by
 have hch:∀x,∃t:List Nat×List Nat×List Nat,x<N→NormR es rs gr x t.1 t.2.1 t.2.2:=fun x=>by
  by_cases hx:x<N
  ·obtain ⟨D,P,Q,h⟩:=nL hf hx;exact ⟨(D,P,Q),fun _=>h⟩
  ·exact ⟨([],[],[]),fun h=>absurd h hx⟩
 obtain ⟨t,ht⟩:∃t:Nat→List Nat×List Nat×List Nat,∀x,x<N→NormR es rs gr x (t x).1 (t x).2.1 (t x).2.2:=⟨fun x=>Classical.choose (hch x),fun x=>Classical.choose_spec (hch x)⟩;obtain ⟨outs,ho⟩:∃outs:List (List Int),outs=(List.range N).map fun x=>(t x).2.1.map fun a:Nat=>(a:Int):=⟨_,rfl⟩
 have hout:∀x,x<N→outs.getD x []=(t x).2.1.map fun a:Nat=>(a:Int):=fun x hx=>by
  rw [ho,List.getD_eq_getElem?_getD,List.getElem?_map,List.getElem?_range hx];rfl
 have hO:vS N es outs:=fun x hx=>by
  rw [hout x hx];refine (List.perm_ext_iff_of_nodup ?_ (xK _ _ _ _)).2 fun a=>?_
  ·rw [List.nodup_iff_pairwise_ne,List.pairwise_map];exact (List.nodup_iff_pairwise_ne.1 (ht x hx).ndP).imp fun h e=>h (by omega)
  ·rw [qs,List.mem_map];constructor
   ·rintro ⟨b,hb,rfl⟩;obtain ⟨h1,h2⟩:=(ht x hx).memP.1 hb;have:=zx hf.inN h1;exact ⟨b,rfl,h1,by omega⟩
   ·rintro ⟨b,rfl,h1,h2⟩;have:=zx hf.inN h1;exact ⟨b,(ht x hx).memP.2 ⟨h1,by omega⟩,rfl⟩
 obtain ⟨hc,h0⟩:=StateI.first (D:=fun x=>(t x).1) (P:=fun x=>(t x).2.1) (Q:=fun x=>(t x).2.2) hf ht hout
 have hsN:=hf.sN;obtain ⟨l,rF,en,k1,k2,k3,k4⟩:=StateI.run hf hO ht hout (N-1) h0 (by simp;omega);have hw:Walk es outs ([],[],List.replicate N []) (s::l) (rF,yH (s::l),en):=Walk.cons (by simp) hc (by simpa [yH] using k1)
 have hnd:(s::l).Nodup:=by
  have h1:=k4.inv.nd;have e:[]++[(s:Int)]++yH l=yH (s::l):=by simp [yH]
  rw [e] at h1;unfold yH at h1;rw [List.nodup_iff_pairwise_ne,List.pairwise_map] at h1;exact List.nodup_iff_pairwise_ne.2 (h1.imp fun h e=>h (by rw [e]))
 have hlt:∀x∈s::l,x<N:=fun x hx=>by
  rcases List.mem_cons.1 hx with rfl | hx
  ·exact hsN
  ·exact k2 x hx
 have hperm:(s::l).Perm (List.range N):=by
  have hsub:List.range N⊆s::l:=uV hnd (fun x hx=>List.mem_range.2 (hlt x hx)) (by simp [k3];omega);exact (List.perm_ext_iff_of_nodup hnd List.nodup_range).2 fun a=>⟨fun h=>List.mem_range.2 (hlt a h),fun h=>hsub h⟩
 refine ⟨fun x=>(t x).1,fun x=>(t x).2.1,fun x=>(t x).2.2,outs,yH (s::l),en,s::l,rF,ht,hout,⟨hf.good,rfl,hperm,hO,by rw [ho];simp,hw,hsN,hf.src,hf.sin⟩,fun x hx=>?_⟩
 have hxp:(x:Int)∈[]++[(s:Int)]++yH l:=by
  have e:[]++[(s:Int)]++yH l=yH (s::l):=by simp [yH]
  rw [e];exact List.mem_map.2 ⟨x,hperm.mem_iff.2 (List.mem_range.2 hx),rfl⟩
 have hE:=k4.ends x hx hxp;rw [uH hx,hout x hx];unfold yZ Qy inH;rw [List.filter_reverse,hE]
 show _=List.map (fun a:Nat=>(a:Int)) (t x).1
 rw [(ht x hx).parts];simp only [List.map_append,List.map_map,←List.map_reverse];congr 1
end
end Go.Proofs.YtneeknlhlkpnpaaGreat
/-
 Plain law: great angles fit with a face just if some choice does; the source's may be any in that face. Written by an AI agent.
-/
namespace Go.Proofs.YtneeknlhlkpnpaaGreat
open Go.RowKit
section
variable {N:Nat}{es:List (Int×Int)}{rs:List (List Int)}
theorem Xz{x:Nat}:(jK es Prod.fst (x:Nat) es.length).length=0 ↔ ∀i,i<es.length→(es.getD i (0,0)).1≠(x:Int):=by
 constructor
 ·intro e i hi he;have hm:=qs.2 ⟨i,rfl,hi,he⟩;rw [List.length_eq_zero_iff.1 e] at hm
  cases hm
 ·intro h;rw [List.length_eq_zero_iff,List.eq_nil_iff_forall_not_mem];intro a ha;obtain ⟨i,_,hi,e⟩:=qs.1 ha;exact h i hi e
theorem Ui(hg:GoodP N es)(he:0<es.length){x:Nat}(hx:x<N):¬(inD es x=0∧(jK es Prod.fst (x:Nat) es.length).length=0):=by
 rintro ⟨h1,h2⟩;have hin:InN N es:=ue hg.may;obtain ⟨s',hs',hq⟩:=kp hg;have hc1:cls (Q es es.length) N=1:=YK (by omega) fun x hx=>Star.trans (Q.symm (hq 0 (by omega))) (hq x hx);rcases ZB hin hc1 he hx with ⟨d,hd,hv,ho⟩ | ⟨d,hd,hv,ho⟩
 ·have hd2:d%2=1:=by unfold ev at ho;simpa using ho
  have h3:=vn hin (i:=d/2) (by omega);rw [show 2*(d/2)+1=d by omega,hv] at h3;exact yN.1 h1 (d/2) (by omega) h3.symm
 ·have hd2:d%2=0:=by unfold ev at ho;simpa using ho
  have h3:=zx hin (i:=d/2) (by omega);rw [show 2*(d/2)=d by omega,hv] at h3;exact Xz.1 h2 (d/2) (by omega) h3.symm
theorem Ya(hg:GoodP N es)(he:0<es.length){x:Nat}(hx:x<N):zD es x=decide (x∈zo N es):=by
 have hno:=Ui hg he hx;have h1:x∈yz N es Prod.snd↔inD es x=0:=by rw [zk,yN];exact ⟨fun h=>h.2,fun h=>⟨hx,h⟩⟩
 have h2:x∈yz N es Prod.fst↔(jK es Prod.fst (x:Nat) es.length).length=0:=by rw [zk,Xz];exact ⟨fun h=>h.2,fun h=>⟨hx,h⟩⟩
 have h3:x∈zo N es↔inD es x=0∨(jK es Prod.fst (x:Nat) es.length).length=0:=by
  unfold zo;rw [List.mem_append,h1,h2]
 unfold zD
 show (decide (inD es x=0) != decide ((jK es Prod.fst (x:Nat) es.length).length=0))=_
 by_cases q1:inD es x=0<;>by_cases q2:(jK es Prod.fst (x:Nat) es.length).length=0
 ·exact absurd ⟨q1,q2⟩ hno
 ·rw [decide_eq_true q1,decide_eq_false q2,decide_eq_true (h3.2 (.inl q1))];rfl
 ·rw [decide_eq_false q1,decide_eq_true q2,decide_eq_true (h3.2 (.inr q2))];rfl
 ·rw [decide_eq_false q1,decide_eq_false q2,decide_eq_false (fun h=>(h3.1 h).elim q1 q2)];rfl
theorem Jd(hg:GoodP N es)(he:0<es.length):(zo N es).Nodup:=by
 unfold zo;rw [List.nodup_append];refine ⟨by unfold yz QM;exact List.nodup_range.filter _,by unfold yz QM;exact List.nodup_range.filter _,fun a ha b hb e=>?_⟩;subst e;obtain ⟨h1,h2⟩:=zk.1 ha;exact Ui hg he h1 ⟨yN.2 h2,Xz.2 (zk.1 hb).2⟩
theorem om{outer:Int}{great:List Int}(h:YO N es rs outer great=true)(he:0<es.length):∃f:Nat,outer=f∧f<(jo N es rs).length∧VU rs=true∧fY N es rs f=true:=by
 unfold YO at h;simp only [Bool.and_eq_true,decide_eq_true_eq] at h;obtain ⟨hg,⟨ha,hb⟩,_,hr⟩:=h;have hG:GoodP N es:=jt.1 hg;have hR:=yF ha;have hrl:rs.length=N:=by have:=hR.len;omega
 unfold xD at hr;rw [if_neg (fun e=>by have:=(uy hR).1 e;omega)] at hr
 split at hr
 ·rename_i ho
  split at hr
  ·cases hr
  ·rename_i room hroom;rw [hrl] at hroom;obtain ⟨c1,c2⟩:=Um hroom;have hlen:(vr N es rs outer.toNat).length=(jo N es rs).length:=by unfold vr;rw [vK]
   obtain ⟨r,e1,e2,e3⟩:=Vu (n:=N) (es:=es) (rs:=rs) (great:=great) (room:=vr N es rs outer.toNat) (k:=N) (fun x hx ht=>by
    obtain ⟨g,k1,k2,k3⟩:=c1 x hx ht
    exact ⟨g,k1,k2,k3,by rw [hlen];exact (yh hR k2).1⟩) c2
   rw [hroom] at e1;have e1:=Option.some.inj e1;subst e1;rw [Bool.not_eq_true',List.any_eq_false] at hr
   have hz:∀f,f<(jo N es rs).length→room.getD f 0=0:=fun f hf=>by
    have hf':f<room.length:=by rw [e2,hlen];exact hf
    have:=hr _ (List.getElem_mem hf');rw [List.getD_eq_getElem?_getD,List.getElem?_eq_getElem hf',Option.getD_some];simpa [nz] using this
   refine ⟨outer.toNat,by omega,by omega,hb,?_⟩;unfold fY;rw [VB _ _ (by rw [hrl];exact Jd hG he) (fun k hk=>by rw [hlen];exact (yh hR hk).1),hrl];refine ⟨fun x=>(great.getD x 0).toNat,fun x hx=>?_,fun f hf=>?_⟩
   ·have hxN:=US hx;obtain ⟨g,k1,k2,k3⟩:=c1 x hxN (by rw [Ya hG he hxN];exact decide_eq_true hx)
    show (great.getD x 0).toNat<_∧vtx es (great.getD x 0).toNat=x
    rw [k1,Int.toNat_natCast];exact ⟨k2,k3⟩
   ·have h1:=e3 f hf;rw [hz f (by rw [←hlen];exact hf)] at h1;rw [Ja (Jd hG he) (fun x hx=>US hx)];have:(List.range N).countP (fun x=>zD es x&&decide (jT N es rs (great.getD x 0).toNat=f))=(List.range N).countP fun y=>decide (y∈zo N es)&&decide (jT N es rs (great.getD y 0).toNat=f):=jP fun x hx=>by rw [Ya hG he hx]
    rw [this] at h1
    show (vr N es rs outer.toNat).getD f 0=_
    simp only at h1 ⊢;omega
 ·cases hr
theorem nb(hf:zn N es rs=true)(he:0<es.length){f:Nat}(hfF:f<(jo N es rs).length)(hb:VU rs=true)(ht:fY N es rs f=true):∃great,YO N es rs f great=true:=by
 have hG:=xM hf;have ha:=zN hf;have hR:=yF ha;have hrl:rs.length=N:=by have:=hR.len;omega
 have hlen:(vr N es rs f).length=(jo N es rs).length:=by unfold vr;rw [vK]
 unfold fY at ht;rw [VB _ _ (by rw [hrl];exact Jd hG he) (fun k hk=>by rw [hlen];exact (yh hR hk).1),hrl] at ht;obtain ⟨g,h1,h2⟩:=ht;obtain ⟨great,hgr⟩:∃great:List Int,great=(List.range N).map fun x=>if zD es x=true then ((g x:Nat):Int) else -1:=⟨_,rfl⟩
 have hgl:∀x,x<N→great.getD x 0=if zD es x=true then ((g x:Nat):Int) else -1:=fun x hx=>by
  rw [hgr,List.getD_eq_getElem?_getD,List.getElem?_map,List.getElem?_range hx];rfl
 refine ⟨great,?_⟩;unfold YO;rw [show uD (N:Int) es=true from jt.2 hG,ha,hb,show great.length=N by rw [hgr];simp,decide_eq_true rfl]
 show xD N es rs _ _=true
 unfold xD;rw [if_neg (fun e=>by have:=(uy hR).1 e;omega),if_pos ⟨by omega,by omega⟩,Int.toNat_natCast,hrl]
 obtain ⟨r,e1,e2,e3⟩:=Vu (n:=N) (es:=es) (rs:=rs) (great:=great) (room:=vr N es rs f) (k:=N) (fun x hx ht=>by
  obtain ⟨k1,k2⟩:=h1 x (by rw [Ya hG he hx] at ht;exact of_decide_eq_true ht)
  exact ⟨g x,by rw [hgl x hx,if_pos ht],k1,k2,by rw [hlen];exact (yh hR k1).1⟩) (fun x hx ht=>by rw [hgl x hx,ht,if_neg (by simp)])
 rw [e1];simp only [Bool.not_eq_true'];rw [List.any_eq_false];intro v hv;obtain ⟨k,hk,rfl⟩:=List.getElem_of_mem hv;have hk':k<(vr N es rs f).length:=by rw [←e2];exact hk
 have h8:=e3 k hk';rw [List.getD_eq_getElem?_getD,List.getElem?_eq_getElem hk,Option.getD_some,h2 k hk',Ja (Jd hG he) (fun x hx=>US hx)] at h8
 have:(List.range N).countP (fun x=>zD es x&&decide (jT N es rs (great.getD x 0).toNat=k))=(List.range N).countP fun y=>decide (y∈zo N es)&&decide (jT N es rs (g y)=k):=jP fun x hx=>by
  rw [Ya hG he hx];by_cases hq:x∈zo N es
  ·rw [hgl x hx,if_pos (by rw [Ya hG he hx];exact decide_eq_true hq),Int.toNat_natCast]
  ·rw [decide_eq_false hq,Bool.false_and,Bool.false_and]
 rw [this] at h8;have:r[k]=0:=by omega
 rw [this];simp [nz]
/-- the source's great angle may be any of its angles in the outer face -/
theorem FitT.move{o s:Nat}{gr:Nat→Nat}(h:FitT N es rs o s gr){d:Nat}(hd:d<2*es.length)(hv:vtx es d=s)(ho:jT N es rs d=o):FitT N es rs o s (fun x=>if x=s then d else gr x):=by
 have hin:InN N es:=ue h.good.may
 have hns:∀k,k<2*es.length→zt es rs k=2→vtx es k≠s:=fun k hk h2 e=>by
  have h3:=((vM _ _).1 h2).1;have hk2:k%2=1:=by unfold ev at h3;simpa using h3
  have h4:=vn hin (i:=k/2) (by omega);rw [show 2*(k/2)+1=k by omega,e] at h4;exact yN.1 h.sin (k/2) (by omega) h4.symm
 refine ⟨h.good,h.right,h.gen,h.bim,h.sN,h.src,h.sin,h.pos,h.oF,fun x hx ht=>?_,⟨h.srcG.1,?_⟩,fun k hk h1 h2=>?_,fun f hf hfo=>?_⟩
 ·by_cases e:x=s
  ·simp only [e,if_true];exact ⟨hd,hv⟩
  ·simp only [if_neg e];exact h.tip x hx ht
 ·simp only [if_true];exact ho
 ·simp only [if_neg (hns k hk h1)];exact h.out k hk h1 h2
 ·obtain ⟨k,h1,h2,h3,h4,h5⟩:=h.top f hf hfo;refine ⟨k,h1,h2,h3,by simp only [if_neg (hns k h1 h2)];exact h4,fun e k1 k2 k3 k4=>h5 e k1 k2 k3 ?_⟩;simp only [if_neg (hns e k1 k2)] at k4;exact k4
end
end Go.Proofs.YtneeknlhlkpnpaaGreat
/-
 Plain law: with the source's edges begun elsewhere all vertices can be placed, with the same turn, just if the face between the last one and the first one can be the outer one. Written by an AI agent.
-/
namespace Go.Proofs.YtneeknlhlkpnpaaGreat
open Go.RowKit
section
variable {N:Nat}{es:List (Int×Int)}{ord:List Int}{outs:List (List Int)}{en:List (List Itm)}{l:List Nat}{rF:List Itm}{s:Nat}
theorem PlanR.srcTurn(h:PlanR N es ord outs en l rF s):(jQ N outs en).getD s []=Qy (outs.getD s []):=by
 rw [uH h.sN];unfold yZ;rw [h.srcIn,List.append_nil]
theorem PlanR.fask(h:PlanR N es ord outs en l rF s):zn N es (jQ N outs en)=true:=by
 unfold zn;rw [show uD (N:Int) es=true from jt.2 h.good,zh.2 h.right,decide_eq_true h.gen];rfl
theorem PlanR.outsNodup(h:PlanR N es ord outs en l rF s){x:Nat}(hx:x<N):(outs.getD x []).Nodup:=(h.outp x hx).nodup_iff.2 (xK _ _ _ _)
theorem qZ.refl(rs:List (List Int)):qZ rs rs:=⟨rfl,fun _x _=>⟨0,xY _⟩⟩
theorem PlanR.outerAt(h:PlanR N es ord outs en l rF s)(he:0<es.length){z:Nat}(hz:(outs.getD s []).getLast? = some (z:Int)):fZ N es (jQ N outs en) N=((jT N es (jQ N outs en) (2*z):Nat):Int):=by
 rw [h.outer he N (Nat.le_refl _),if_pos h.sN]
 have:Jh (jQ N outs en) s=((2*z:Nat):Int):=by
  unfold Jh;rw [h.srcTurn]
  have h1:(Qy (outs.getD s [])).getLast? = some (2*(z:Int)):=by
   unfold Qy;rw [List.getLast?_map,hz];rfl
  rw [List.getLast?_eq_getElem?] at h1;rw [List.getD_eq_getElem?_getD,h1];simp
 rw [this,Int.toNat_natCast]
theorem lm(h:PlanR N es ord outs en l rF s)(he:0<es.length){k z:Nat}{outs':List (List Int)}(ho:outs'=outs.set s (rot (outs.getD s []) k))(hz:(rot (outs.getD s []) k).getLast? = some (z:Int)){l2:List Nat}{r2:List Itm}{en2:List (List Itm)}(hw:Walk es outs' ([],[],List.replicate N []) l2 (r2,yH l2,en2))(hl:∀x∈l2,x<N)(hno:∀x,x<N→yY es r2 (yH l2) x=false) :
  (∃en',Qx N es (yH l2) outs'=some en'∧Jg (jQ N outs' en') (jQ N outs en)=true)↔OutP N es (jQ N outs en) (jT N es (jQ N outs en) (2*z)):=by
 have hso:s<outs.length:=by rw [h.outl];exact h.sN
 have hos:outs'.getD s []=rot (outs.getD s []) k:=by rw [ho,vf hso,if_pos rfl]
 have hox:∀x,x≠s→outs'.getD x []=outs.getD x []:=fun x hx=>by rw [ho,vf hso,if_neg hx]
 rw [ii h.fask he];constructor
 ·rintro ⟨en',hr,hs⟩;obtain ⟨l',rF',s',hP⟩:=UF h.good hr;have hss:s'=s:=h.src s' hP.sN hP.sin;subst hss;have hT:=fd hs;have hf:=hP.fits;rw [hT.symm.fit h.right,hP.outerAt he (z:=z) (by rw [hos];exact hz),hT.symm.angF_e h.right] at hf;obtain ⟨f,e,h1,h2,h3⟩:=om hf he;have:jT N es (jQ N outs en) (2*z)=f:=by omega
  rw [this];exact ⟨h1,h2,h3⟩
 ·rintro ⟨h1,h2,h3⟩;obtain ⟨great,hf⟩:=nb h.fask he h1 h2 h3;obtain ⟨s',hF,_⟩:=rR hf he;rw [Int.toNat_natCast] at hF;have hss:s'=s:=h.src s' hF.sN hF.sin;subst hss
  have hzm:(z:Int)∈outs.getD s' []:=by
   have:=List.mem_of_getLast? hz
   rwa [VC] at this
  obtain ⟨i,ei,hi,hiv⟩:=(h.outm h.sN).1 hzm;have ei:z=i:=by omega
  subst ei;have hin:InN N es:=ue h.good.may;have hv:=zx hin hi;rw [hiv] at hv;have hF':=hF.move (d:=2*z) (by omega) (by omega) rfl;obtain ⟨D,P,Q,outs'',ord'',en'',l'',rF'',hN,hO,hP,hD⟩:=cL hF'
  have hT:qZ (jQ N outs en) (jQ N outs'' en''):=⟨by rw [qh,qh],fun x hx=>by
   rw [qh] at hx;obtain ⟨i,e⟩:=(hN x hx).turned
   exact ⟨i,by rw [e,hD x hx]⟩⟩
  -- the edges are the shifted ones
  obtain ⟨k0,_,e0⟩:=h.outsK (qZ.refl _);obtain ⟨k1,_,e1⟩:=hP.outsK hT.symm;have hsl:s'<(jQ N outs en).length:=by rw [qh];exact h.sN
  have hns:=hN s' h.sN
  have hQ:Q s'=[]:=by
   rw [List.eq_nil_iff_forall_not_mem];intro a ha;obtain ⟨q1,q2⟩:=hns.memQ.1 ha;have:=vn hin q1;rw [q2] at this;exact yN.1 h.sin a q1 this.symm
  have hPz:(outs''.getD s' []).getLast? = some (z:Int):=by
   have q:=hns.great hF.srcG.1;rw [hns.parts,hQ,List.reverse_nil,List.map_nil,List.append_nil,List.getLast?_map,if_pos rfl] at q;rw [hO s' h.sN,List.getLast?_map]
   cases hp:(P s').getLast? with
   | none=>rw [hp] at q;cases q
   | some y=>
    rw [hp] at q;have q:2*y=2*z:=Option.some.inj q
    show some (y:Int)=some (z:Int)
    rw [show y=z by omega]
  have hPs:outs''.getD s' []=outs'.getD s' []:=by
   obtain ⟨i,e⟩:=hT.2 s' hsl;rw [h.srcTurn,hP.srcTurn] at e
   have e:rot (outs.getD s' []) i=outs''.getD s' []:=by
    unfold Qy at e;rw [ib] at e;exact (List.map_inj_right (fun a b (hab:2*a=2*b)=>by omega)).1 e
   rw [hos,←e];refine re (h.outsNodup h.sN) (z:=z) ?_ hz;rw [e];exact hPz
  have hEq:outs''=outs':=by
   apply List.ext_getElem
   ·rw [hP.outl,ho,List.length_set,h.outl]
   ·intro x x1 x2;have hxN:x<N:=by rw [hP.outl] at x1;exact x1
    have hg:outs''.getD x []=outs'.getD x []:=by
     by_cases hxs:x=s'
     ·rw [hxs];exact hPs
     ·rw [hox x hxs,←e1,UJ k1 hsl (by rw [qh];exact hxN) hxs,←UJ k0 hsl (by rw [qh];exact hxN) hxs,e0]
    rw [List.getD_eq_getElem?_getD,List.getElem?_eq_getElem x1,List.getD_eq_getElem?_getD,List.getElem?_eq_getElem x2] at hg;exact hg
  rw [hEq] at hP hT;have hG:=hP.greedy hw hl hno;exact ⟨en'',hG.run,eY hT.symm⟩
end
end Go.Proofs.YtneeknlhlkpnpaaGreat
/-
 Plain parts of the law ForestShifts: the source, the rows' values, what can be the outer face. Written by an AI agent.
-/
namespace Go.Proofs.YtneeknlhlkpnpaaGreat
open Go.RowKit
section
variable {N:Nat}{es:List (Int×Int)}{ord:List Int}{outs:List (List Int)}{en:List (List Itm)}{l:List Nat}{rF:List Itm}{s:Nat}
theorem PlanR.bare(h:PlanR N es ord outs en l rF s):∃t,yP N es Prod.snd=(s:Int)::t:=by
 have hm:s∈yz N es Prod.snd:=zk.2 ⟨h.sN,yN.1 h.sin⟩;unfold yP
 cases hb:yz N es Prod.snd with
 | nil=>rw [hb] at hm;cases hm
 | cons x t=>
  have hx:x∈yz N es Prod.snd:=by rw [hb];simp
  obtain ⟨h1,h2⟩:=zk.1 hx;rw [h.src x h1 (yN.2 h2)];exact ⟨_,rfl⟩
theorem PlanR.srcPos(h:PlanR N es ord outs en l rF s)(he:0<es.length):0<(outs.getD s []).length:=by
 obtain ⟨i,_,_,_,hhd,_⟩:=h.srcOut he;exact List.length_pos_iff.2 fun e=>by rw [e] at hhd;cases hhd
theorem PlanR.rotOuts(h:PlanR N es ord outs en l rF s)(k:Nat):vS N es (outs.set s (rot (outs.getD s []) k)):=fun x hx=>by
 by_cases e:x=s
 ·subst e;rw [vf (by rw [h.outl];exact hx),if_pos rfl];exact (nr _ _).trans (h.outp x hx)
 ·rw [vf (by rw [h.outl];exact h.sN),if_neg e];exact h.outp x hx
theorem cH{r:List Itm}{en:List (List Itm)}{l:List Nat}(h:Walk es outs ([],[],List.replicate N []) l (r,yH l,en))(hl:∀x∈l,x<N)(hn:l.length=N):∀x,x<N→yY es r (yH l) x=false:=fun x hx=>by
 cases hq:yY es r (yH l) x with
 | false=>rfl
 | true=>
  exfalso;obtain ⟨hp,A,E,B,hc⟩:=Xd hq;have h2:=WK h hp hc
  have:=gS h2 (fun y hy=>by
   rcases List.mem_append.1 hy with h3 | h3
   ·exact hl y h3
   ·rw [List.mem_singleton.1 h3];exact hx)
  simp at this;omega
end
section
variable {w:World}{B:Nat}{A:Option Addr}{rs:List (List Int)}
theorem xe.vals(h:xe w B A rs):∃vs:List Value,vs.length=rs.length∧jr w B A vs ∧ ∀i (h:i<rs.length),∃Ai ci,vs[i]? = some (.slice Ai rs[i].length ci)∧jr w B Ai (jf rs[i])∧rs[i].length≤ci:=by
 by_cases hn:0<rs.length
 ·obtain ⟨b,off,e,hb,hc⟩:=h hn;refine ⟨(List.range rs.length).map fun i=>(w.cell? ⟨b,off+i,none⟩).getD (.int .i64 0),by simp,fun _=>⟨b,off,e,hb,fun j u hu=>?_⟩,fun i hi=>?_⟩
  ·have hj:j<rs.length:=by
    have:=(List.getElem?_eq_some_iff.1 hu).1;simpa using this
   obtain ⟨Ai,ci,h1,_⟩:=hc j hj;rw [List.getElem?_map,List.getElem?_range hj] at hu;simp only [Option.map_some,h1,Option.getD_some,Option.some.injEq] at hu;rw [h1,hu]
  ·obtain ⟨Ai,ci,h1,h2,h3⟩:=hc i hi;refine ⟨Ai,ci,?_,h2,h3⟩;rw [List.getElem?_map,List.getElem?_range hi,Option.map_some,h1];rfl
 ·exact ⟨[],by simp;omega,jr.nil,fun i hi=>absurd hi (by omega)⟩
/-- rows whose values stand in a row -/
def ZJ(w:World)(B:Nat)(vs:List Value)(rs:List (List Int)):Prop:=vs.length=rs.length ∧ ∀i (h:i<rs.length),∃Ai ci,vs[i]? = some (.slice Ai rs[i].length ci)∧jr w B Ai (jf rs[i])
theorem ZJ.next{w':World}{B':Nat}{vs:List Value}(h:ZJ w B vs rs)(hb:Below B w w')(hB:B≤B'):ZJ w' B' vs rs:=⟨h.1,fun i hi=>by
 obtain ⟨Ai,ci,h1,h2⟩:=h.2 i hi
 exact ⟨Ai,ci,h1,(h2.below hb).more hB⟩⟩
theorem ZJ.set{vs:List Value}(h:ZJ w B vs rs){s:Nat}{l:List Int}{Ai:Option Addr}{ci:Nat}(hl:jr w B Ai (jf l)):ZJ w B (vs.set s (.slice Ai l.length ci)) (rs.set s l):=⟨by simp [h.1],fun i hi=>by
 have hi':i<rs.length:=by simpa using hi
 by_cases e:s=i
 ·subst e;refine ⟨Ai,ci,?_,?_⟩
  ·rw [List.getElem?_set_self (by rw [h.1];exact hi')];simp
  ·simpa using hl
 ·obtain ⟨Aj,cj,h1,h2⟩:=h.2 i hi';refine ⟨Aj,cj,?_,?_⟩
  ·rw [List.getElem?_set_ne e,h1,List.getElem_set_ne e]
  ·rw [List.getElem_set_ne e];exact h2⟩
theorem ZJ.rows{vs:List Value}(h:ZJ w B vs rs)(hc:jr w B A vs):qz w B A rs:=fun hn=>by
 obtain ⟨b,off,e,hb,hcc⟩:=hc (by rw [h.1];exact hn)
 exact ⟨b,off,e,hb,fun i hi=>by
  obtain ⟨Ai,ci,h1,h2⟩:=h.2 i hi
  exact ⟨Ai,ci,hcc i _ h1,h2⟩⟩
end
/-- whether an angle at the half m has a face of the list -/
def gk0(Q:List (Nat×Nat×Nat×Nat))(L:List Int)(m:Int):Bool:=Q.any fun q=>L.any fun o=>decide ((q.1:Int)=m)&&decide ((q.2.2.1:Int)=o)
theorem rW{n:Int}{es:List (Int×Int)}{rs:List (List Int)}(hf:zn n es rs=true){z:Nat}(hz:z<es.length):gk0 (yl n es rs) (Ve n es rs) (2*(z:Int))=true↔OutP n es rs (jT n es rs (2*z)):=by
 have ho:=(dv hf (by omega)).1;unfold gk0 yl;rw [if_pos (zN hf),List.any_eq_true];simp only [List.any_eq_true,Bool.and_eq_true,decide_eq_true_eq];constructor
 ·rintro ⟨q,hq,o,hoL,h1,h2⟩;unfold VV at hq;obtain ⟨h,_,rfl⟩:=List.mem_map.1 hq;obtain ⟨f,rfl,hP⟩:=(ho o).1 hoL;have e1:(h:Int)=2*(z:Int):=h1;have e2:((jT n es rs h:Nat):Int)=(f:Int):=h2;have e3:h=2*z:=by omega
  subst e3
  rwa [show jT n es rs (2*z)=f by omega]
 ·intro hP;refine ⟨QL n es rs (2*z),List.mem_map.2 ⟨2*z,List.mem_range.2 (by omega),rfl⟩,((jT n es rs (2*z):Nat):Int),(ho _).2 ⟨_,rfl,hP⟩,?_,rfl⟩
  show ((2*z:Nat):Int)=2*(z:Int)
  omega
theorem ry{n:Int}{es:List (Int×Int)}{rs:List (List Int)}(hf:zn n es rs=true)(he:0<es.length):(Ve n es rs).length≤2*es.length:=by
 rw [fD hf he];refine Nat.le_trans ?_ (kM (yF (zN hf)));unfold KF
 split
 ·exact Wk _ _ _ _
 ·exact Nat.zero_le _
theorem GY{P:Program}{w:World}{ops:Array Oper}{rest:List Oper}{t e:TypeId}{z:Value}{size bytes:Nat}{o:Oper}{a:Act}{Q:Exit→Act→World→Prop}(hE:uF P t e z size bytes)(hgd:o.guard=none)(s x:Operand)
  (ho:o.op = .call { callee:=.builtin .append,args:=#[s,x],argTypes:=#[t,t] })
  {base g:Nat} (hs:a.eval s = .slice (some ⟨g,0,none⟩) 0 0) (hb:Blk w g e #[]) (hbg:base≤g) {B m:Nat} {A:Option Addr} {c:Nat} {news:List Value} (hx:a.eval x = .slice A m c) (hr:jr w B A news) (hl:news.length=m*size)
  (hbytes:m*bytes≤140737488355328) (h63:m≤9223372036854775807) (hbase:base≤w.heap.size)
  (h:∀A' c' w',w'.ownsRow base e size (.slice A' m c') m news→Below w.heap.size w w'→wpList P ops Q rest (a.put o.dst (.slice A' m c')) w'):wpList P ops Q (o::rest) a w:=
 wpList_plain hgd fun _ hK=>YT hE s x ho hs hb hbg hx hr hl hbytes h63 hbase fun A' c' w' h2 h3=>hK _ _ (h A' c' w' h2 h3)
end Go.Proofs.YtneeknlhlkpnpaaGreat
/-
 The example of chapter 12, reckoned. Written by an AI agent.
-/
namespace Go.Proofs.YtneeknlhlkpnpaaGreat
open Go.RowKit
theorem rS:GoodP 2 [(0,1)]:=⟨by decide +kernel,fun i hi=>by
  match i,hi with
  | 0,_=>decide,fun i hi j hj=>by
  match i,hi with
  | 0,_=>exact absurd hj (Nat.not_lt_zero _),by decide +kernel,by decide +kernel⟩
theorem pk:zn 2 [(0,1)] [[0],[1]]=true:=by
 unfold zn uD;rw [jt.2 rS,XL,show ym 2 [(0,1)] [[0],[1]]=true by decide +kernel];rfl
theorem UQ:(jo 2 [(0,1)] [[0],[1]]).length=1:=by decide +kernel
theorem aS:yl 2 [(0,1)] [[0],[1]]=[(0,0,0,1),(1,1,0,2)]:=by
 unfold yl;rw [if_pos bP]
 decide +kernel
theorem tD:roR 2 [(0,1)] [[0],[1]]=roH 1 [(1,1,0,2)]:=by
 unfold roR;rw [UQ,aS];rfl
theorem ta:pos (roH 1 [(1,1,0,2)]) 1=1:=by decide +kernel
theorem tE:rlB (roH 1 [(1,1,0,2)]) 1 2 (2*0+0)=[0]:=by decide +kernel
theorem tC:rlB (roH 1 [(1,1,0,2)]) 1 2 (2*0+1)=[1]:=by decide +kernel
theorem tF:cA (roH 1 [(1,1,0,2)]) [(1,1,0,2)] 0=1:=by decide +kernel
theorem tc:Ve 2 [(0,1)] [[0],[1]]=[0]:=by
 unfold Ve;rw [if_pos pk,tD,UQ,aS];rw [Vp (fr:=0) (by decide +kernel)];rw [show kf ((yP ([[0],[1]]:List (List Int)).length [(0,1)] Prod.snd).getD 0 0) (rlB (roH 1 [(1,1,0,2)]) 1 ([[0],[1]]:List (List Int)).length (2*0)) [(0,0,0,1),(1,1,0,2)]=[0] by decide +kernel];rw [List.mergeSort_singleton];rfl
end Go.Proofs.YtneeknlhlkpnpaaGreat
/-
 What the laws of chapter 12 ask first: the document's example. Written by an AI agent.
-/
namespace Go.Proofs.YtneeknlhlkpnpaaGreat
open Go.RowKit
theorem mu:([(0,0,0,1),(1,1,0,2)]:List zu).filter hiQ=[(1,1,0,2)]:=by decide
set_option maxRecDepth 20000 in
set_option maxHeartbeats 4000000 in
theorem Hi(w:World):Calls Tryz.prog 7 #[] w fun e w'=>e = .returned (.bool true)∧Below w.heap.size w w':=by
 go_enter Tryz.func7,Tryz.ntmps7
 go_upto_region 2 with fail
 have b1:=Blk.new w 66 #[.int .i64 0,.int .i64 1];have z1:=World.size_alloc w (.cells #[.int .i64 0,.int .i64 1] 66);have k1:=(Below.refl w.heap.size w).alloc (Nat.le_refl _) (.cells #[.int .i64 0,.int .i64 1] 66);generalize w.alloc (.cells #[.int .i64 0,.int .i64 1] 66)=w1 at *;have b2:=Blk.new w1 24 #[.int .i64 2,.slice (some ⟨w.heap.size,0,none⟩) 1 1];have b1':=b1.alloc (.cells #[.int .i64 2,.slice (some ⟨w.heap.size,0,none⟩) 1 1] 24);have z2:=World.size_alloc w1 (.cells #[.int .i64 2,.slice (some ⟨w.heap.size,0,none⟩) 1 1] 24);have k2:=k1.alloc (by omega) (.cells #[.int .i64 2,.slice (some ⟨w.heap.size,0,none⟩) 1 1] 24);generalize w1.alloc (.cells #[.int .i64 2,.slice (some ⟨w.heap.size,0,none⟩) 1 1] 24)=w2 at *;rw [z1] at b2;obtain ⟨gE,hgE⟩:∃gE,gE=w.heap.size:=⟨_,rfl⟩;obtain ⟨gG,hgG⟩:∃gG,gG=w.heap.size+1:=⟨_,rfl⟩;rw [←hgG] at b2;rw [←hgE] at b1' b2;rw [←hgG,←hgE];have HB:=Lib.hid k2;have HE:=Lib.hid (show jr w2 w2.heap.size (some ⟨gE,0,none⟩) (jD [(0,1)]) from (jr.blk' (xs:=jD [(0,1)]) b1').more b1'.lt);have HG:=Lib.hid b2;have hgl:gG<w2.heap.size:=b2.lt;have c0:=b2.cell 0;have c1:=b2.cell 1;simp only [List.getElem?_toArray,List.getElem?_cons_zero,List.getElem?_cons_succ] at c0 c1;clear b1 b1' b2 k1 k2 z1 z2 hgE hgG;have HR:=Lib.hid (pb w2);go_wp2_with fail;generalize ((w2.alloc (.cells #[.int .i64 0] 3)).alloc (.cells #[.int .i64 1] 3)).alloc (.cells #[.slice (some ⟨w2.heap.size,0,none⟩) 1 1,.slice (some ⟨w2.heap.size+1,0,none⟩) 1 1] 25)=w3 at *;have HE3:=Lib.hid ((HE.out.below HR.out.2).more HR.out.2.size);have HG3:=Lib.hid (HG.out.below HR.out.2 hgl);have HB3:=Lib.hid (HB.out.trans (HR.out.2.mono HB.out.size));have hgl3:gG<w3.heap.size:=HG3.out.lt;refine (Zs 2 (some ⟨gE,0,none⟩) (some ⟨w2.heap.size+1+1,0,none⟩) 1 2 [(0,1)] [[0],[1]] w3 HE3.out HR.out.1 (by simp) (by simp) (by simp)).mono ?_;rintro e w4 ⟨v,rfl,hb4,_,hv⟩;obtain ⟨rv,hpm⟩:=hv pk;rw [UQ,aS,mu,ta] at hpm;have hpm2:PartM w4 w3.heap.size v 1 (rlB (roH 1 [(1,1,0,2)]) 1 2) (cA (roH 1 [(1,1,0,2)]) [(1,1,0,2)]) rv:=hpm;obtain ⟨g,cap,rfl,hg⟩:=hpm2.form (by omega);obtain ⟨A1,x1,z0,_⟩:=hpm2.part (k:=0) (j:=0) (by omega) (by omega);obtain ⟨A2,x2,z1,hc⟩:=hpm2.part (k:=0) (j:=1) (by omega) (by omega);have z2:=hpm2.cellN (k:=0) (by omega);rw [tE] at z0;rw [tC] at z1 hc;rw [tF] at z2;have y0:w4.cell? ⟨g,0,none⟩=some (.slice A1 1 x1):=z0;have y1:w4.cell? ⟨g,1,none⟩=some (.slice A2 1 x2):=z1;have y2:w4.cell? ⟨g,2,none⟩=some (.int .i64 1):=z2;have HC4:=Lib.hid hc;have HE4:=Lib.hid ((HE3.out.below hb4).more hb4.size);have HG4:=Lib.hid (HG3.out.below hb4 hgl3);have HB4:=Lib.hid (HB3.out.trans (hb4.mono HB3.out.size));have hgl4:gG<w4.heap.size:=HG4.out.lt;clear hb4 hpm hpm2 hv z0 z1 z2 hc hg c0 c1;have HB5:=Lib.hid (Blk.new w4 3 #[.int .i64 1]);have hb5:=(Below.refl w4.heap.size w4).alloc (Nat.le_refl _) (.cells #[.int .i64 1] 3);have HC5:=Lib.hid ((HC4.out.below hb5).more hb5.size);have HE5:=Lib.hid ((HE4.out.below hb5).more hb5.size);have HG5:=Lib.hid (HG4.out.below hb5 hgl4);have HB45:=Lib.hid (HB4.out.trans (hb5.mono HB4.out.size));clear hb5;go_wp2_with fail;generalize w4.alloc (.cells #[.int .i64 1] 3)=w5 at *;refine (de A2 (some ⟨w4.heap.size,0,none⟩) x2 1 [1] [1] w5 w5.heap.size HC5.out ((jr.blk' (xs:=jf [1]) HB5.out).more HB5.out.lt) (by simp) (by simp)).mono ?_;rintro e w6 ⟨rfl,m,rfl⟩;have HB6:=Lib.hid (below_drewN HB45.out m);have HE6:=Lib.hid (show jr (w5.drewN m) (w5.drewN m).heap.size (some ⟨gE,0,none⟩) (jD [(0,1)]) from HE5.out.drewN m);have HG6:=Lib.hid (HG5.out.drewN m);have hd:decide (([1]:List Int)=[1])=true:=by simp
 rw [hd];generalize w5.drewN m=w6 at *;have hgl6:gG<w6.heap.size:=HG6.out.lt;have c0:=HG6.out.cell 0;have c1:=HG6.out.cell 1;simp only [List.getElem?_toArray,List.getElem?_cons_zero,List.getElem?_cons_succ] at c0 c1;have HR7:=Lib.hid (pb w6);clear y0 y1 y2 hd;go_wp2_with fail;generalize ((w6.alloc (.cells #[.int .i64 0] 3)).alloc (.cells #[.int .i64 1] 3)).alloc (.cells #[.slice (some ⟨w6.heap.size,0,none⟩) 1 1,.slice (some ⟨w6.heap.size+1,0,none⟩) 1 1] 25)=w7 at *;have HE7:=Lib.hid ((HE6.out.below HR7.out.2).more HR7.out.2.size);have HB7:=Lib.hid (HB6.out.trans (HR7.out.2.mono HB6.out.size));refine (Ka 2 (some ⟨gE,0,none⟩) (some ⟨w6.heap.size+1+1,0,none⟩) 1 2 [(0,1)] [[0],[1]] w7 HE7.out HR7.out.1 (by simp) (by simp) (by simp)).mono ?_;rw [tc];rintro e w8 ⟨A8,x8,rfl,hb8,hc8⟩;have HB8:=Lib.hid (HB7.out.trans (hb8.mono HB7.out.size));have HN9:=Lib.hid (Blk.new w8 3 #[.int .i64 0]);have hb9:=(Below.refl w8.heap.size w8).alloc (Nat.le_refl _) (.cells #[.int .i64 0] 3);have HC9:=Lib.hid ((hc8.below hb9).more hb9.size);have HB9:=Lib.hid (HB8.out.trans (hb9.mono HB8.out.size));clear hb8 hc8 hb9;go_wp2_with fail;generalize w8.alloc (.cells #[.int .i64 0] 3)=w9 at *;refine (de A8 (some ⟨w8.heap.size,0,none⟩) x8 1 [0] [0] w9 w9.heap.size HC9.out ((jr.blk' (xs:=jf [0]) HN9.out).more HN9.out.lt) (by simp) (by simp)).mono ?_;rintro e w10 ⟨rfl,m,rfl⟩;have HB10:=Lib.hid (below_drewN HB9.out m);have hd:decide (([0]:List Int)=[0])=true:=by simp
 rw [hd];clear hd;go_wp2_with fail;go_ret;exact ⟨rfl,HB10.out⟩
end Go.Proofs.YtneeknlhlkpnpaaGreat
/-
 sweep.Mirror: what it computes. Written by an AI agent.
-/
namespace Go.Proofs.YtneeknlhlkpnpaaGreat
open Go.RowKit
theorem yk.evo{B base:Nat}{T:List TypeId}{w w':World}{v:Value}{F:List (List Int)}(h:yk w base v F)(he:Evo B T w w')(h1:25∉T)(h2:3∉T):yk w' base v F:=by
 obtain ⟨sl,k1,k2⟩:=h;refine ⟨sl,yC k1 he h1,fun i hi=>?_⟩;obtain ⟨Ai,ci,k3,k4⟩:=k2 i hi;exact ⟨Ai,ci,k3,yC k4 he h2⟩
end Go.Proofs.YtneeknlhlkpnpaaGreat
