import Derived.Test.YtneeknlhlkpnpaaGreatZRotL
import Derived.Test.YtneeknlhlkpnpaaGreatZRPlain
import Derived.Test.YtneeknlhlkpnpaaGreatZEul
import Derived.Test.YtneeknlhlkpnpaaGreatZReg
import Derived.Test.YtneeknlhlkpnpaaGreatZEulL
import Derived.Test.YtneeknlhlkpnpaaGreatZFlat3
import Derived.Test.YtneeknlhlkpnpaaGreatZRRf9
/-
 Plain law: a vertex can always be placed: its edges stand side by side in the row, in its order. Written by an AI agent.
-/
namespace Go.Proofs.YtneeknlhlkpnpaaGreat
open Go.RowKit
section
variable {N:Nat}{es:List (Int×Int)}{rs:List (List Int)}{o s:Nat}{gr:Nat→Nat}{pl:Nat→Prop}{ρ : List Nat}
/-- along the split row -/
theorem Kh{a p:Nat}(hc:Cut N es rs o s pl ρ)(ha:a ∈ ρ)(hp:p ∈ ρ):∀(n k:Nat) (h:k+n < ρ.length),(∀j (hj:j < ρ.length),k≤j→j<k+n → ρ[j]≠a ∧ ρ[j]≠p)→Orb (sS es rs pl ρ a p) (2 * ρ[k]'(by omega)) (2 * ρ[k+n])
 | 0,k,h,_=>Orb.refl _ _
 | n+1,k,h,hne=>by
  obtain ⟨n1,n2⟩:=hne k (by omega) (Nat.le_refl _) (by omega);obtain ⟨c,_,e,_,_,c3⟩:=bh hc ha hp (b:=ρ[k]'(by omega)) (List.getElem_mem _);have h1:=Kh hc ha hp n (k+1) (by omega) (fun j hj h1 h2=>hne j hj (by omega) (by omega));rw [c3 n1 n2,YD hc.nd (by omega)] at e;simp only [Nat.mod_eq_of_lt (show k+1 < ρ.length by omega)] at e;have h2:Orb (sS es rs pl ρ a p) (2 * ρ[k]'(by omega)) (2 * ρ[k+1]'(by omega)):=⟨1,e⟩;have e3:k+1+n=k+(n+1):=by omega
  simp only [e3] at h1;exact h2.trans h1
/-- a top between two edges in the row: the left one stands left; what stands between hangs apart -/
theorem bM(hf:FitT N es rs o s gr)(hc:Cut N es rs o s pl ρ){i j:Nat}(hi:i < ρ.length)(hj:j < ρ.length)(htop:kv es rs gr (2 * ρ[j]+1)=true)(hsig:sig es rs (2 * ρ[j]+1)=2 * ρ[i]+1)(hij:i≠j) :
  i<j∧(i+1<j → ∃I:Nat→Prop,(∀d,d<2*es.length → ¬pl (vtx es d)→(I (sig es rs d)↔I d))∧(∀e,e<es.length→(I (2*e)↔I (2*e+1)))∧(∀k (hk:k < ρ.length),I (2 * ρ[k])↔i<k∧k<j)):=by
 have ha:=List.getElem_mem hi;have hb:=List.getElem_mem hj;obtain ⟨a1,a2,a3⟩:=qr hc ha;obtain ⟨b1,b2,b3⟩:=qr hc hb;have ht:2 * ρ[j]+1<2*es.length:=by omega
 obtain ⟨to1,_⟩:=hf.top_face ht htop;have f1:jT N es rs (ot (2 * ρ[i]+1))=jT N es rs (2 * ρ[j]+1):=by rw [←hsig,vg hf.right ht]
 have f2:jT N es rs (ot (2 * ρ[j]))=jT N es rs (2 * ρ[j]+1):=by rw [ud]
 have h0:jT N es rs (ot (2 * ρ[0]'(by omega)))=o:=hc.out _ (by rw [List.head?_eq_getElem?,List.getElem?_eq_getElem (by omega)])
 have hj0:j≠0:=fun e=>by
  subst e;rw [f2] at h0;exact to1 h0
 have hpm : ρ[j-1]'(by omega) ∈ ρ :=List.getElem_mem _
 have hnx:nxr ρ (ρ[j-1]'(by omega)) = ρ[j]:=by
  rw [YD hc.nd (by omega)];have e:(j-1+1) % ρ.length=j:=by rw [show j-1+1=j by omega];exact Nat.mod_eq_of_lt hj
  simp only [e]
 have fp:jT N es rs (ot (2 * ρ[i]+1))=jT N es rs (ot (2*(ρ[j-1]'(by omega))+1)):=by
  rw [hc.ring _ hpm,hnx,f1,f2]
 by_cases hadj:j-1=i
 ·exact ⟨by omega,fun h=>by omega⟩
 have hap : ρ[i] ≠ ρ[j-1]'(by omega):=fun e=>hadj (xZ hc.nd _ _ e).symm;obtain ⟨hS,hapart,hrow⟩:=XK hf hc ha hpm hap fp;have hE:=kD hS es.length (Nat.le_refl _);have h2p:2*(ρ[j-1]'(by omega))<2*es.length:=by have:=(qr hc hpm).2.2;omega
 have hpair:∀e,e<es.length→ppR (sS es rs pl ρ ρ[i] (ρ[j-1]'(by omega))) es.length (2*e) (2*e+1):=fun e he=>kG hS _ (Nat.le_refl _) he
 have hsa:sS es rs pl ρ ρ[i] (ρ[j-1]'(by omega)) (2 * ρ[i])=2 * ρ[j]:=by
  obtain ⟨c,_,e,c1,_,_⟩:=bh hc ha hpm ha;rw [e,c1 rfl,hnx]
 have htI:¬ppR (sS es rs pl ρ ρ[i] (ρ[j-1]'(by omega))) es.length (2 * ρ[j]+1) (2*(ρ[j-1]'(by omega))):=fun h=>hapart (by
  have h0:Orb (sS es rs pl ρ ρ[i] (ρ[j-1]'(by omega))) (2 * ρ[i]) (2 * ρ[j]):=⟨1,hsa⟩;have h1:=vC h0 es.length
  exact hE.trans _ _ _ (by omega) (by omega) h2p h1 (hE.trans _ _ _ (by omega) ht h2p (hpair _ b3) h))
 have hnd:∀k (hk:k < ρ.length),k≠i→k≠j-1 → ρ[k] ≠ ρ[i] ∧ ρ[k] ≠ ρ[j-1]'(by omega):=fun k hk h1 h2=>⟨fun e=>h1 (xZ hc.nd _ _ e),fun e=>h2 (xZ hc.nd _ _ e)⟩
 have hij2:i<j:=by
  apply Classical.byContradiction;intro hno;have hout:=cm hf hc ha hpm hap fp ht htop f1.symm htI (List.getElem_mem (show 0 < ρ.length by omega)) h0;apply hout;have:=Kh (es:=es) (rs:=rs) hc ha hpm (j-1) 0 (by omega) (fun k hk h1 h2=>hnd k hk (by omega) (by omega));simp only [Nat.zero_add] at this;exact vC this _
 refine ⟨hij2,fun hlt=>⟨fun d=>ppR (sS es rs pl ρ ρ[i] (ρ[j-1]'(by omega))) es.length d (2*(ρ[j-1]'(by omega))),fun d hd hpd=>?_,fun e he=>?_,fun k hk=>?_⟩⟩
 ·have h1:ppR (sS es rs pl ρ ρ[i] (ρ[j-1]'(by omega))) es.length d (sig es rs d):=vC ⟨1,by show sS _ _ _ _ _ _ d=_;exact pz hc ha hpm hpd⟩ _;have hd2:=(qS hf.right hd).1;exact ⟨fun h=>hE.trans _ _ _ hd hd2 h2p h1 h,fun h=>hE.trans _ _ _ hd2 hd h2p (hE.symm _ _ hd hd2 h1) h⟩
 ·have h1:=hpair e he;exact ⟨fun h=>hE.trans _ _ _ (by omega) (by omega) h2p (hE.symm _ _ (by omega) (by omega) h1) h,fun h=>hE.trans _ _ _ (by omega) (by omega) h2p h1 h⟩
 ·have hk2:2 * ρ[k]<2*es.length:=by have:=(qr hc (List.getElem_mem hk)).2.2;omega
  constructor
  ·intro h;apply Classical.byContradiction;intro hno
   -- it hangs together with the left edge
   have hka:Orb (sS es rs pl ρ ρ[i] (ρ[j-1]'(by omega))) (2 * ρ[k]) (2 * ρ[i]):=by
    by_cases hki:k≤i
    ·have:=Kh (es:=es) (rs:=rs) hc ha hpm (i-k) k (by omega) (fun l hl h1 h2=>hnd l hl (by omega) (by omega));simp only [show k+(i-k)=i by omega] at this;exact this
    ·have hkj:j≤k:=by omega
     have e1:=Kh (es:=es) (rs:=rs) hc ha hpm (ρ.length-1-k) k (by omega) (fun l hl h1 h2=>hnd l hl (by omega) (by omega));simp only [show k+(ρ.length-1-k) = ρ.length-1 by omega] at e1;have e2:=Kh (es:=es) (rs:=rs) hc ha hpm i 0 (by omega) (fun l hl h1 h2=>hnd l hl (by omega) (by omega));simp only [Nat.zero_add] at e2;obtain ⟨c,_,e,_,_,c3⟩:=bh hc ha hpm (b:=ρ[ρ.length-1]'(by omega)) (List.getElem_mem _);obtain ⟨n1,n2⟩:=hnd (ρ.length-1) (by omega) (by omega) (by omega);rw [c3 n1 n2,YD hc.nd (by omega)] at e;have em:(ρ.length-1+1) % ρ.length=0:=by rw [show ρ.length-1+1 = ρ.length by omega];exact Nat.mod_self _
     simp only [em] at e;exact e1.trans (Orb.trans ⟨1,e⟩ e2)
   exact hapart (hE.trans _ _ _ (by omega) hk2 h2p (hE.symm _ _ hk2 (by omega) (vC hka _)) h)
  ·rintro ⟨h1,h2⟩;have:=Kh (es:=es) (rs:=rs) hc ha hpm (j-1-k) k (by omega) (fun l hl h1 h2=>hnd l hl (by omega) (by omega));simp only [show k+(j-1-k)=j-1 by omega] at this;exact vC this _
/-- all edges to w stand in the row -/
def pB(N:Nat)(es:List (Int×Int))(pl:Nat→Prop)(ρ : List Nat)(w:Nat):Prop:=w<N ∧ ¬pl w ∧ ∀e,e<es.length→vtx es (2*e+1)=w→e ∈ ρ
/-- and side by side, in its order -/
def iS(N:Nat)(es:List (Int×Int))(rs:List (List Int))(gr:Nat→Nat)(pl:Nat→Prop)(ρ : List Nat)(w:Nat):Prop:=pB N es pl ρ w ∧ ∀i j (hi:i < ρ.length) (hj:j < ρ.length),vtx es (2 * ρ[j]+1)=w→kv es rs gr (2 * ρ[j]+1)=true→sig es rs (2 * ρ[j]+1)=2 * ρ[i]+1→i+1=j
/-- THE DESCENT -/
theorem rO(hf:FitT N es rs o s gr)(hc:Cut N es rs o s pl ρ):∀(n lo:Nat) (w:Nat),pB N es pl ρ w→(∀k (hk:k < ρ.length),vtx es (2 * ρ[k]+1)=w→lo≤k∧k<lo+n) → ∃w,iS N es rs gr pl ρ w:=by
 have hin:=hf.inN;have ho:=hf.good.ord;rw [Int.toNat_natCast] at ho;obtain ⟨L,hL⟩:=vI hin ho;intro n
 induction n using Nat.strongRecOn with
 | _ n ih=>
  intro lo w hw hb;by_cases hg:iS N es rs gr pl ρ w
  ·exact ⟨w,hg⟩
  · -- a pair that does not stand side by side
   have:∃i j,∃hi:i < ρ.length,∃hj:j < ρ.length,vtx es (2 * ρ[j]+1)=w∧kv es rs gr (2 * ρ[j]+1)=true∧sig es rs (2 * ρ[j]+1)=2 * ρ[i]+1∧i+1≠j:=by
    apply Classical.byContradiction;intro hno;apply hg;refine ⟨hw,fun i j hi hj h1 h2 h3=>?_⟩;apply Classical.byContradiction;intro h4;exact hno ⟨i,j,hi,hj,h1,h2,h3,h4⟩
   obtain ⟨i,j,hi,hj,h1,h2,h3,h4⟩:=this
   have hwi:vtx es (2 * ρ[i]+1)=w:=by
    have:=(qS hf.right (d:=2 * ρ[j]+1) (by have:=(qr hc (List.getElem_mem hj)).2.2;omega)).2;rw [h3] at this;rw [this,h1]
   by_cases hij:i=j
   · -- one edge alone has no top
    exfalso;subst hij;have ha3:=(qr hc (List.getElem_mem hi)).2.2;have hd:2 * ρ[i]+1<2*es.length:=by omega
    have hall:∀d,d<2*es.length→vtx es d=w→d=2 * ρ[i]+1:=fun d hd2 hv=>by
     obtain ⟨k,hk⟩:=(kE hf.right hd hd2).2 (by rw [hwi,hv])
     have:∀k,qL (sig es rs) k (2 * ρ[i]+1)=2 * ρ[i]+1:=by
      intro k
      induction k with
      | zero=>rfl
      | succ k ihk=>show qL (sig es rs) k (sig es rs (2 * ρ[i]+1))=_;rw [h3];exact ihk
     rw [←hk,this]
    have hws:w≠s:=fun e=>hw.2.1 (by rw [e];exact hc.src)
    have hne:¬qe es w:=fun ⟨d,hd2,hv,he⟩=>by
     rw [hall d hd2 hv] at he;simp [ev] at he
    have ht:=(hf.tip_even hw.1 hws).2 hne;obtain ⟨g1,g2⟩:=hf.tip w hw.1 ht;have hgr:=hall _ g1 g2;unfold kv at h2;rw [hwi,ht,hgr] at h2;simp at h2
   obtain ⟨hlt,hbt⟩:=bM hf hc hi hj h2 h3 hij;obtain ⟨I,Is,Ip,Ik⟩:=hbt (by omega);have bi:=hb i hi hwi;have bj:=hb j hj h1
   -- the least vertex of the part between
   have hi1:i+1 < ρ.length:=by omega
   have hex:∃r,∃d,d<2*es.length ∧ ¬pl (vtx es d)∧I d∧L (vtx es d)=r:=by
    have h5:=(Ik (i+1) hi1).2 ⟨by omega,by omega⟩;obtain ⟨_,_,h6⟩:=qr hc (List.getElem_mem hi1);exact ⟨_,2 * ρ[i+1]+1,by omega,((hc.mem _).1 (List.getElem_mem hi1)).2.2,(Ip _ h6).1 h5,rfl⟩
   obtain ⟨r0,hr0⟩:=hex;obtain ⟨r,_,⟨d,hd,hdp,hdI,hdr⟩,hmin⟩:=xl (P:=fun r=>∃d,d<2*es.length ∧ ¬pl (vtx es d)∧I d∧L (vtx es d)=r) hr0;have hy:=xc hin hd
   have same:∀e,e<2*es.length→vtx es e=vtx es d→I e:=fun e he hv=>by
    obtain ⟨k,hk⟩:=(kE hf.right hd he).2 hv.symm
    have:∀(k x:Nat),x<2*es.length → ¬pl (vtx es x)→(I (qL (sig es rs) k x)↔I x):=by
     intro k
     induction k with
     | zero=>intro x _ _;exact Iff.rfl
     | succ k ihk=>
      intro x hx hpx;obtain ⟨k1,k2⟩:=qS hf.right hx
      show I (qL (sig es rs) k (sig es rs x))↔I x
      rw [ihk _ k1 (by rw [k2];exact hpx),Is x hx hpx]
    rw [←hk,this k d hd hdp];exact hdI
   have hfull:pB N es pl ρ (vtx es d):=by
    refine ⟨hy,hdp,fun e he hv=>(hc.mem e).2 ⟨he,?_,by rw [hv];exact hdp⟩⟩;apply Classical.byContradiction;intro hpt;have hI2:=(Ip e he).2 (same (2*e+1) (by omega) hv)
    have hlt2:L (vtx es (2*e))<L (vtx es (2*e+1)):=by
     obtain ⟨e1,_,_⟩:=xB hin he;have:=hL _ (List.getElem_mem he);rw [e1] at this;simpa using this
    rw [hv,hdr] at hlt2;exact hmin _ hlt2 ⟨2*e,by omega,hpt,hI2,rfl⟩
   refine ih (j-i-1) (by omega) (i+1) (vtx es d) hfull fun k hk hv=>?_;have h6:=(qr hc (List.getElem_mem hk)).2.2;have:=(Ik k hk).1 ((Ip _ h6).2 (same _ (by omega) hv));omega
/-- where not all are placed, one can be -/
theorem cE(hf:FitT N es rs o s gr)(hc:Cut N es rs o s pl ρ){x:Nat}(hx:x<N)(hp:¬pl x):∃w,iS N es rs gr pl ρ w:=by
 have hin:=hf.inN;have ho:=hf.good.ord;rw [Int.toNat_natCast] at ho;obtain ⟨L,hL⟩:=vI hin ho;obtain ⟨r,_,⟨w,hw,hwp,hwr⟩,hmin⟩:=xl (P:=fun r=>∃w,w<N ∧ ¬pl w∧L w=r) (a:=L x) ⟨x,hx,hp,rfl⟩;refine rO hf hc ρ.length 0 w ⟨hw,hwp,fun e he hv=>(hc.mem e).2 ⟨he,?_,by rw [hv];exact hwp⟩⟩ fun k hk _=>⟨by omega,by omega⟩;apply Classical.byContradiction;intro hpt
 have hlt2:L (vtx es (2*e))<L (vtx es (2*e+1)):=by
  obtain ⟨e1,_,_⟩:=xB hin he;have:=hL _ (List.getElem_mem he);rw [e1] at this;simpa using this
 rw [hv,hwr] at hlt2;exact hmin _ hlt2 ⟨vtx es (2*e),xc hin (by omega),hpt,rfl⟩
end
end Go.Proofs.YtneeknlhlkpnpaaGreat
/-
 Plain law: a state of the run as a cut of the map. Written by an AI agent.
-/
namespace Go.Proofs.YtneeknlhlkpnpaaGreat
open Go.RowKit
/-- the edges of a row -/
def eF(r:List Itm):List Nat:=(r.filter fun e=>decide (e.1 ≠ -1)).map fun e=>e.1.toNat
/-- a piece of what is kept of a list is what is kept of a piece -/
theorem al{α : Type}(p : α → Bool):∀(l X Y Z:List α),l.filter p=X++Y++Z→Y≠[] → ∃A E B,l=A++E++B∧A.filter p=X∧E.filter p=Y∧B.filter p=Z∧(∃e,E.head? = some e∧p e=true) ∧ ∃e,E.getLast? = some e∧p e=true:=by
 intro l X Y Z h hY
 -- the first part
 have split1:∀(l U V:List α),l.filter p=U++V→V≠[] → ∃A C,l=A++C∧A.filter p=U∧C.filter p=V ∧ ∃e,C.head? = some e∧p e=true:=by
  intro l
  induction l with
  | nil=>
   intro U V h hV;simp only [List.filter_nil] at h;exact absurd (List.append_eq_nil_iff.1 h.symm).2 hV
  | cons x l ih=>
   intro U V h hV;rw [List.filter_cons] at h
   cases hx:p x with
   | true=>
    rw [if_pos hx] at h
    cases U with
    | nil=>exact ⟨[],x::l,rfl,rfl,by rw [List.filter_cons,if_pos hx];exact h,x,rfl,hx⟩
    | cons u U=>
     rw [List.cons_append] at h;obtain ⟨h1,h2⟩:=List.cons.inj h;obtain ⟨A,C,e1,e2,e3,e4⟩:=ih U V h2 hV;exact ⟨x::A,C,by rw [e1];rfl,by rw [List.filter_cons,if_pos hx,e2,h1],e3,e4⟩
   | false=>
    rw [if_neg (by rw [hx];simp)] at h;obtain ⟨A,C,e1,e2,e3,e4⟩:=ih U V h hV;exact ⟨x::A,C,by rw [e1];rfl,by rw [List.filter_cons,if_neg (by rw [hx];simp),e2],e3,e4⟩
 rw [List.append_assoc] at h;obtain ⟨A,C,e1,e2,e3,hd,hd1,hd2⟩:=split1 l X (Y++Z) h (fun e=>hY (List.append_eq_nil_iff.1 e).1)
 -- the last part, from behind
 have hr:C.reverse.filter p=Z.reverse++Y.reverse:=by rw [List.filter_reverse,e3,List.reverse_append]
 obtain ⟨B,E,f1,f2,f3,lt,l1,l2⟩:=split1 C.reverse Z.reverse Y.reverse hr (fun e=>hY (List.reverse_eq_nil_iff.1 e));have hC:C=E.reverse++B.reverse:=by rw [←List.reverse_append,←f1,List.reverse_reverse]
 have hE:E.reverse.filter p=Y:=by rw [List.filter_reverse,f3,List.reverse_reverse]
 have hB:B.reverse.filter p=Z:=by rw [List.filter_reverse,f2,List.reverse_reverse]
 have hEne:E.reverse≠[]:=fun e=>hY (by rw [←hE,e];rfl);refine ⟨A,E.reverse,B.reverse,by rw [e1,hC,List.append_assoc],e2,hE,hB,⟨hd,?_,hd2⟩,lt,by rw [List.getLast?_reverse];exact l1,l2⟩;rw [hC] at hd1
 cases hq:E.reverse with
 | nil=>exact absurd hq hEne
 | cons x t=>rw [hq] at hd1;exact hd1
section
variable {N:Nat}{es:List (Int×Int)}{rs:List (List Int)}{o s:Nat}{gr:Nat→Nat}{outs:List (List Int)}{r:List Itm}{pl:List Int}{en:List (List Itm)}
/-- labels of the row's items -/
def itL(N:Nat)(es:List (Int×Int))(rs:List (List Int))(gr:Nat→Nat)(e:Itm):Nat:=if e.1 = -1 then jT N es rs (gr e.2.1.toNat) else jT N es rs (ot (2*e.1.toNat))
def itR(N:Nat)(es:List (Int×Int))(rs:List (List Int))(gr:Nat→Nat)(e:Itm):Nat:=if e.1 = -1 then jT N es rs (gr e.2.1.toNat) else jT N es rs (ot (2*e.1.toNat+1))
theorem nO(hI:SwI N es outs r pl en)(hO:vS N es outs){i:Nat}:i∈eF r↔i<es.length∧itE es i∈r:=by
 unfold eF;constructor
 ·intro h;obtain ⟨e,he,rfl⟩:=List.mem_map.1 h;obtain ⟨h1,h2⟩:=List.mem_filter.1 he;rcases hI.item hO (List.mem_append_left _ h1) with ⟨i,hi,_,rfl⟩ | ⟨x,_,_,rfl⟩
  ·exact ⟨hi,h1⟩
  ·simp at h2
 ·rintro ⟨_,h2⟩;exact List.mem_map.2 ⟨itE es i,List.mem_filter.2 ⟨h2,decide_eq_true fun e=>by have e:(i:Int) = -1:=e;omega⟩,rfl⟩
/-- a state is a cut -/
theorem mD(hf:FitT N es rs o s gr)(hO:vS N es outs)(hI:SwI N es outs r pl en)(hs:(s:Int)∈pl)(hch:chn (itL N es rs gr) (itR N es rs gr) o r o):Cut N es rs o s (fun x=>(x:Int)∈pl) (eF r):=by
 have hin:=hf.inN
 have hndr:(eF r).Nodup:=by
  have h1:=(List.nodup_append.1 (hI.nodup hO)).1;unfold eF;refine vL (h1.filter _) fun a ha b hb e=>?_;obtain ⟨a1,a2⟩:=List.mem_filter.1 ha;obtain ⟨b1,b2⟩:=List.mem_filter.1 hb;rcases hI.item hO (List.mem_append_left _ a1) with ⟨i,_,_,rfl⟩ | ⟨x,_,_,rfl⟩
  ·rcases hI.item hO (List.mem_append_left _ b1) with ⟨j,_,_,rfl⟩ | ⟨x,_,_,rfl⟩
   ·have:i=j:=by simpa [itE] using e
    rw [this]
   ·simp at b2
  ·simp at a2
 have hchE:chn (fun i=>jT N es rs (ot (2*i))) (fun i=>jT N es rs (ot (2*i+1))) o (eF r) o:=by
  unfold eF;refine KJ _ ?_ (Zv (p:=fun e:Itm=>decide (e.1 ≠ -1)) _ ?_ hch)
  ·intro e he;have h2:=(List.mem_filter.1 he).2;simp only [decide_eq_true_eq] at h2;unfold itL itR;rw [if_neg h2,if_neg h2];exact ⟨rfl,rfl⟩
  ·intro e _ hp;simp only [decide_eq_false_iff_not,Classical.not_not] at hp;unfold itL itR;rw [if_pos hp,if_pos hp]
 refine ⟨hndr,fun i=>?_,fun i hi hp=>?_,hs,fun a ha=>by have:=Yl hchE ha;exact this,fun a ha=>?_⟩
 ·rw [nO hI hO];constructor
  ·rintro ⟨hi,hm⟩;have h1:=zx hin hi;have h2:=vn hin hi;refine ⟨hi,?_,?_⟩
   ·rw [h1];rcases hI.item hO (List.mem_append_left _ hm) with ⟨j,_,h3,e⟩ | ⟨x,_,_,e⟩
    ·have:i=j:=by have h9:(i:Int)=(j:Int):=congrArg Prod.fst e;omega
     rw [this];exact h3
    ·have:=congrArg Prod.fst e;simp [itE] at this
   ·have:=hI.rowHead hO hm;rw [h2];exact this
  ·rintro ⟨hi,h3,h4⟩;have h1:=zx hin hi;have h2:=vn hin hi;refine ⟨hi,?_⟩;have hm:itE es i∈r++en.flatten:=hI.tot.mem_iff.2 ((dz hO hI.pln).2 (.inl ⟨i,hi,by rw [←h1];exact h3,rfl⟩));rcases List.mem_append.1 hm with hm | hm
   ·exact hm
   ·exfalso;obtain ⟨E,hE,hmE⟩:=List.mem_flatten.1 hm;obtain ⟨z,hz,rfl⟩:=List.getElem_of_mem hE;have hzN:z<N:=by rw [←hI.len];exact hz
    have eg:en.getD z []=en[z]:=by rw [List.getD_eq_getElem?_getD,List.getElem?_eq_getElem hz];rfl
    have hzp:(z:Int)∈pl:=by
     apply Classical.byContradiction;intro hn;have:=hI.un z hzN hn;rw [eg] at this;rw [this] at hmE
     cases hmE
    rcases hI.hd z hzN _ (by rw [eg];exact hmE) with h5 | h5
    ·have h5:(es.getD i (0,0)).2=(z:Int):=h5;exact h4 (by rw [h2,h5];exact hzp)
    ·have h5:(es.getD i (0,0)).2 = -1:=h5;omega
 ·have h1:=zx hin hi;have h2:=vn hin hi;rw [h1];exact (hI.ended hO (xc hin (by omega:2*i+1<2*es.length)) hp hi h2.symm).2
 ·obtain ⟨i,hi,rfl⟩:=List.getElem_of_mem ha;rw [YD hndr hi];exact (iF hi hchE).symm
end
end Go.Proofs.YtneeknlhlkpnpaaGreat
/-
 Plain law: the edges to a vertex that can be placed are a piece of the row, in the vertex' order. Written by an AI agent.
-/
namespace Go.Proofs.YtneeknlhlkpnpaaGreat
open Go.RowKit
section
variable {N:Nat}{es:List (Int×Int)}{rs:List (List Int)}{o s:Nat}{gr:Nat→Nat}{w:Nat}{D P Q:List Nat}
theorem NormR.len(h:NormR es rs gr w D P Q):D.length=P.length+Q.length:=by rw [h.parts];simp
theorem NormR.atP(h:NormR es rs gr w D P Q){k:Nat}(hk:k<P.length):D[k]'(by rw [h.len];omega)=2*P[k]:=by
 have:=h.parts;subst this;rw [List.getElem_append_left (by rw [List.length_map];exact hk),List.getElem_map]
theorem NormR.atQ(h:NormR es rs gr w D P Q){k:Nat}(hk:k<Q.length):D[P.length+(Q.length-1-k)]'(by rw [h.len];omega)=2*Q[k]+1:=by
 have:=h.parts;subst this;rw [List.getElem_append_right (by rw [List.length_map];omega),List.getElem_map,List.getElem_reverse];simp only [List.length_map];have e:Q.length-1-(P.length+(Q.length-1-k)-P.length)=k:=by omega
 simp only [e]
theorem NormR.ndQ(h:NormR es rs gr w D P Q):Q.Nodup:=by
 have h1:=h.nd;rw [h.parts] at h1;have h2:=(List.nodup_append.1 h1).2.1;rw [List.nodup_iff_pairwise_ne,List.pairwise_map] at h2;have h3:Q.reverse.Nodup:=List.nodup_iff_pairwise_ne.2 (h2.imp fun h e=>h (by rw [e]));exact (List.reverse_perm Q).nodup_iff.1 h3
theorem NormR.ndP(h:NormR es rs gr w D P Q):P.Nodup:=by
 have h1:=h.nd;rw [h.parts] at h1;have h2:=(List.nodup_append.1 h1).1;rw [List.nodup_iff_pairwise_ne,List.pairwise_map] at h2;exact List.nodup_iff_pairwise_ne.2 (h2.imp fun h e=>h (by rw [e]))
theorem NormR.memQ(h:NormR es rs gr w D P Q){a:Nat}:a∈Q↔a<es.length∧vtx es (2*a+1)=w:=by
 have h1:=h.mem (2*a+1);rw [h.parts] at h1;simp only [List.mem_append,List.mem_map,List.mem_reverse] at h1;constructor
 ·intro ha;have:=h1.1 (.inr ⟨a,ha,rfl⟩);exact ⟨by omega,this.2⟩
 ·rintro ⟨h2,h3⟩;rcases h1.2 ⟨by omega,h3⟩ with ⟨b,_,e⟩ | ⟨b,hb,e⟩
  ·omega
  ·rw [show a=b by omega];exact hb
theorem NormR.memP(h:NormR es rs gr w D P Q){a:Nat}:a∈P↔a<es.length∧vtx es (2*a)=w:=by
 have h1:=h.mem (2*a);rw [h.parts] at h1;simp only [List.mem_append,List.mem_map,List.mem_reverse] at h1;constructor
 ·intro ha;have:=h1.1 (.inl ⟨a,ha,rfl⟩);exact ⟨by omega,this.2⟩
 ·rintro ⟨h2,h3⟩;rcases h1.2 ⟨by omega,h3⟩ with ⟨b,hb,e⟩ | ⟨b,_,e⟩
  ·rw [show a=b by omega];exact hb
  ·omega
theorem NormR.sigQ(h:NormR es rs gr w D P Q){k:Nat}(hk:k+1<Q.length):sig es rs (2*Q[k+1]+1)=2*Q[k]+1:=by
 have h1:=h.next (P.length+(Q.length-1-(k+1))) (by rw [h.len];omega)
 rw [h.atQ hk] at h1;have h2:=h.atQ (k:=k) (by omega);have e:P.length+(Q.length-1-(k+1))+1=P.length+(Q.length-1-k):=by omega
 simp only [e] at h1;rw [h1,h2]
theorem NormR.topQ(h:NormR es rs gr w D P Q){k:Nat}(hk:k+1<Q.length):kv es rs gr (2*Q[k+1]+1)=true:=by
 have hm:=(h.memQ.1 (List.getElem_mem hk));unfold kv;rw [Bool.and_eq_true,decide_eq_true_eq];refine ⟨(vM _ _).2 ⟨by unfold ev;simp,by rw [h.sigQ hk];unfold ev;simp⟩,?_⟩;rw [hm.2]
 cases ht:zD es w with
 | false=>rfl
 | true=>
  rw [Bool.true_and,Bool.not_eq_true',decide_eq_false_iff_not];intro e;have h1:=h.great ht;have h2:=h.atQ (k:=0) (by omega);have hl:=h.len;rw [List.getLast?_eq_getElem?,List.getElem?_eq_getElem (by omega)] at h1;have h3:=Option.some.inj h1;have e2:P.length+(Q.length-1-0)=D.length-1:=by omega
  simp only [e2] at h2;rw [h2,e] at h3;have:=xZ h.ndQ (i:=0) (j:=k+1) (by omega) hk (by omega);omega
/-- the piece -/
theorem fL{pl:Nat→Prop}{ρ : List Nat}(_hn : ρ.Nodup)(h:NormR es rs gr w D P Q)(hg:iS N es rs gr pl ρ w)(hQ:Q≠[]):∃X Z,ρ = X++Q++Z:=by
 have hl:=List.length_pos_iff.2 hQ
 have hin:∀k (hk:k<Q.length),Q[k] ∈ ρ :=fun k hk=>by
  obtain ⟨h1,h2⟩:=h.memQ.1 (List.getElem_mem hk);exact hg.1.2.2 _ h1 h2
 obtain ⟨i0,hi0,e0⟩:=List.getElem_of_mem (hin 0 hl)
 have key:∀k (hk:k<Q.length),∃h:i0+k < ρ.length,ρ[i0+k]=Q[k]:=by
  intro k
  induction k with
  | zero=>intro _;exact ⟨hi0,e0⟩
  | succ k ih=>
   intro hk;obtain ⟨h1,h2⟩:=ih (by omega);obtain ⟨j,hj,ej⟩:=List.getElem_of_mem (hin (k+1) hk);have:=hg.2 (i0+k) j h1 hj (by rw [ej];exact (h.memQ.1 (List.getElem_mem hk)).2) (by rw [ej];exact h.topQ hk) (by rw [ej,h2];exact h.sigQ hk);subst this;exact ⟨hj,ej⟩
 obtain ⟨hlast,_⟩:=key (Q.length-1) (by omega);refine ⟨ρ.take i0,ρ.drop (i0+Q.length),?_⟩
 have hmid:(ρ.drop i0).take Q.length=Q:=by
  apply List.ext_getElem
  ·rw [List.length_take,List.length_drop];omega
  ·intro k h1 h2;rw [List.getElem_take,List.getElem_drop];exact (key k h2).2
 have h1:=List.take_append_drop i0 ρ;have h2:=List.take_append_drop Q.length (ρ.drop i0);rw [hmid,List.drop_drop] at h2;rw [List.append_assoc,h2];exact h1.symm
end
end Go.Proofs.YtneeknlhlkpnpaaGreat
/-
 Plain law: a vertex' ups, read from its list: those behind one that goes to it. Written by an AI agent.
-/
namespace Go.Proofs.YtneeknlhlkpnpaaGreat
open Go.RowKit
def evI(a:Int):Bool:=decide (a%2=0)
/-- ups begin here -/
def eD(l:List Int)(i:Nat):Bool:=evI (l.getD i 0) && !evI (l.getD ((i+l.length-1)%l.length) 0)
def Wi(l:List Int):List Int:=match (List.range l.length).find? (eD l) with
 | none=>[]
 | some i=>((rot l i).takeWhile evI).map (· / 2)
def gj(l:List Int):List Int:=l.map (· / 2)
theorem dZ(a:Nat):evI ((2*a:Nat):Int)=true:=by unfold evI;simp
theorem aT(a:Nat):evI ((2*a+1:Nat):Int)=false:=by unfold evI;simp
theorem fC{l:List Int}(h:∀i,i<l.length→eD l i=false):Wi l=[]:=by
 unfold Wi;rw [List.find?_eq_none.2 fun i hi=>by rw [h i (List.mem_range.1 hi)];simp]
theorem lR{l:List Int}{b:Bool}(h:∀a∈l,evI a=b):Wi l=[]:=by
 refine fC fun i hi=>?_;have h1:=h l[i] (List.getElem_mem _);have h2:=h (l[(i+l.length-1)%l.length]'(Nat.mod_lt _ (by omega))) (List.getElem_mem _);unfold eD;rw [List.getD_eq_getElem?_getD,List.getElem?_eq_getElem hi,List.getD_eq_getElem?_getD,List.getElem?_eq_getElem (Nat.mod_lt _ (by omega)),Option.getD_some,Option.getD_some,h1,h2]
 cases b<;>rfl
theorem Wl{P Q:List Nat}:(((P.map (fun a=>2*a)++Q.map fun a=>2*a+1).map fun d:Nat=>(d:Int)).takeWhile evI)=P.map fun a:Nat=>((2*a:Nat):Int):=by
 rw [List.map_append,List.map_map,List.map_map]
 rw [List.takeWhile_append_of_pos (fun a ha=>by
  obtain ⟨b,_,rfl⟩:=List.mem_map.1 ha
  exact dZ b)]
 have:(Q.map ((fun d:Nat=>(d:Int)) ∘ fun a=>2*a+1)).takeWhile evI=[]:=by
  cases Q with
  | nil=>rfl
  | cons q Q=>rw [List.map_cons,List.takeWhile_cons_of_neg (by show ¬evI ((2*q+1:Nat):Int)=true;rw [aT];simp)]
 rw [this,List.append_nil];rfl
theorem og(P:List Nat):(P.map fun a:Nat=>((2*a:Nat):Int)).map (· / 2)=P.map fun a:Nat=>(a:Int):=by
 rw [List.map_map];apply List.map_congr_left;intro a _
 show ((2*a:Nat):Int)/2=a
 omega
theorem fB{l:List Int}{j:Nat}{P Q:List Nat}(hj:rot l j=(P.map (fun a=>2*a)++Q.map fun a=>2*a+1).map fun d:Nat=>(d:Int))(hP:P≠[])(hQ:Q≠[]):Wi l=P.map fun a:Nat=>(a:Int):=by
 obtain ⟨D,hD⟩:∃D,D=P.map (fun a=>2*a)++Q.map fun a=>2*a+1:=⟨_,rfl⟩;have hDl:D.length=P.length+Q.length:=by rw [hD];simp
 have hPl:=List.length_pos_iff.2 hP;have hQl:=List.length_pos_iff.2 hQ;rw [←hD] at hj;have hl:l.length=D.length:=by rw [←qG l j,hj,List.length_map]
 obtain ⟨i,hi,ei⟩:∃i,i<l.length∧rot l i=D.map fun d:Nat=>(d:Int):=by
  by_cases hjl:j<l.length
  ·exact ⟨j,hjl,hj⟩
  ·exact ⟨0,by omega,by rw [xY,←hj,uJ (by omega)]⟩
 have hev:∀k (hk:k<D.length),evI ((D[k]:Nat):Int)=decide (k<P.length):=fun k hk=>by
  by_cases h:k<P.length
  ·rw [decide_eq_true h];simp only [hD];rw [List.getElem_append_left (by simpa using h),List.getElem_map];exact dZ _
  ·rw [decide_eq_false h];simp only [hD];rw [List.getElem_append_right (by simpa using h),List.getElem_map];exact aT _
 have hg:∀k (hk:k<D.length),l.getD ((i+k)%l.length) 0=((D[k]:Nat):Int):=fun k hk=>by
  rw [List.getD_eq_getElem?_getD,List.getElem?_eq_getElem (Nat.mod_lt _ (by omega)),Option.getD_some,←Jp hi (by omega)];simp only [ei,List.getElem_map]
 -- each place is one of D's
 have hat:∀k,k<D.length→eD l ((i+k)%l.length)=(decide (k<P.length) && !decide ((k+D.length-1)%D.length<P.length)):=fun k hk=>by
  unfold eD
  have e:((i+k)%l.length+l.length-1)%l.length=(i+(k+D.length-1)%D.length)%l.length:=by
   rw [←hl,show (i+k)%l.length+l.length-1=(i+k)%l.length+(l.length-1) by omega,Nat.mod_add_mod,Nat.add_mod_mod];congr 1;omega
  rw [e,hg k hk,hg _ (Nat.mod_lt _ (by omega)),hev _ hk,hev _ (Nat.mod_lt _ (by omega))]
 have hi0:eD l i=true:=by
  have:=hat 0 (by omega);rw [Nat.add_zero,Nat.mod_eq_of_lt hi] at this;rw [this,decide_eq_true hPl,Nat.zero_add,Nat.mod_eq_of_lt (by omega),decide_eq_false (by omega)];rfl
 have hone:∀t,t<l.length→eD l t=true→t=i:=fun t ht h=>by
  obtain ⟨k,hk,e⟩:∃k,k<D.length∧t=(i+k)%l.length:=by
   by_cases h1:i≤t
   ·exact ⟨t-i,by omega,by rw [show i+(t-i)=t by omega,Nat.mod_eq_of_lt ht]⟩
   ·exact ⟨t+l.length-i,by omega,by rw [show i+(t+l.length-i)=t+l.length by omega,Nat.add_mod_right,Nat.mod_eq_of_lt ht]⟩
  rw [e,hat k hk] at h;simp only [Bool.and_eq_true,decide_eq_true_eq,Bool.not_eq_true',decide_eq_false_iff_not] at h;by_cases hk0:k=0
  ·rw [e,hk0,Nat.add_zero,Nat.mod_eq_of_lt hi]
  ·exfalso;apply h.2;rw [show k+D.length-1=(k-1)+D.length by omega,Nat.add_mod_right,Nat.mod_eq_of_lt (by omega)];omega
 have hf:(List.range l.length).find? (eD l)=some i:=by
  cases hq:(List.range l.length).find? (eD l) with
  | none=>
   have:=List.find?_eq_none.1 hq i (List.mem_range.2 hi);exact absurd hi0 this
  | some t=>
   have h1:=List.find?_some hq;have h2:=List.mem_range.1 (List.mem_of_find?_eq_some hq);rw [hone t h2 h1]
 unfold Wi;rw [hf]
 show ((rot l i).takeWhile evI).map (· / 2)=_
 rw [ei,hD,Wl,og]
end Go.Proofs.YtneeknlhlkpnpaaGreat
/-
 Plain law: two neighbours change places: faces differ by at most two. Written by an AI agent.
-/
namespace Go.Proofs.YtneeknlhlkpnpaaGreat
open Go.RowKit
section
variable {n:Int}{es:List (Int×Int)}{rs:List (List Int)}{x i k:Nat}
end
end Go.Proofs.YtneeknlhlkpnpaaGreat
/-
 Plain law of mirrored rotations: as many faces, of as many half edges, and as many handles. Written by an AI agent.
-/
namespace Go.Proofs.YtneeknlhlkpnpaaGreat
open Go.RowKit
section
variable {N:Nat}{f g α : Nat→Nat}
open Classical in
end
section
variable {n:Int}{es:List (Int×Int)}{rs:List (List Int)}
theorem ni{xs ys:List (List Int)}(hl:xs.length=ys.length)(h:∀i (h1:i<xs.length) (h2:i<ys.length),zR xs[i] ys[i]=true):Jg xs ys=true:=by
 unfold Jg;rw [decide_eq_true hl,Bool.true_and,List.all_eq_true];intro i hi;have hi:=List.mem_range.1 hi;rw [zM hi,zM (show i<ys.length by omega)];exact h i hi (by omega)
end
end Go.Proofs.YtneeknlhlkpnpaaGreat
/-
 slices.Clone, slices.Reverse, rotation.Mirror: what they compute. Written by an AI agent.
-/
namespace Go.Proofs.YtneeknlhlkpnpaaGreat
open Go.RowKit
end Go.Proofs.YtneeknlhlkpnpaaGreat
/-
 Plain law: lists begun elsewhere tell the same faces, angles, kinds. Written by an AI agent.
-/
namespace Go.Proofs.YtneeknlhlkpnpaaGreat
open Go.RowKit
def qZ(rs ts:List (List Int)):Prop:=ts.length=rs.length ∧ ∀x,x<rs.length → ∃i,rot (rs.getD x []) i=ts.getD x []
theorem fd{rs ts:List (List Int)}(h:Jg rs ts=true):qZ rs ts:=by
 unfold Jg at h;simp only [Bool.and_eq_true,decide_eq_true_eq,List.all_eq_true] at h;refine ⟨h.1.symm,fun x hx=>?_⟩;have h1:=h.2 x (List.mem_range.2 hx);unfold zR at h1;simp only [Bool.or_eq_true,Bool.and_eq_true,decide_eq_true_eq,List.any_eq_true] at h1;rcases h1 with ⟨i,_,h2⟩ | ⟨h2,h3⟩
 ·exact ⟨i,h2⟩
 ·refine ⟨0,?_⟩;rw [xY,List.length_eq_zero_iff.1 h2,List.length_eq_zero_iff.1 h3]
theorem iX{a b:List Int}{i:Nat}(h:rot a i=b):zR a b=true:=by
 by_cases h0:a.length=0
 ·have e:=List.length_eq_zero_iff.1 h0;subst e;have:b=[]:=by rw [←h];unfold rot;simp
  subst this;rfl
 ·by_cases hi:i<a.length
  ·exact Zk hi h
  ·rw [uJ (by omega)] at h;exact Zk (i:=0) (by omega) (by rw [xY];exact h)
theorem eY{rs ts:List (List Int)}(h:qZ rs ts):Jg rs ts=true:=
 ni h.1.symm fun x h1 h2=>by
  obtain ⟨i,e⟩:=h.2 x h1;rw [zM h1,zM h2] at e;exact iX e
theorem qZ.symm{rs ts:List (List Int)}(h:qZ rs ts):qZ ts rs:=⟨h.1.symm,fun x hx=>by
 obtain ⟨i,e⟩:=h.2 x (by rw [←h.1];exact hx);obtain ⟨j,e2⟩:=nu (rs.getD x []) i
 exact ⟨j,by rw [←e,e2]⟩⟩
theorem qZ.trans{rs ts us:List (List Int)}(h:qZ rs ts)(k:qZ ts us):qZ rs us:=⟨k.1.trans h.1,fun x hx=>by
 obtain ⟨i,e⟩:=h.2 x hx;obtain ⟨j,e2⟩:=k.2 x (by rw [h.1];exact hx);rw [←e] at e2;obtain ⟨t,e3⟩:=rd (rs.getD x []) i j
 exact ⟨t,by rw [←e3,e2]⟩⟩
section
variable {n:Int}{es:List (Int×Int)}{rs ts:List (List Int)}
theorem qZ.right(h:qZ rs ts)(hR:RightP n es rs):RightP n es ts:=by
 have hr:∀x (hx:x<ts.length),∃(hx':x<rs.length),∃i,ts[x]=rot rs[x] i:=fun x hx=>by
  have hx':x<rs.length:=by rw [←h.1];exact hx
  obtain ⟨i,e⟩:=h.2 x hx';rw [zM hx',zM hx] at e;exact ⟨hx',i,e.symm⟩
 refine ⟨hR.may,by rw [h.1];exact hR.len,fun x hx a ha=>?_,fun x hx=>?_,fun d hd=>?_⟩
 ·obtain ⟨hx',i,e⟩:=hr x hx;rw [e,VC] at ha;exact hR.at_ x hx' a ha
 ·obtain ⟨hx',i,e⟩:=hr x hx;rw [e];unfold rot;have:=hR.nd x hx';rw [←List.take_append_drop i rs[x]] at this;exact (List.perm_append_comm.nodup_iff).1 this
 ·obtain ⟨x,hx,hm⟩:=hR.cov d hd;have hx':x<ts.length:=by rw [h.1];exact hx
  obtain ⟨_,i,e⟩:=hr x hx';exact ⟨x,hx',by rw [e,VC];exact hm⟩
theorem qZ.nexts(h:qZ rs ts)(hR:RightP n es rs):vz es.length ts=vz es.length rs:=by
 have hT:=h.right hR;apply List.ext_getElem
 ·unfold vz;rw [vJ,vJ]
 ·intro d h1 h2;have hd:d<2*es.length:=by unfold vz at h1;rw [vJ] at h1;exact h1
  obtain ⟨y,j,hy,hj,e,hv⟩:=hT.pos (d:=ot d) (vA hd);have hy':y<rs.length:=by rw [←h.1];exact hy
  obtain ⟨i,er⟩:=h.2 y hy';rw [zM hy',zM hy] at er;have e1:=UL hT hy hj;rw [e,Int.toNat_natCast,kI] at e1;have hlen:rs[y].length=ts[y].length:=by rw [←er,qG]
  -- where it stands in the other list
  obtain ⟨i',hi',er'⟩:∃i',i'<rs[y].length∧rot rs[y] i'=ts[y]:=by
   by_cases hi:i<rs[y].length
   ·exact ⟨i,hi,er⟩
   ·exact ⟨0,by omega,by rw [xY,←er,uJ (by omega)]⟩
  have hg:∀k (hk:k<ts[y].length),ts[y][k]=rs[y][(i'+k)%rs[y].length]'(Nat.mod_lt _ (by omega)):=fun k hk=>by
   rw [←Jp hi' (by omega)];simp only [er']
  have e3:=hg j hj;have e2:=UL hR hy' (i:=(i'+j)%rs[y].length) (Nat.mod_lt _ (by omega));rw [←e3,e,Int.toNat_natCast,kI] at e2;rw [List.getD_eq_getElem?_getD,List.getElem?_eq_getElem h1,Option.getD_some] at e1;rw [List.getD_eq_getElem?_getD,List.getElem?_eq_getElem h2,Option.getD_some] at e2;rw [e1,e2,hg _ (Nat.mod_lt _ (by omega))]
  have e4:(i'+(j+1)%ts[y].length)%rs[y].length=((i'+j)%rs[y].length+1)%rs[y].length:=by
   rw [←hlen,Nat.add_mod,Nat.mod_mod,←Nat.add_mod,Nat.add_mod ((i'+j)%rs[y].length),Nat.mod_mod,←Nat.add_mod,Nat.add_assoc]
  simp only [e4]
theorem qZ.faces(h:qZ rs ts)(hR:RightP n es rs):jo n es ts=jo n es rs:=by
 unfold jo;rw [if_pos (zh.2 hR),if_pos (zh.2 (h.right hR)),h.nexts hR]
theorem qZ.sig_e(h:qZ rs ts)(hR:RightP n es rs):sig es ts=sig es rs:=by
 funext d
 unfold sig nxf;rw [h.nexts hR]
theorem qZ.angF_e(h:qZ rs ts)(hR:RightP n es rs):jT n es ts=jT n es rs:=by
 funext d
 unfold jT;rw [h.faces hR]
theorem qZ.angK_e(h:qZ rs ts)(hR:RightP n es rs):zt es ts=zt es rs:=by
 funext d
 unfold zt;rw [h.sig_e hR]
theorem qZ.gen_e(h:qZ rs ts)(hR:RightP n es rs):gen n es ts=gen n es rs:=by
 have hi:iso ts=iso rs:=by
  unfold iso;rw [h.1];apply jP;intro x hx;obtain ⟨i,e⟩:=h.2 x hx;rw [←e,qG]
 unfold gen;rw [h.faces hR,hi,h.1]
theorem qZ.bim(h:qZ rs ts)(hR:RightP n es rs):VU ts=VU rs:=by
 have e:(∀x,x<ts.length→YB es ts x≤2) ↔ ∀x,x<rs.length→YB es rs x≤2:=by
  unfold YB;rw [h.angK_e hR,h.1]
 rw [Bool.eq_iff_iff,VJ (h.right hR),VJ hR,e]
theorem qZ.fit(h:qZ rs ts)(hR:RightP n es rs)(outer:Int)(great:List Int):YO n es ts outer great=YO n es rs outer great:=by
 have e1:xp n es ts=xp n es rs:=by
  unfold xp;rw [h.gen_e hR,h.1,zh.2 hR,zh.2 (h.right hR)]
 have e2:∀room k,ZG n es ts great room k=ZG n es rs great room k:=fun room k=>by
  unfold ZG
  have:Qu n es ts great=Qu n es rs great:=by
   funext st x
   unfold Qu;rw [h.angF_e hR]
  rw [this]
 have e3:xD n es ts outer great=xD n es rs outer great:=by
  unfold xD vr;rw [h.faces hR,h.angF_e hR,h.angK_e hR,h.1];simp only [e2]
 unfold YO;rw [e1,e3,h.bim hR]
end
end Go.Proofs.YtneeknlhlkpnpaaGreat
/-
 Plain law: the plan that a rotation tells: each vertex' ups from its list; the source's begun anywhere. Written by an AI agent.
-/
namespace Go.Proofs.YtneeknlhlkpnpaaGreat
open Go.RowKit
def outsK(rs:List (List Int))(s k:Nat):List (List Int):=(rs.map Wi).set s (rot (gj (rs.getD s [])) k)
theorem af(rs:List (List Int))(s k:Nat):(outsK rs s k).length=rs.length:=by unfold outsK;simp
theorem lS{rs:List (List Int)}{s:Nat}(k:Nat)(hs:s<rs.length):(outsK rs s k).getD s []=rot (gj (rs.getD s [])) k:=by
 unfold outsK;rw [vf (by simpa using hs),if_pos rfl]
theorem UJ{rs:List (List Int)}{s x:Nat}(k:Nat)(hs:s<rs.length)(hx:x<rs.length)(hxs:x≠s):(outsK rs s k).getD x []=Wi (rs.getD x []):=by
 unfold outsK;rw [vf (by simpa using hs),if_neg hxs,List.getD_eq_getElem?_getD,List.getElem?_map,List.getElem?_eq_getElem hx,List.getD_eq_getElem?_getD,List.getElem?_eq_getElem hx];rfl
section
variable {N:Nat}{es:List (Int×Int)}{rs:List (List Int)}{s:Nat}
end
section
variable {N:Nat}{es:List (Int×Int)}{ord:List Int}{outs rs:List (List Int)}{en:List (List Itm)}{l:List Nat}{rF:List Itm}{s:Nat}
theorem PlanR.downs(h:PlanR N es ord outs en l rF s){x:Nat}(hx:x<N):∃Q:List Nat,inH (en.getD x []).reverse=Q.map fun a=>((2*a+1:Nat):Int):=by
 refine ⟨((en.getD x []).reverse.filter fun e=>decide (e.1 ≠ -1)).map fun e=>e.1.toNat,?_⟩;unfold inH;rw [List.map_map];apply List.map_congr_left;intro e he;obtain ⟨h1,h2⟩:=List.mem_filter.1 he;have h2:=of_decide_eq_true h2;rcases h.item hx (List.mem_reverse.1 h1) with ⟨i,_,_,rfl⟩ | h3
 ·show 2*(i:Int)+1=((2*(i:Int).toNat+1:Nat):Int)
  rw [Int.toNat_natCast];omega
 ·exact absurd h3 h2
theorem PlanR.srcIn(h:PlanR N es ord outs en l rF s):inH (en.getD s []).reverse=[]:=by
 unfold inH;rw [List.filter_eq_nil_iff.2,List.map_nil];intro e he;rcases h.item h.sN (List.mem_reverse.1 he) with ⟨i,hi,h1,_⟩ | h3
 ·exact absurd h1 (yN.1 h.sin i hi)
 ·rw [h3];simp
theorem PlanR.ups(h:PlanR N es ord outs en l rF s){x:Nat}(hx:x<N):outs.getD x []=((outs.getD x []).map Int.toNat).map fun a:Nat=>(a:Int):=by
 rw [List.map_map]
 conv=>lhs;rw [←List.map_id (outs.getD x [])]
 apply List.map_congr_left;intro a ha;obtain ⟨i,rfl,_⟩:=(h.outm hx).1 ha;rfl
/-- the edges of a plan are told by its turn, wherever its lists begin -/
theorem PlanR.outsK(h:PlanR N es ord outs en l rF s)(hT:qZ (jQ N outs en) rs):∃k,(k<(gj (rs.getD s [])).length∨k=0)∧outsK rs s k=outs:=by
 have hl:rs.length=N:=by rw [hT.1,qh]
 have hrow:∀x,x<N → ∃i,rot (rs.getD x []) i=yZ (outs.getD x []) (en.getD x []):=fun x hx=>by
  obtain ⟨i,e⟩:=hT.symm.2 x (by omega);exact ⟨i,by rw [e,uH hx]⟩
 -- the source's
 obtain ⟨i0,e0⟩:=hrow s h.sN
 have e1:rot (gj (rs.getD s [])) i0=outs.getD s []:=by
  unfold gj;rw [ib,e0];unfold yZ;rw [h.srcIn,List.append_nil];unfold Qy;rw [List.map_map]
  conv=>rhs;rw [←List.map_id (outs.getD s [])]
  apply List.map_congr_left;intro a _
  show (2*a)/2=a
  omega
 obtain ⟨k,hk,ek⟩:∃k,(k<(gj (rs.getD s [])).length∨k=0)∧rot (gj (rs.getD s [])) k=outs.getD s []:=by
  by_cases hi:i0<(gj (rs.getD s [])).length
  ·exact ⟨i0,.inl hi,e1⟩
  ·exact ⟨0,.inr rfl,by rw [xY,←e1,uJ (by omega)]⟩
 refine ⟨k,hk,?_⟩;have hlen:(Go.Proofs.YtneeknlhlkpnpaaGreat.outsK rs s k).length=N:=by rw [af,hl]
 have hg:∀x,x<N→(Go.Proofs.YtneeknlhlkpnpaaGreat.outsK rs s k).getD x []=outs.getD x []:=fun x hx=>by
  by_cases hxs:x=s
  ·subst hxs;rw [lS k (by omega),ek]
  ·rw [UJ k (by have:=h.sN;omega) (by omega) hxs];obtain ⟨i,e⟩:=hrow x hx;obtain ⟨Q,hQ⟩:=h.downs hx;have hU:=h.ups hx;obtain ⟨P,hP⟩:∃P,P=(outs.getD x []).map Int.toNat:=⟨_,rfl⟩;rw [←hP] at hU
   have er:rot (rs.getD x []) i=(P.map (fun a=>2*a)++Q.map fun a=>2*a+1).map fun d:Nat=>(d:Int):=by
    rw [e];unfold yZ Qy;rw [hQ,hU,List.map_append,List.map_map,List.map_map,List.map_map];congr 1
   have hQn:Q≠[]:=fun e=>by
    have h0:inD es x≠0:=fun h0=>hxs (h.src x hx h0);have h0:¬ ∀i,i<es.length→(es.getD i (0,0)).2≠(x:Int):=fun h1=>h0 (yN.2 h1);obtain ⟨i,hi,he⟩:∃i,i<es.length∧(es.getD i (0,0)).2=(x:Int):=Classical.byContradiction fun hno=>h0 fun i hi e=>hno ⟨i,hi,e⟩;have h1:=h.edge hx hi he
    have h2:(2*(i:Int)+1)∈inH (en.getD x []).reverse:=by
     unfold inH;refine List.mem_map.2 ⟨itE es i,List.mem_filter.2 ⟨List.mem_reverse.2 h1,?_⟩,rfl⟩;refine decide_eq_true ?_
     show (i:Int) ≠ -1
     omega
    rw [hQ,e] at h2
    cases h2
   by_cases hPn:P=[]
   ·rw [hU,hPn];refine lR (b:=false) fun a ha=>?_;have ha:a∈rot (rs.getD x []) i:=VC.2 ha;rw [er,hPn,List.map_nil,List.nil_append,List.map_map] at ha;obtain ⟨b,_,rfl⟩:=List.mem_map.1 ha;exact aT b
   ·rw [fB er hPn hQn,←hU]
 apply List.ext_getElem
 ·rw [hlen,h.outl]
 ·intro x h1 h2;have:=hg x (by omega);rw [List.getD_eq_getElem?_getD,List.getElem?_eq_getElem h1,List.getD_eq_getElem?_getD,List.getElem?_eq_getElem h2] at this;exact this
end
end Go.Proofs.YtneeknlhlkpnpaaGreat
