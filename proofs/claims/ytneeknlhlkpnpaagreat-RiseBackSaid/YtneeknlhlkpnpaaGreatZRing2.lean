import Derived.Test.YtneeknlhlkpnpaaGreatZFlat3
import Derived.Test.YtneeknlhlkpnpaaGreatZAng1
import Derived.Test.YtneeknlhlkpnpaaGreatZEul
import Derived.Test.YtneeknlhlkpnpaaGreatZAng0
/-
 Plain law: the contracted map: what is constant, what hangs together, how many vertices and faces. Written by an AI agent.
-/
namespace Go.Proofs.YtneeknlhlkpnpaaGreat
open Go.RowKit
section
variable {N:Nat}{es:List (Int×Int)}{rs:List (List Int)}{o s:Nat}{gr:Nat→Nat}{pl:Nat→Prop}{ρ : List Nat}
theorem FitT.len(h:FitT N es rs o s gr):rs.length=N:=by have:=h.right.len;omega
theorem FitT.inN(h:FitT N es rs o s gr):InN N es:=by have:=yV h.right;rwa [h.len] at this
theorem uS(hc:Cut N es rs o s pl ρ){d:Nat}(hd:d<2*es.length)(h:zf es pl d):pl (vtx es d):=by
 unfold zf at h;rcases Nat.mod_two_eq_zero_or_one d with e | e
 ·have:=hc.down (d/2) (by omega) h
  rwa [show 2*(d/2)=d by omega] at this
 ·rwa [show 2*(d/2)+1=d by omega] at h
theorem Yl(d:Nat):zf es pl (ot d)↔zf es pl d:=by
 have:ot d/2=d/2:=by unfold ot;split<;>omega
 unfold zf;rw [this]
theorem Vx(hc:Cut N es rs o s pl ρ){d:Nat}(hd:d<2*es.length)(h:pl (vtx es d))(h2:¬(d%2=0∧d/2 ∈ ρ)):zf es pl d:=by
 unfold zf;rcases Nat.mod_two_eq_zero_or_one d with e | e
 ·apply Classical.byContradiction;intro hn;exact h2 ⟨e,(hc.mem _).2 ⟨by omega,by rwa [show 2*(d/2)=d by omega],hn⟩⟩
 ·rwa [show 2*(d/2)+1=d by omega]
theorem qq(hc:Cut N es rs o s pl ρ){a:Nat}(ha:a ∈ ρ):¬zf es pl (2*a)∧pl (vtx es (2*a))∧a<es.length:=by
 obtain ⟨h1,h2,h3⟩:=(hc.mem a).1 ha;refine ⟨fun h=>h3 ?_,h2,h1⟩;unfold zf at h
 rwa [show 2*a/2=a by omega] at h
theorem ik{d:Nat}(h:zf es pl d):Vb N es pl d=N+1+d:=by unfold Vb;rw [if_pos (jB.2 h)]
theorem kr{d:Nat}(h:¬zf es pl d)(h2:pl (vtx es d)):Vb N es pl d=N:=by unfold Vb;rw [if_neg (by rw [jB];exact h),if_pos (jB.2 h2)]
theorem Yj{d:Nat}(h:¬zf es pl d)(h2:¬pl (vtx es d)):Vb N es pl d=vtx es d:=by unfold Vb;rw [if_neg (by rw [jB];exact h),if_neg (by rw [jB];exact h2)]
theorem Vw{d:Nat}(h:zf es pl d):Gz N es rs pl d=(jE N es rs).length+d/2:=by unfold Gz;rw [if_pos (jB.2 h)]
theorem vV{d:Nat}(h:¬zf es pl d):Gz N es rs pl d=jY N es rs (ot d):=by unfold Gz;rw [if_neg (by rw [jB];exact h)]
theorem Wf(hR:RightP N es rs)(hc:Cut N es rs o s pl ρ){d:Nat}(hd:d<2*es.length):Vb N es pl (sP es rs pl ρ d)=Vb N es pl d:=by
 rcases uO (es:=es) d pl ρ with h | ⟨_,a,ha,rfl⟩ | ⟨h,h2⟩
 ·rw [YW h];obtain ⟨k1,k2⟩:=yl hR hd;have n1:¬zf es pl d:=fun e=>h (uS hc hd e);have n2:¬zf es pl (sig es rs d):=fun e=>h (by have:=uS hc k1 e;rwa [k2] at this);rw [Yj n1 h,Yj n2 (by rw [k2];exact h),k2]
 ·rw [ux hc ha];obtain ⟨a1,a2,_⟩:=qq hc ha;obtain ⟨b1,b2,_⟩:=qq hc (uQ hc.nd ha);rw [kr a1 a2,kr b1 b2]
 ·rw [uP h h2]
theorem Wg(hR:RightP N es rs)(hc:Cut N es rs o s pl ρ){d:Nat}(hd:d<2*es.length):Gz N es rs pl (sP es rs pl ρ (ot d))=Gz N es rs pl d:=by
 have ho:=xY hd;rcases uO (es:=es) (ot d) pl ρ with h | ⟨_,a,ha,e⟩ | ⟨h,h2⟩
 ·rw [YW h];obtain ⟨k1,k2⟩:=yl hR ho;have n1:¬zf es pl d:=fun e=>h (uS hc ho ((Yl d).2 e));have n2:¬zf es pl (sig es rs (ot d)):=fun e=>h (by have:=uS hc k1 e;rwa [k2] at this);rw [vV n1,vV n2,zT hR ho]
 ·rw [e,ux hc ha];obtain ⟨a1,_,a3⟩:=qq hc ha;obtain ⟨b1,_,_⟩:=qq hc (uQ hc.nd ha);have hde:d=2*a+1:=by rw [←Qf d,e,kT]
  have n1:¬zf es pl d:=fun h=>a1 (by rw [←e];exact (Yl d).2 h);rw [vV n1,vV b1,hde,hc.ring a ha]
 ·rw [uP h h2];have n1:=Vx hc ho h h2;have n2:=(Yl d).1 n1;rw [Vw n1,Vw n2];have:ot d/2=d/2:=by unfold ot;split<;>omega
  rw [this]
theorem dX(hf:FitT N es rs o s gr)(hc:Cut N es rs o s pl ρ){T:Nat→Nat→Prop}(hT:Equ (2*es.length) T)(h1:∀d,d<2*es.length → ¬pl (vtx es d)→T d (sig es rs d))(h2:∀i,i<es.length→T (2*i) (2*i+1)) :
  ∀d,d<2*es.length → ¬zf es pl d → ∃a ∈ ρ,T d (2*a):=by
 have hin:=hf.inN;have ho:=hf.good.ord;rw [Int.toNat_natCast] at ho;obtain ⟨L,hL⟩:=xt hin ho
 have key:∀r d,d<2*es.length→L (vtx es d)=r → ¬pl (vtx es d) → ∃a ∈ ρ,T d (2*a):=by
  intro r
  induction r using Nat.strongRecOn with
  | _ r ih=>
   intro d hd hr hp;have hv:=xS hin hd;have hnz:inD es (vtx es d)≠0:=fun e=>hp (by rw [hf.src _ hv e];exact hc.src);rw [Ne,zn] at hnz;obtain ⟨i,hi,hie⟩:∃i,i<es.length∧(es.getD i (0,0)).2=(vtx es d:Int):=Classical.byContradiction fun hno=>hnz fun i hi e=>hno ⟨i,hi,e⟩;have hvi:vtx es (2*i+1)=vtx es d:=by have:=zY hin hi;omega
   obtain ⟨j,hj⟩:=(Yh hf.right hd (by omega:2*i+1<2*es.length)).2 hvi.symm
   have walk:∀(j x:Nat),x<2*es.length → ¬pl (vtx es x)→T x (qQ (sig es rs) j x):=by
    intro j
    induction j with
    | zero=>intro x hx _;exact hT.refl x hx
    | succ j ihj=>
     intro x hx hpx;obtain ⟨k1,k2⟩:=yl hf.right hx;have hx2:qQ (sig es rs) j (sig es rs x)<2*es.length:=(QA hf.right).iter_lt j k1;exact hT.trans _ _ _ hx k1 hx2 (h1 x hx hpx) (ihj _ k1 (by rw [k2];exact hpx))
   have t1:=walk j d hd hp;rw [hj] at t1;have t2:=hT.trans _ _ _ hd (by omega) (by omega) t1 (hT.symm _ _ (by omega) (by omega) (h2 i hi));by_cases hpt:pl (vtx es (2*i))
   ·exact ⟨i,(hc.mem i).2 ⟨hi,hpt,by rw [hvi];exact hp⟩,t2⟩
   ·have hlt:L (vtx es (2*i))<L (vtx es (2*i+1)):=by
     obtain ⟨e1,_,_⟩:=xD hin hi;have:=hL _ (List.getElem_mem hi);rw [e1] at this;simpa using this
    obtain ⟨a,ha,t3⟩:=ih (L (vtx es (2*i))) (by rw [hvi] at hlt;omega) (2*i) (by omega) rfl hpt;exact ⟨a,ha,hT.trans _ _ _ hd (by omega) (by have:=(qq hc ha).2.2;omega) t2 t3⟩
 intro d hd hn;by_cases hp:pl (vtx es d)
 ·by_cases hk:d%2=0∧d/2 ∈ ρ
  ·exact ⟨d/2,hk.2,by rw [show 2*(d/2)=d by omega];exact hT.refl d hd⟩
  ·exact absurd (Vx hc hd hp hk) hn
 ·exact key _ d hd rfl hp
theorem JB(q:Nat→Bool):∀m:Nat,(List.range (2*m)).countP (fun d=>q (d/2))=2*(List.range m).countP q
 | 0=>rfl
 | m+1=>by
  rw [show 2*(m+1)=2*m+1+1 by omega,List.range_succ,List.range_succ,List.countP_append,List.countP_append,JB q m,List.range_succ,List.countP_append,List.countP_singleton,List.countP_singleton,List.countP_singleton,show 2*m/2=m by omega,show (2*m+1)/2=m by omega]
  split<;>omega
theorem YP(q:Nat→Bool):∀m:Nat,(List.range (2*m)).countP (fun d=>decide (d%2=1)&&q (d/2))=(List.range m).countP q
 | 0=>rfl
 | m+1=>by
  rw [show 2*(m+1)=2*m+1+1 by omega,List.range_succ,List.range_succ,List.countP_append,List.countP_append,YP q m,List.range_succ,List.countP_append,List.countP_singleton,List.countP_singleton,List.countP_singleton,show 2*m/2=m by omega,show (2*m+1)/2=m by omega,decide_eq_false (by omega:¬2*m%2=1),decide_eq_true (by omega:(2*m+1)%2=1),Bool.false_and,Bool.true_and,if_neg (by simp)];omega
def ki(es:List (Int×Int))(rs:List (List Int))(gr:Nat→Nat)(d:Nat):Bool:=decide (yE es rs d=2) && !(yJ es (vtx es d)&&decide (gr (vtx es d)=d))
theorem FitT.odd_at(h:FitT N es rs o s gr){x:Nat}(hx:x<N)(hxs:x≠s):kI es x:=by
 have hnz:inD es x≠0:=fun e=>hxs (h.src x hx e);rw [Ne,zn] at hnz;obtain ⟨i,hi,hie⟩:∃i,i<es.length∧(es.getD i (0,0)).2=(x:Int):=Classical.byContradiction fun hno=>hnz fun i hi e=>hno ⟨i,hi,e⟩;exact ⟨2*i+1,by omega,by have:=zY h.inN hi;omega,by unfold ev;simp⟩
theorem FitT.tip_even(h:FitT N es rs o s gr){x:Nat}(hx:x<N)(hxs:x≠s):yJ es x=true ↔ ¬vk es x:=by
 have h1:(jK es Prod.snd (x:Nat) es.length).length≠0:=fun e=>hxs (h.src x hx e);unfold yJ;rw [decide_eq_false h1];simp only [Bool.false_bne,decide_eq_true_eq];constructor
 ·rintro h2 ⟨k,hk,hkv,hke⟩;have hk2:k%2=0:=by unfold ev at hke;simpa using hke
  have h3:=zL h.inN (i:=k/2) (by omega);rw [show 2*(k/2)=k by omega,hkv] at h3;have hm:=ql.2 ⟨k/2,rfl,(by omega:k/2<es.length),h3.symm⟩;rw [List.length_eq_zero_iff.1 h2] at hm
  cases hm
 ·intro h2;rw [List.length_eq_zero_iff,List.eq_nil_iff_forall_not_mem];intro a ha;obtain ⟨i,_,hi,e⟩:=ql.1 ha;exact h2 ⟨2*i,by omega,by have:=zL h.inN hi;omega,by unfold ev;simp⟩
theorem FitT.tops_at(h:FitT N es rs o s gr){x:Nat}(hx:x<N)(hxs:x≠s):(List.range (2*es.length)).countP (fun d=>decide (vtx es d=x)&&(!ev d && !ki es rs gr d))=1:=by
 have hR:=h.right;have hodd:=h.odd_at hx hxs;by_cases he:vk es x
 ·have ht:yJ es x=false:=by
   cases hq:yJ es x with
   | false=>rfl
   | true=>exact absurd he ((h.tip_even hx hxs).1 hq)
  have e1:(List.range (2*es.length)).countP (fun d=>decide (vtx es d=x)&&(!ev d && !ki es rs gr d))=Vc es rs x:=qn fun d hd=>by
   by_cases hv:vtx es d=x
   ·unfold ki;rw [hv,ht];unfold yE;rw [Bool.eq_iff_iff];simp only [Bool.and_eq_true,decide_eq_true_eq,Bool.not_eq_true',Bool.false_and,Bool.not_false,Bool.and_true,decide_eq_false_iff_not,kb]
    cases ev d<;>cases ev (sig es rs d)<;>simp
   ·rw [decide_eq_false hv,Bool.false_and,Bool.false_and]
  rw [e1];have h1:=(KC hR x).2 ⟨hodd,he⟩;have h2:=(ZQ hR).1 h.bim x (by rw [h.len];exact hx);rw [UQ hR] at h2;omega
 ·have ht:=(h.tip_even hx hxs).2 he;obtain ⟨g1,g2⟩:=h.tip x hx ht;refine ub (a:=gr x) g1 ?_ fun d hd hq=>?_
  ·have hk:ev (gr x)=false:=by
    cases hh:ev (gr x) with
    | false=>rfl
    | true=>exact absurd ⟨gr x,g1,g2,hh⟩ he
   unfold ki;rw [g2,ht,hk];simp
  ·unfold ki at hq;simp only [Bool.and_eq_true,decide_eq_true_eq,Bool.not_eq_true',Bool.and_eq_false_iff,decide_eq_false_iff_not,Bool.not_eq_false'] at hq;obtain ⟨hv,_,hq⟩:=hq;rw [hv] at hq;rcases hq with hq | hq
   ·exact absurd (aQ hR hd (by rw [hv];exact he)) hq
   ·exact hq.2.symm
end
end Go.Proofs.YtneeknlhlkpnpaaGreat
/-
 Plain law: the contracted map is plane; split at two gaps of one face it falls apart. Written by an AI agent.
-/
namespace Go.Proofs.YtneeknlhlkpnpaaGreat
open Go.RowKit
section
variable {N:Nat}{es:List (Int×Int)}{rs:List (List Int)}{o s:Nat}{gr:Nat→Nat}{pl:Nat→Prop}{ρ : List Nat}
noncomputable def Yp(es:List (Int×Int))(pl:Nat→Prop):Nat:=(List.range es.length).countP fun i=>tst (pl (vtx es (2*i+1)))
noncomputable def fJ(N:Nat)(pl:Nat→Prop):Nat:=(List.range N).countP fun x=>tst (¬pl x)
noncomputable def rd(es:List (Int×Int))(rs:List (List Int))(gr:Nat→Nat)(pl:Nat→Prop):Nat:=(List.range (2*es.length)).countP fun d=>tst (¬pl (vtx es d))&&ki es rs gr d
theorem KE{d:Nat}(h:ki es rs gr d=true):ev d=false:=by
 unfold ki at h;simp only [Bool.and_eq_true,decide_eq_true_eq] at h;exact ((kb _ _).1 h.1).1
theorem FitT.count(hf:FitT N es rs o s gr)(hs:pl s):rd es rs gr pl+fJ N pl+Yp es pl=es.length:=by
 have h1:(List.range (2*es.length)).countP (fun d=>decide (d%2=1)&&tst (¬pl (vtx es (2*(d/2)+1))))=(List.range es.length).countP fun i=>tst (¬pl (vtx es (2*i+1))):=YP (fun i=>tst (¬pl (vtx es (2*i+1)))) es.length
 have h2:(List.range es.length).countP (fun i=>tst (¬pl (vtx es (2*i+1))))+Yp es pl=es.length:=by
  have:=List.length_eq_countP_add_countP (fun i=>tst (pl (vtx es (2*i+1)))) (l:=List.range es.length);rw [List.length_range] at this
  have e:(List.range es.length).countP (fun a=>decide ¬tst (pl (vtx es (2*a+1)))=true)=(List.range es.length).countP fun i=>tst (¬pl (vtx es (2*i+1))):=qn fun k _=>by
   rw [Bool.eq_iff_iff,decide_eq_true_eq,jB,jB]
  unfold Yp;omega
 have h3:(List.range (2*es.length)).countP (fun d=>decide (d%2=1)&&tst (¬pl (vtx es (2*(d/2)+1))))=rd es rs gr pl+(List.range (2*es.length)).countP (fun d=>(!ev d && !ki es rs gr d)&&tst (¬pl (vtx es d))):=by
  rw [yA _ _ (ki es rs gr)];congr 1
  ·apply qn;intro d hd;rw [Bool.eq_iff_iff];simp only [Bool.and_eq_true,decide_eq_true_eq,jB];constructor
   ·rintro ⟨⟨h1,h2⟩,h3⟩;exact ⟨by rwa [show 2*(d/2)+1=d by omega] at h2,h3⟩
   ·rintro ⟨h1,h2⟩;have:=KE h2;have ho:d%2=1:=by unfold ev at this;simpa using this
    exact ⟨⟨ho,by rwa [show 2*(d/2)+1=d by omega]⟩,h2⟩
  ·apply qn;intro d hd;rw [Bool.eq_iff_iff];simp only [Bool.and_eq_true,decide_eq_true_eq,jB,Bool.not_eq_true'];constructor
   ·rintro ⟨⟨h1,h2⟩,h3⟩;exact ⟨⟨by unfold ev;simpa using h1,h3⟩,by rwa [show 2*(d/2)+1=d by omega] at h2⟩
   ·rintro ⟨⟨h1,h2⟩,h3⟩;have ho:d%2=1:=by unfold ev at h1;simpa using h1
    exact ⟨⟨ho,by rwa [show 2*(d/2)+1=d by omega]⟩,h2⟩
 have h4:(List.range (2*es.length)).countP (fun d=>(!ev d && !ki es rs gr d)&&tst (¬pl (vtx es d)))=fJ N pl:=by
  rw [kl (v:=vtx es) (M:=N) _ _ (fun k hk=>xS hf.inN hk)];unfold fJ;rw [←Jd];apply Je;intro x hx;by_cases hp:pl x
  ·rw [if_neg (by rw [jB];exact fun h=>h hp)];apply JJ;intro k _;apply Bool.eq_false_iff.2;intro hq;simp only [Bool.and_eq_true,decide_eq_true_eq,jB] at hq;exact hq.2.2 (by rw [hq.1];exact hp)
  ·rw [if_pos (jB.2 hp),←hf.tops_at hx (fun e=>hp (by rw [e];exact hs))];apply qn;intro k _;by_cases hv:vtx es k=x
   ·rw [hv,jB.2 hp,Bool.and_true]
   ·rw [decide_eq_false hv,Bool.false_and,Bool.false_and]
 omega
theorem FitT.top_face(hf:FitT N es rs o s gr){d:Nat}(hd:d<2*es.length)(h:ki es rs gr d=true):jY N es rs d≠o ∧ ∀e,e<2*es.length→ki es rs gr e=true→jY N es rs e=jY N es rs d→e=d:=by
 have conv:∀d,ki es rs gr d=true→yE es rs d=2 ∧ ¬(yJ es (vtx es d)=true∧gr (vtx es d)=d):=fun d h=>by
  unfold ki at h;simp only [Bool.and_eq_true,decide_eq_true_eq,Bool.not_eq_true',Bool.and_eq_false_iff,decide_eq_false_iff_not] at h;refine ⟨h.1,fun ⟨q1,q2⟩=>?_⟩;rcases h.2 with h2 | h2
  ·rw [q1] at h2;cases h2
  ·exact h2 q2
 obtain ⟨h1,h2⟩:=conv d h
 have ho:jY N es rs d≠o:=fun e=>h2 (hf.out d hd h1 e);refine ⟨ho,fun e he hte hfe=>?_⟩;obtain ⟨k1,k2⟩:=conv e hte
 obtain ⟨d0,_,_,_,_,hu⟩:=hf.top _ (ya hf.right hd).1 ho;rw [hu e he k1 hfe k2,hu d hd h1 rfl h2]
noncomputable def Gf(N:Nat)(es:List (Int×Int))(pl:Nat→Prop):List Nat:=N::((List.range N).filter (fun x=>tst (¬pl x))++((List.range (2*es.length)).filter fun d=>tst (pl (vtx es (2*(d/2)+1)))).map fun d=>N+1+d)
noncomputable def Gg(N:Nat)(es:List (Int×Int))(rs:List (List Int))(o:Nat)(gr:Nat→Nat)(pl:Nat→Prop):List Nat:=o::((((List.range (2*es.length)).filter fun d=>tst (¬pl (vtx es d))&&ki es rs gr d).map (jY N es rs))++((List.range es.length).filter fun i=>tst (pl (vtx es (2*i+1)))).map fun i=>(jE N es rs).length+i)
theorem vu{α : Type}{f : α → Nat}{l:List α}(hn:l.Nodup)(h:∀a∈l,∀b∈l,f a=f b→a=b):(l.map f).Nodup:=by
 rw [List.nodup_iff_pairwise_ne,List.pairwise_map];exact (List.nodup_iff_pairwise_ne.1 hn).imp_of_mem fun {a b} ha hb hne e=>hne (h a ha b hb e)
theorem VL:(Gf N es pl).Nodup:=by
 unfold Gf;rw [List.nodup_cons];refine ⟨fun h=>?_,?_⟩
 ·rcases List.mem_append.1 h with h | h
  ·have:=List.mem_range.1 (List.mem_filter.1 h).1;omega
  ·obtain ⟨d,_,e⟩:=List.mem_map.1 h;omega
 ·rw [List.nodup_append];refine ⟨List.nodup_range.filter _,vu (List.nodup_range.filter _) (fun a _ b _ e=>by omega),fun a ha b hb e=>?_⟩;have:=List.mem_range.1 (List.mem_filter.1 ha).1;obtain ⟨d,_,e2⟩:=List.mem_map.1 hb;omega
theorem VX(hf:FitT N es rs o s gr):(Gg N es rs o gr pl).Nodup:=by
 have hlt:∀a∈((List.range (2*es.length)).filter fun d=>tst (¬pl (vtx es d))&&ki es rs gr d).map (jY N es rs),a<(jE N es rs).length:=fun a ha=>by
  obtain ⟨d,hd,rfl⟩:=List.mem_map.1 ha;exact (ya hf.right (List.mem_range.1 (List.mem_filter.1 hd).1)).1
 unfold Gg;rw [List.nodup_cons];refine ⟨fun h=>?_,?_⟩
 ·rcases List.mem_append.1 h with h | h
  ·obtain ⟨d,hd,e⟩:=List.mem_map.1 h;obtain ⟨h1,h2⟩:=List.mem_filter.1 hd;exact (hf.top_face (List.mem_range.1 h1) (by rw [Bool.and_eq_true] at h2;exact h2.2)).1 e
  ·obtain ⟨d,_,e⟩:=List.mem_map.1 h;have:=hf.oF;omega
 ·rw [List.nodup_append];refine ⟨vu (List.nodup_range.filter _) (fun a ha b hb e=>?_),vu (List.nodup_range.filter _) (fun a _ b _ e=>by omega),fun a ha b hb e=>?_⟩
  ·obtain ⟨a1,a2⟩:=List.mem_filter.1 ha;obtain ⟨b1,b2⟩:=List.mem_filter.1 hb;rw [Bool.and_eq_true] at a2 b2;exact (hf.top_face (List.mem_range.1 b1) b2.2).2 a (List.mem_range.1 a1) a2.2 e
  ·have:=hlt a ha;obtain ⟨d,_,e2⟩:=List.mem_map.1 hb;omega
theorem WR(hf:FitT N es rs o s gr)(hs:pl s):(Gf N es pl).length+(Gg N es rs o gr pl).length=es.length+2*(1+Yp es pl):=by
 have h1:=hf.count hs;unfold Gf Gg;simp only [List.length_cons,List.length_append,List.length_map,←List.countP_eq_length_filter];have h2:(List.range (2*es.length)).countP (fun d=>tst (pl (vtx es (2*(d/2)+1))))=2*Yp es pl:=JB (fun i=>tst (pl (vtx es (2*i+1)))) es.length;unfold rd fJ at h1;unfold Yp at h1 h2 ⊢;omega
theorem UC(hf:FitT N es rs o s gr)(hc:Cut N es rs o s pl ρ)(hne : ρ ≠ []):∀a∈Gf N es pl,∃d,d<2*es.length∧Vb N es pl d=a:=by
 intro a ha;unfold Gf at ha;rcases List.mem_cons.1 ha with rfl | ha
 ·obtain ⟨b,hb⟩:=List.exists_mem_of_ne_nil _ hne;obtain ⟨b1,b2,b3⟩:=qq hc hb;exact ⟨2*b,by omega,kr b1 b2⟩
 ·rcases List.mem_append.1 ha with ha | ha
  ·obtain ⟨h1,h2⟩:=List.mem_filter.1 ha;have h1:=List.mem_range.1 h1;rw [jB] at h2;obtain ⟨k,hk,hv,_⟩:=hf.odd_at h1 (fun e=>h2 (by rw [e];exact hc.src));refine ⟨k,hk,?_⟩;rw [Yj (fun e=>h2 (by rw [←hv];exact uS hc hk e)) (by rw [hv];exact h2),hv]
  ·obtain ⟨d,hd,rfl⟩:=List.mem_map.1 ha;obtain ⟨h1,h2⟩:=List.mem_filter.1 hd;exact ⟨d,List.mem_range.1 h1,ik (jB.1 h2)⟩
theorem Wn(hf:FitT N es rs o s gr)(hc:Cut N es rs o s pl ρ)(hne : ρ ≠ []):∀a∈Gg N es rs o gr pl,∃d,d<2*es.length∧Gz N es rs pl d=a:=by
 intro a ha;unfold Gg at ha;rcases List.mem_cons.1 ha with rfl | ha
 ·obtain ⟨b,l,rfl⟩:=List.exists_cons_of_ne_nil hne;obtain ⟨b1,b2,b3⟩:=qq hc (List.mem_cons_self ..);exact ⟨2*b,by omega,by rw [vV b1];exact hc.out b rfl⟩
 ·rcases List.mem_append.1 ha with ha | ha
  ·obtain ⟨d,hd,rfl⟩:=List.mem_map.1 ha;obtain ⟨h1,h2⟩:=List.mem_filter.1 hd;have h1:=List.mem_range.1 h1;rw [Bool.and_eq_true,jB] at h2;obtain ⟨k1,k2⟩:=yl hf.right h1;refine ⟨sig es rs d,k1,?_⟩;rw [vV (fun e=>h2.1 (by have:=uS hc k1 e;rwa [k2] at this)),zT hf.right h1]
  ·obtain ⟨i,hi,rfl⟩:=List.mem_map.1 ha;obtain ⟨h1,h2⟩:=List.mem_filter.1 hi;have h1:=List.mem_range.1 h1;refine ⟨2*i,by omega,?_⟩;rw [Vw (by unfold zf;rw [show 2*i/2=i by omega];exact jB.1 h2),show 2*i/2=i by omega]
theorem ez(hc:Cut N es rs o s pl ρ):∀i (hi:i < ρ.length),Orb (sP es rs pl ρ) (2 * ρ[0]'(by omega)) (2 * ρ[i])
 | 0,_=>Orb.refl _ _
 | i+1,hi=>by
  refine (ez hc i (by omega)).trans ⟨1,?_⟩
  show sP es rs pl ρ (2 * ρ[i])=_
  rw [ux hc (List.getElem_mem _),Yc hc.nd (by omega)];simp only [Nat.mod_eq_of_lt hi]
theorem aY{T:Nat→Nat→Prop}(hT:Equ (2*es.length) T)(h2:∀i,i<es.length→T (2*i) (2*i+1)){z:Nat}(hz:z<2*es.length)(h:∀d,d<2*es.length → ¬zf es pl d→T z d):cls T (2*es.length)≤1+Yp es pl:=by
 have:=bT hT (z::((List.range es.length).filter fun i=>tst (pl (vtx es (2*i+1)))).map fun i=>2*i) (fun x hx=>by
  by_cases hd:zf es pl x
  ·refine ⟨2*(x/2),List.mem_cons_of_mem _ (List.mem_map.2 ⟨x/2,List.mem_filter.2 ⟨List.mem_range.2 (by omega),jB.2 hd⟩,rfl⟩),by omega,?_⟩;rcases Nat.mod_two_eq_zero_or_one x with e | e
   ·rw [show 2*(x/2)=x by omega];exact hT.refl x hx
   ·have:=h2 (x/2) (by omega)
    rwa [show 2*(x/2)+1=x by omega] at this
  ·exact ⟨z,List.mem_cons_self ..,hz,h x hx hd⟩)
 simp only [List.length_cons,List.length_map,←List.countP_eq_length_filter] at this;unfold Yp;omega
end
end Go.Proofs.YtneeknlhlkpnpaaGreat
/-
 Plain law: lists begun elsewhere. Written by an AI agent.
-/
namespace Go.Proofs.YtneeknlhlkpnpaaGreat
open Go.RowKit
theorem JP{l:List Int}{i k:Nat}(hi:i<l.length)(hk:k<l.length):(rot l i)[k]'(by rw [qM];exact hk)=l[(i+k)%l.length]'(Nat.mod_lt _ (by omega)):=by
 unfold rot;rw [List.getElem_append];by_cases h:k<(l.drop i).length
 ·rw [dif_pos h,List.getElem_drop];have h2:i+k<l.length:=by rw [List.length_drop] at h;omega
  simp only [Nat.mod_eq_of_lt h2]
 ·rw [dif_neg h,List.getElem_take]
  have h2:(i+k)%l.length=k-(l.drop i).length:=by
   rw [List.length_drop] at h ⊢;rw [show i+k=(k-(l.length-i))+l.length by omega,Nat.add_mod_right];exact Nat.mod_eq_of_lt (by omega)
  simp only [h2]
theorem QC{l:List Int}{i:Nat}(h:l.length≤i):rot l i=l:=by
 unfold rot;rw [List.drop_eq_nil_of_le h,List.take_of_length_le h,List.nil_append]
theorem Jm(l:List Int):rot l 0=l:=by unfold rot;simp
theorem lM(l:List Int)(i:Nat):∃j,rot (rot l i) j=l:=by
 by_cases hi:i≤l.length
 ·refine ⟨l.length-i,?_⟩;unfold rot;have h1:(l.drop i).length=l.length-i:=List.length_drop;rw [List.drop_left' h1,List.take_left' h1,List.take_append_drop]
 ·exact ⟨0,by rw [Jm,QC (by omega)]⟩
theorem Gp{l:List Int}{i:Nat}{a:Int}:a∈rot l i↔a∈l:=by
 unfold rot
 conv=>rhs;rw [←List.take_append_drop i l]
 rw [List.mem_append,List.mem_append,or_comm]
theorem nY{α : Int→Int}(l:List Int)(i:Nat):rot (l.map α) i=(rot l i).map α :=by
 unfold rot;rw [List.map_append,List.map_drop,List.map_take]
theorem lL(l:List Int)(i:Nat):(rot l i).Perm l:=by
 unfold rot;have:=List.perm_append_comm (l₁ :=l.drop i) (l₂ :=l.take i);rw [List.take_append_drop] at this;exact this
end Go.Proofs.YtneeknlhlkpnpaaGreat
/-
 Plain law: a vertex' list, begun so that ups come first, from left to right, then downs; at sources and sinks the great half is the last one. Written by an AI agent.
-/
namespace Go.Proofs.YtneeknlhlkpnpaaGreat
open Go.RowKit
theorem aL{α : Type}(p : α → Bool):∀l:List α,(∀k (h:k+1<l.length),p l[k]=false→p l[k+1]=false) → ∃A B,l=A++B∧(∀a∈A,p a=true) ∧ ∀b∈B,p b=false
 | [],_=>⟨[],[],rfl,by simp,by simp⟩
 | x::l,h=>by
  have hl:∀k (h':k+1<l.length),p l[k]=false→p l[k+1]=false:=fun k hk=>h (k+1) (by simpa using hk)
  cases hx:p x with
  | true=>
   obtain ⟨A,B,e,hA,hB⟩:=aL p l hl;refine ⟨x::A,B,by rw [e];rfl,fun a ha=>?_,hB⟩;rcases List.mem_cons.1 ha with rfl | ha
   ·exact hx
   ·exact hA a ha
  | false=>
   refine ⟨[],x::l,rfl,by simp,?_⟩
   have key:∀k (hk:k<(x::l).length),p (x::l)[k]=false:=by
    intro k
    induction k with
    | zero=>intro _;exact hx
    | succ k ih=>intro hk;exact h k hk (ih (by omega))
   intro b hb;obtain ⟨k,hk,rfl⟩:=List.getElem_of_mem hb;exact key k hk
section
variable {N:Nat}{es:List (Int×Int)}{rs:List (List Int)}{o s:Nat}{gr:Nat→Nat}
structure NormR(es:List (Int×Int))(rs:List (List Int))(gr:Nat→Nat)(w:Nat)(D:List Nat)(P Q:List Nat):Prop where
 turned:∃i,rot (rs.getD w []) i=D.map fun d:Nat=>(d:Int)
 parts:D=P.map (fun a=>2*a)++Q.reverse.map fun a=>2*a+1
 nd:D.Nodup
 mem:∀d,d∈D↔d<2*es.length∧vtx es d=w
 next:∀k (h:k+1<D.length),sig es rs (D[k]'(by omega))=D[k+1]
 wrap:∀h:0<D.length,sig es rs (D[D.length-1]'(by omega))=D[0]
 great:yJ es w=true→D.getLast? = some (gr w)
theorem eM(hR:RightP N es rs)(hb:xP rs=true){g w:Nat}(hg:g<2*es.length)(hgv:vtx es g=w)(hg2:kI es w→vk es w→ev g=false∧ev (sig es rs g)=true):∃D P Q,NormR es rs (fun _=>g) w D P Q:=by
 obtain ⟨y,j,hy,hj,hjd,hyv⟩:=hR.pos hg;have:y=w:=by rw [←hyv,hgv]
 subst this;have eg:rs.getD y []=rs[y]:=by rw [List.getD_eq_getElem?_getD,List.getElem?_eq_getElem hy];rfl
 obtain ⟨i,hi⟩:∃i,i=(j+1)%rs[y].length:=⟨_,rfl⟩;have hil:i<rs[y].length:=by rw [hi];exact Nat.mod_lt _ (by omega)
 obtain ⟨D,hD⟩:∃D,D=(rot rs[y] i).map Int.toNat:=⟨_,rfl⟩;have hDl:D.length=rs[y].length:=by rw [hD,List.length_map,qM]
 have hget:∀k (hk:k<D.length),rs[y][(i+k)%rs[y].length]'(Nat.mod_lt _ (by omega))=(D[k]:Int)∧D[k]<2*es.length∧vtx es D[k]=y:=fun k hk=>by
  have hk':k<rs[y].length:=by omega
  obtain ⟨d,h1,h2,h3⟩:=hR.nat hy (i:=(i+k)%rs[y].length) (Nat.mod_lt _ (by omega))
  have e:D[k]=d:=by
   simp only [hD,List.getElem_map];rw [JP hil hk',h1];rfl
  rw [e];exact ⟨h1,h2,h3⟩
 have hsig:∀k (hk:k<D.length),sig es rs D[k]=(rs[y][(i+k+1)%rs[y].length]'(Nat.mod_lt _ (by omega))).toNat:=fun k hk=>by
  have h1:=(hget k hk).1;have h2:=KR hR hy (Nat.mod_lt _ (by omega)) h1;rw [h2];have e:((i+k)%rs[y].length+1)%rs[y].length=(i+k+1)%rs[y].length:=by rw [Nat.add_mod ((i+k)) 1,Nat.add_mod ((i+k)%rs[y].length) 1,Nat.mod_mod]
  simp only [e]
 have hnext:∀k (h:k+1<D.length),sig es rs (D[k]'(by omega))=D[k+1]:=fun k h=>by
  rw [hsig k (by omega)];have h1:=(hget (k+1) h).1;have e:i+k+1=i+(k+1):=by omega
  simp only [e,h1];rfl
 have hwrap:∀h:0<D.length,sig es rs (D[D.length-1]'(by omega))=D[0]:=fun h=>by
  rw [hsig _ (by omega)];have h1:=(hget 0 h).1
  have e:(i+(D.length-1)+1)%rs[y].length=(i+0)%rs[y].length:=by
   rw [show i+(D.length-1)+1=i+rs[y].length by omega,Nat.add_mod_right];rfl
  simp only [e,h1];rfl
 have hlast:∀h:0<D.length,D[D.length-1]'(by omega)=g:=fun h=>by
  have h1:=(hget (D.length-1) (by omega)).1
  have e:(i+(D.length-1))%rs[y].length=j:=by
   rw [hi];by_cases h2:j+1=rs[y].length
   ·rw [h2,Nat.mod_self,hDl,Nat.mod_eq_of_lt (by omega)];omega
   ·rw [Nat.mod_eq_of_lt (show j+1<rs[y].length by omega),hDl,show j+1+(rs[y].length-1)=j+rs[y].length by omega,Nat.add_mod_right,Nat.mod_eq_of_lt hj]
  simp only [e,hjd] at h1;omega
 have hpos:0<D.length:=by omega
 have hmap:(D.map fun d:Nat=>(d:Int))=rot rs[y] i:=by
  apply List.ext_getElem
  ·rw [List.length_map,hDl,qM]
  ·intro k h1 h2;rw [List.length_map] at h1;rw [List.getElem_map,JP hil (by omega),(hget k h1).1]
 have hndD:D.Nodup:=by
  have h1:(rot rs[y] i).Nodup:=by
   unfold rot;have:=hR.nd y hy;rw [←List.take_append_drop i rs[y]] at this;exact (List.perm_append_comm.nodup_iff).1 this
  rw [←hmap] at h1;rw [List.nodup_iff_pairwise_ne,List.pairwise_map] at h1;rw [List.nodup_iff_pairwise_ne];exact h1.imp fun h e=>h (by rw [e])
 have hmemD:∀d,d∈D↔d<2*es.length∧vtx es d=y:=fun d=>by
  constructor
  ·intro h;obtain ⟨k,hk,rfl⟩:=List.getElem_of_mem h;exact ⟨(hget k hk).2.1,(hget k hk).2.2⟩
  ·rintro ⟨h1,h2⟩;obtain ⟨x,t,hx,ht,e,hv⟩:=hR.pos h1;have:x=y:=by rw [←hv,h2]
   subst this
   have hm:(d:Int)∈rot rs[x] i:=by
    have h3:(d:Int)∈rs[x]:=by rw [←e];exact List.getElem_mem _
    unfold rot;rw [←List.take_append_drop i rs[x]] at h3;exact List.mem_append.2 (List.mem_append.1 h3).symm
   rw [←hmap] at hm;obtain ⟨d',h3,h4⟩:=List.mem_map.1 hm;rw [show d=d' by omega];exact h3
 have hstep:∀k (h:k+1<D.length),ev D[k]=false→ev D[k+1]=false:=fun k hk h1=>by
  have hdk:=(hmemD D[k]).1 (List.getElem_mem _);have hdk1:=(hmemD D[k+1]).1 (List.getElem_mem _)
  cases h2:ev D[k+1] with
  | false=>rfl
  | true=>
   exfalso;have hodd:kI es y:=⟨D[k],hdk.1,hdk.2,h1⟩;have heven:vk es y:=⟨D[k+1],hdk1.1,hdk1.2,h2⟩;obtain ⟨q1,q2⟩:=hg2 hodd heven
   have hkg:D[k]≠g:=fun e=>by
    have:=ku hndD (i:=k) (j:=D.length-1) (by omega) (by omega) (by rw [e,hlast hpos]);omega
   have h3:=(ZQ hR).1 hb y hy;rw [UQ hR] at h3;unfold Vc at h3;have h4:=vt (p:=fun d=>decide (vtx es d=y)&&(!ev d&&ev (sig es rs d))) (q:=fun d=>(decide (vtx es d=y)&&(!ev d&&ev (sig es rs d))) && !decide (d=g)) (m:=g) (by rw [hgv,q1,q2];simp) (fun _=>rfl) (2*es.length);rw [if_pos hg] at h4;have h5:0<(List.range (2*es.length)).countP fun d=>(decide (vtx es d=y)&&(!ev d&&ev (sig es rs d))) && !decide (d=g):=List.countP_pos_iff.2 ⟨D[k],List.mem_range.2 hdk.1,by rw [hdk.2,h1,hnext k hk,h2,decide_eq_false hkg];simp⟩;omega
 obtain ⟨A,B,e,hA,hB⟩:=aL ev D hstep;refine ⟨D,A.map (· / 2),(B.map (· / 2)).reverse,⟨⟨i,by rw [eg];exact hmap.symm⟩,?_,hndD,hmemD,hnext,hwrap,fun ht=>?_⟩⟩
 ·rw [List.reverse_reverse,List.map_map,List.map_map]
  have e1:A.map ((fun a=>2*a) ∘ fun x=>x/2)=A:=by
   conv=>rhs;rw [←List.map_id A]
   apply List.map_congr_left;intro a ha;have:=hA a ha;have:a%2=0:=by unfold ev at this;simpa using this
   show 2*(a/2)=a
   omega
  have e2:B.map ((fun a=>2*a+1) ∘ fun x=>x/2)=B:=by
   conv=>rhs;rw [←List.map_id B]
   apply List.map_congr_left;intro a ha;have:=hB a ha;have:a%2=1:=by unfold ev at this;simpa using this
   show 2*(a/2)+1=a
   omega
  rw [e1,e2,←e]
 ·rw [List.getLast?_eq_getElem?,List.getElem?_eq_getElem (by omega),hlast hpos]
theorem me(hf:FitT N es rs o s gr){w:Nat}(hw:w<N):∃D P Q,NormR es rs gr w D P Q:=by
 have hR:=hf.right
 have hend:∃g,g<2*es.length∧vtx es g=w∧(yJ es w=true→g=gr w)∧(yJ es w=false→ev g=false∧ev (sig es rs g)=true):=by
  cases ht:yJ es w with
  | true=>
   obtain ⟨g1,g2⟩:=hf.tip w hw ht;exact ⟨gr w,g1,g2,fun _=>rfl,(fun h=>by cases h)⟩
  | false=>
   have hws:w≠s:=fun e=>by rw [e,hf.srcG.1] at ht;cases ht
   have he:vk es w:=Classical.byContradiction fun hno=>by rw [(hf.tip_even hw hws).2 hno] at ht;cases ht
   have h1:=(KC hR w).2 ⟨hf.odd_at hw hws,he⟩;unfold Vc at h1;obtain ⟨g,hg,hp⟩:=List.countP_pos_iff.1 h1;simp only [Bool.and_eq_true,decide_eq_true_eq,Bool.not_eq_true'] at hp;exact ⟨g,List.mem_range.1 hg,hp.1,(fun h=>by cases h),fun _=>hp.2⟩
 obtain ⟨g,hg,hgv,hg1,hg2⟩:=hend
 obtain ⟨D,P,Q,hN⟩:=eM hR hf.bim hg hgv fun hodd heven=>by
  have hys:w≠s:=fun e=>by
   obtain ⟨z,hz,hzv,hzo⟩:=hodd;have hz2:z%2=1:=by unfold ev at hzo;simpa using hzo
   have h3:=zY hf.inN (i:=z/2) (by omega);rw [show 2*(z/2)+1=z by omega,hzv,e] at h3;exact zn.1 hf.sin (z/2) (by omega) h3.symm
  refine hg2 ?_
  cases hq:yJ es w with
  | false=>rfl
  | true=>exact absurd heven ((hf.tip_even hw hys).1 hq)
 exact ⟨D,P,Q,hN.turned,hN.parts,hN.nd,hN.mem,hN.next,hN.wrap,fun ht=>by
  have h2:D.getLast? = some g:=hN.great ht
  rw [h2,hg1 ht]⟩
end
end Go.Proofs.YtneeknlhlkpnpaaGreat
/-
 Plain law: a row split at two gaps of one face: the two arcs hang together no more. Written by an AI agent.
-/
namespace Go.Proofs.YtneeknlhlkpnpaaGreat
open Go.RowKit
section
variable {N:Nat}{es:List (Int×Int)}{rs:List (List Int)}{o s:Nat}{gr:Nat→Nat}{pl:Nat→Prop}{ρ : List Nat}
theorem aZ{s':Nat→Nat}(hu:∀d,¬pl (vtx es d)→s' d=sig es rs d):∀d,d<2*es.length → ¬pl (vtx es d)→ppR s' es.length d (sig es rs d):=fun d _ h=>vB ⟨1,by show s' d=_;exact hu d h⟩ _
theorem rj(hf:FitT N es rs o s gr)(hc:Cut N es rs o s pl ρ)(hne : ρ ≠ []) :
  (∀d e,d<2*es.length→e<2*es.length→Vb N es pl d=Vb N es pl e→Orb (sP es rs pl ρ) d e)∧(∀d e,d<2*es.length→e<2*es.length→Gz N es rs pl d=Gz N es rs pl e→Orb (ppk (sP es rs pl ρ) es.length) d e) ∧
  es.length+2*(1+Yp es pl)≤cls (Orb (sP es rs pl ρ)) (2*es.length)+cls (Orb (ppk (sP es rs pl ρ) es.length)) (2*es.length):=by
 have hP:=eq hf.right hc;have hPP:=xF hP es.length (Nat.le_refl _);have hE:=kS hP es.length (Nat.le_refl _);have hpair:∀i,i<es.length→ppR (sP es rs pl ρ) es.length (2*i) (2*i+1):=fun i hi=>Jn hP _ (Nat.le_refl _) hi;have hlen:0 < ρ.length:=List.length_pos_iff.2 hne;have hz:2 * ρ[0]<2*es.length:=by have:=(qq hc (List.getElem_mem hlen)).2.2;omega
 have hparts:cls (ppR (sP es rs pl ρ) es.length) (2*es.length)≤1+Yp es pl:=by
  refine aY hE hpair hz fun d hd hn=>?_;obtain ⟨a,ha,ht⟩:=dX hf hc hE (aZ fun d h=>YW h) hpair d hd hn;obtain ⟨i,hi,rfl⟩:=List.getElem_of_mem ha;have hb:2 * ρ[i]<2*es.length:=by have:=(qq hc ha).2.2;omega
  exact hE.trans _ _ _ hz hb hd (vB (ez hc i hi) _) (hE.symm _ _ hd hb ht)
 have hl:=WR hf hc.src;obtain ⟨h1,h2⟩:=aB hP (fun d hd=>Wf hf.right hc hd) (fun d hd=>Wg hf.right hc hd) VL (VX hf) (UC hf hc hne) (Wn hf hc hne) (by omega);refine ⟨h1,h2,?_⟩;have k1:=xr (vX hP (fun d hd=>Wf hf.right hc hd)) VL (UC hf hc hne);have k2:=xr (vX hPP (v:=Gz N es rs pl) (fun d hd=>by rw [QE hP d hd];exact Wg hf.right hc hd)) (VX hf) (Wn hf hc hne);omega
noncomputable def sS(es:List (Int×Int))(rs:List (List Int))(pl:Nat→Prop)(ρ : List Nat)(a p:Nat)(z:Nat):Nat:=sP es rs pl ρ (swp (2*a) (2*p) z)
theorem pH{x y z:Nat}:ot (swp x y z)=swp (ot x) (ot y) (ot z):=by
 unfold swp;by_cases h1:z=x
 ·rw [if_pos h1,if_pos (by rw [h1])]
 ·rw [if_neg h1,if_neg (fun e=>h1 (GF e))];by_cases h2:z=y
  ·rw [if_pos h2,if_pos (by rw [h2])]
  ·rw [if_neg h2,if_neg (fun e=>h2 (GF e))]
theorem VM(hf:FitT N es rs o s gr)(hc:Cut N es rs o s pl ρ){a p:Nat}(ha:a ∈ ρ)(hp:p ∈ ρ)(hap:a≠p)(hfe:jY N es rs (ot (2*a+1))=jY N es rs (ot (2*p+1))) :
  Perm (2*es.length) (sS es rs pl ρ a p) ∧ ¬ppR (sS es rs pl ρ a p) es.length (2*a) (2*p) ∧ ∀b ∈ ρ,Orb (sS es rs pl ρ a p) (2*b) (2*a)∨Orb (sS es rs pl ρ a p) (2*b) (2*p):=by
 have hne : ρ ≠ []:=List.ne_nil_of_mem ha;have hP:=eq hf.right hc;have hPP:=xF hP es.length (Nat.le_refl _);obtain ⟨q1,q2,q3⟩:=rj hf hc hne;obtain ⟨a1,a2,a3⟩:=qq hc ha;obtain ⟨p1,p2,p3⟩:=qq hc hp;have hS:Perm (2*es.length) (sS es rs pl ρ a p):=hP.swp (by omega) (by omega);have hSS:=xF hS es.length (Nat.le_refl _);have hE:=kS hS es.length (Nat.le_refl _);have o1:Orb (sP es rs pl ρ) (2*a) (2*p):=q1 _ _ (by omega) (by omega) (by rw [kr a1 a2,kr p1 p2]);have n1:¬zf es pl (2*a+1):=fun h=>a1 (by have:=(Yl (es:=es) (pl:=pl) (2*a+1)).2 h;rwa [uy] at this);have n2:¬zf es pl (2*p+1):=fun h=>p1 (by have:=(Yl (es:=es) (pl:=pl) (2*p+1)).2 h;rwa [uy] at this);have o2:Orb (ppk (sP es rs pl ρ) es.length) (2*a+1) (2*p+1):=q2 _ _ (by omega) (by omega) (by rw [vV n1,vV n2,hfe]);have c1:cls (Orb (sS es rs pl ρ a p)) (2*es.length)=cls (Orb (sP es rs pl ρ)) (2*es.length)+1:=JK hP (by omega) (by omega) (by omega) o1
 have c2:cls (Orb (ppk (sS es rs pl ρ a p) es.length)) (2*es.length)=cls (Orb (ppk (sP es rs pl ρ) es.length)) (2*es.length)+1:=by
  rw [←JK hPP (a:=2*a+1) (b:=2*p+1) (by omega) (by omega) (by omega) o2];refine ke fun x y hx hy=>Wa hSS (fun z hz=>?_) hx;rw [QE hS z hz]
  show sP es rs pl ρ (swp (2*a) (2*p) (ot z))=ppk (sP es rs pl ρ) es.length (swp (2*a+1) (2*p+1) z)
  rw [QE hP _ (GB (by omega) (by omega) hz),pH,uy,uy]
 have hno:¬Orb (sS es rs pl ρ a p) (2*a) (2*p):=UZ hP (by omega) (by omega) (by omega) o1
 have hrow:∀b ∈ ρ,Orb (sS es rs pl ρ a p) (2*b) (2*a)∨Orb (sS es rs pl ρ a p) (2*b) (2*p):=fun b hb=>by
  obtain ⟨b1,b2,b3⟩:=qq hc hb;have o3:Orb (sP es rs pl ρ) (2*b) (2*a):=q1 _ _ (by omega) (by omega) (by rw [kr a1 a2,kr b1 b2]);have e:(fun z=>sS es rs pl ρ a p (swp (2*a) (2*p) z))=sP es rs pl ρ :=aN _ _ _;rw [←e] at o3;rcases (Vq hS (by omega) (by omega) hno (by omega) (by omega)).1 o3 with h | ⟨h,_⟩ | ⟨h,_⟩
  ·exact .inl h
  ·exact .inl h
  ·exact .inr h
 refine ⟨hS,fun hr=>?_,hrow⟩;have hpair:∀i,i<es.length→ppR (sS es rs pl ρ a p) es.length (2*i) (2*i+1):=fun i hi=>Jn hS _ (Nat.le_refl _) hi
 have hun:∀d,¬pl (vtx es d)→sS es rs pl ρ a p d=sig es rs d:=fun d h=>by
  unfold sS swp;rw [if_neg (fun e=>h (by rw [e];exact a2)),if_neg (fun e=>h (by rw [e];exact p2)),YW h]
 have hparts:cls (ppR (sS es rs pl ρ a p) es.length) (2*es.length)≤1+Yp es pl:=by
  refine aY hE hpair (z:=2*a) (by omega) fun d hd hn=>?_;obtain ⟨b,hb,ht⟩:=dX hf hc hE (aZ hun) hpair d hd hn;have hb2:2*b<2*es.length:=by have:=(qq hc hb).2.2;omega
  have h3:ppR (sS es rs pl ρ a p) es.length (2*a) (2*b):=by
   rcases hrow b hb with h | h
   ·exact hE.symm _ _ hb2 (by omega) (vB h _)
   ·exact hE.trans _ _ _ (by omega) (by omega) hb2 hr (hE.symm _ _ hb2 (by omega) (vB h _))
  exact hE.trans _ _ _ (by omega) hb2 hd h3 (hE.symm _ _ hd hb2 ht)
 obtain ⟨g,hg⟩:=GI hS es.length (Nat.le_refl _);omega
end
end Go.Proofs.YtneeknlhlkpnpaaGreat
