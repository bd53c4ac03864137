import Derived.Test.YtneeknlhlkpnpaaGreatZRing2
import Derived.Test.YtneeknlhlkpnpaaGreatZRPlain
/-
 Plain law: what stands between two edges that end side by side has no outer gap. Written by an AI agent.
-/
namespace Go.Proofs.YtneeknlhlkpnpaaGreat
open Go.RowKit
theorem Vk{m:Nat}{s' g:Nat→Nat}(hs:Perm (2*m) s')(h1:∀d,d<2*m→g (s' d)=g d)(h2:∀i,i<m→g (2*i)=g (2*i+1)):∀k,k≤m → ∀x y,x<2*m→y<2*m→ppR s' k x y→g x=g y
 | 0,_,x,y,hx,hy,h=>vX hs h1 x y hx hy h
 | k+1,hk,x,y,hx,hy,h=>by
  have ih:=Vk hs h1 h2 k (by omega);have e:=h2 k (by omega);rcases h with h | ⟨h3,h4⟩ | ⟨h3,h4⟩
  ·exact ih x y hx hy h
  ·rw [ih x _ hx (by omega) h3,e,ih _ y (by omega) hy h4]
  ·rw [ih x _ hx (by omega) h3,←e,ih _ y (by omega) hy h4]
section
variable {N:Nat}{es:List (Int×Int)}{rs:List (List Int)}{o s:Nat}{gr:Nat→Nat}{pl:Nat→Prop}{ρ : List Nat}
theorem ny{a p:Nat}(hc:Cut N es rs o s pl ρ)(ha:a ∈ ρ)(hp:p ∈ ρ){d:Nat}(h:¬pl (vtx es d)):sS es rs pl ρ a p d=sig es rs d:=by
 unfold sS swp;rw [if_neg (fun e=>h (by rw [e];exact (qq hc ha).2.1)),if_neg (fun e=>h (by rw [e];exact (qq hc hp).2.1)),YW h]
theorem GE{a p b:Nat}(hc:Cut N es rs o s pl ρ)(ha:a ∈ ρ)(hp:p ∈ ρ)(hb:b ∈ ρ):∃c ∈ ρ,sS es rs pl ρ a p (2*b)=2*nxr ρ c∧(b=a→c=p)∧(b≠a→b=p→c=a)∧(b≠a→b≠p→c=b):=by
 unfold sS swp;by_cases h1:b=a
 ·subst h1;exact ⟨p,hp,by rw [if_pos rfl,ux hc hp],fun _=>rfl,fun h=>absurd rfl h,fun h=>absurd rfl h⟩
 ·rw [if_neg (by omega)];by_cases h2:b=p
  ·subst h2;exact ⟨a,ha,by rw [if_pos rfl,ux hc ha],fun h=>absurd h h1,fun _ _=>rfl,fun _ h=>absurd rfl h⟩
  ·exact ⟨b,hb,by rw [if_neg (by omega),ux hc hb],fun h=>absurd h h1,fun _ h=>absurd h h2,fun _ _=>rfl⟩
theorem nU{a p:Nat}(hc:Cut N es rs o s pl ρ)(ha:a ∈ ρ)(hp:p ∈ ρ){d:Nat}(hd:d<2*es.length)(h:zf es pl d):sS es rs pl ρ a p d=d:=by
 unfold sS swp;rw [if_neg (fun e=>(qq hc ha).1 (by rw [←e];exact h)),if_neg (fun e=>(qq hc hp).1 (by rw [←e];exact h))];refine uP (uS hc hd h) fun ⟨h1,h2⟩=>(qq hc h2).1 ?_
 rwa [show 2*(d/2)=d by omega]
theorem Gn{a p:Nat}(hf:FitT N es rs o s gr)(hc:Cut N es rs o s pl ρ)(ha:a ∈ ρ)(hp:p ∈ ρ)(hfe:jY N es rs (ot (2*a+1))=jY N es rs (ot (2*p+1))){d:Nat}(hd:d<2*es.length)(hn:¬zf es pl d) :
  ¬zf es pl (sS es rs pl ρ a p d)∧Vb N es pl (sS es rs pl ρ a p d)=Vb N es pl d∧jY N es rs (ot (sS es rs pl ρ a p d))=jY N es rs d:=by
 rcases uO (es:=es) d pl ρ with h | ⟨h,b,hb,rfl⟩ | ⟨h,h2⟩
 ·rw [ny hc ha hp h];obtain ⟨k1,k2⟩:=yl hf.right hd;have n2:¬zf es pl (sig es rs d):=fun e=>h (by have:=uS hc k1 e;rwa [k2] at this);exact ⟨n2,by rw [Yj n2 (by rw [k2];exact h),Yj hn h,k2],zT hf.right hd⟩
 ·obtain ⟨c,hcm,e,c1,c2,c3⟩:=GE hc ha hp hb;obtain ⟨b1,b2,_⟩:=qq hc (uQ hc.nd hcm);rw [e];refine ⟨b1,by rw [kr b1 b2,kr hn h],?_⟩;rw [←hc.ring c hcm,←uy b];by_cases h1:b=a
  ·rw [c1 h1,←hfe,h1]
  ·by_cases h2:b=p
   ·rw [c2 h1 h2,hfe,h2]
   ·rw [c3 h1 h2]
 ·exact absurd (Vx hc hd h h2) hn
theorem pb{s':Nat→Nat}(hR:RightP N es rs)(_hs:Perm (2*es.length) s')(hu:∀d,¬pl (vtx es d)→s' d=sig es rs d){d e:Nat}(hd:d<2*es.length)(he:e<2*es.length)(hv:vtx es d=vtx es e)(hp:¬pl (vtx es d)):Orb s' d e:=by
 obtain ⟨j,hj⟩:=(Yh hR hd he).2 hv;subst hj
 have walk:∀(j x:Nat),x<2*es.length → ¬pl (vtx es x)→Orb s' x (qQ (sig es rs) j x):=by
  intro j
  induction j with
  | zero=>intro x _ _;exact Orb.refl _ _
  | succ j ihj=>
   intro x hx hpx;obtain ⟨k1,k2⟩:=yl hR hx;have:=ihj _ k1 (by rw [k2];exact hpx);rw [←hu x hpx] at this
   show Orb s' x (qQ (sig es rs) j (sig es rs x))
   rw [←hu x hpx];exact (Orb.step _ _).trans this
 exact walk j d hd hp
theorem am(hf:FitT N es rs o s gr)(hc:Cut N es rs o s pl ρ){a p t:Nat}(ha:a ∈ ρ)(hp:p ∈ ρ)(hap:a≠p)(hfe:jY N es rs (ot (2*a+1))=jY N es rs (ot (2*p+1)))
  (ht:t<2*es.length) (htop:ki es rs gr t=true) (htf:jY N es rs t=jY N es rs (ot (2*a+1))) (htI:¬ppR (sS es rs pl ρ a p) es.length t (2*p)) {b:Nat} (hb:b ∈ ρ) (hbo:jY N es rs (ot (2*b))=o):¬ppR (sS es rs pl ρ a p) es.length (2*b) (2*p):=by
 intro hbI;obtain ⟨hS,hap2,hrow⟩:=VM hf hc ha hp hap hfe;have hE:=kS hS es.length (Nat.le_refl _);obtain ⟨p1,p2,p3⟩:=qq hc hp;have h2p:2*p<2*es.length:=by omega
 obtain ⟨I,hI⟩:∃I:Nat→Prop,I=fun d=>ppR (sS es rs pl ρ a p) es.length d (2*p):=⟨_,rfl⟩;have hId:∀d,I d↔ppR (sS es rs pl ρ a p) es.length d (2*p):=fun d=>by rw [hI]
 have hpair:∀i,i<es.length→ppR (sS es rs pl ρ a p) es.length (2*i) (2*i+1):=fun i hi=>Jn hS _ (Nat.le_refl _) hi
 have I_rel:∀d e,d<2*es.length→e<2*es.length→ppR (sS es rs pl ρ a p) es.length d e→(I d↔I e):=fun d e hd he h=>by
  rw [hId,hId];exact ⟨fun k=>hE.trans _ _ _ he hd h2p (hE.symm _ _ hd he h) k,fun k=>hE.trans _ _ _ hd he h2p h k⟩
 have I_s:∀d,d<2*es.length→(I (sS es rs pl ρ a p d)↔I d):=fun d hd=>(I_rel d _ hd (hS.lt d hd) (vB (Orb.step _ _) _)).symm
 have I_ot:∀d,d<2*es.length→(I (ot d)↔I d):=fun d hd=>by
  rcases Nat.mod_two_eq_zero_or_one d with e | e
  ·obtain ⟨i,rfl⟩:∃i,d=2*i:=⟨d/2,by omega⟩;rw [kT];exact (I_rel _ _ (by omega) (by omega) (hpair i (by omega))).symm
  ·obtain ⟨i,rfl⟩:∃i,d=2*i+1:=⟨d/2,by omega⟩;rw [uy];exact I_rel _ _ (by omega) (by omega) (hpair i (by omega))
 have I_half:∀d,d<2*es.length→(I (2*(d/2))↔I d):=fun d hd=>by
  rcases Nat.mod_two_eq_zero_or_one d with e | e
  ·rw [show 2*(d/2)=d by omega]
  ·have:=I_ot d hd;rw [show ot d=2*(d/2) by unfold ot;rw [if_neg (by omega)];omega] at this;exact this
 have I_alive:∀d,d<2*es.length→I d → ¬zf es pl d:=fun d hd h hdead=>by
  obtain ⟨g,hg⟩:∃g:Nat→Nat,g=fun d=>if tst (zf es pl d)=true then 1+d/2 else 0:=⟨_,rfl⟩
  have e:=Vk (g:=g) hS (fun d hd=>by
   by_cases h1:zf es pl d
   ·rw [nU hc ha hp hd h1]
   ·obtain ⟨k1,_,_⟩:=Gn hf hc ha hp hfe hd h1;rw [hg];simp only;rw [if_neg (by rw [jB];exact k1),if_neg (by rw [jB];exact h1)]) (fun i hi=>by
   have e1:zf es pl (2*i+1)↔zf es pl (2*i):=by rw [←kT];exact Yl _
   rw [hg];simp only;by_cases h1:zf es pl (2*i)
   ·rw [if_pos (jB.2 h1),if_pos (jB.2 (e1.2 h1))];omega
   ·rw [if_neg (by rw [jB];exact h1),if_neg (by rw [jB];exact fun h=>h1 (e1.1 h))]) es.length (Nat.le_refl _) d (2*p) hd h2p ((hId d).1 h)
  rw [hg] at e;simp only at e;rw [if_pos (jB.2 hdead),if_neg (by rw [jB];exact p1)] at e;omega
 obtain ⟨q,hq⟩:∃q:Nat→Nat,q=fun d=>if tst (I d)=true then sS es rs pl ρ a p d else d:=⟨_,rfl⟩
 have q_in:∀d,I d→q d=sS es rs pl ρ a p d:=fun d h=>by rw [hq];simp only;rw [if_pos (jB.2 h)]
 have q_out:∀d,¬I d→q d=d:=fun d h=>by rw [hq];simp only;rw [if_neg (by rw [jB];exact h)]
 have hQ:Perm (2*es.length) q:=by
  refine ⟨fun d hd=>?_,fun d e hd he hde=>?_⟩
  ·by_cases h:I d
   ·rw [q_in d h];exact hS.lt d hd
   ·rw [q_out d h];exact hd
  ·by_cases h:I d
   ·by_cases k:I e
    ·rw [q_in d h,q_in e k] at hde;exact hS.inj _ _ hd he hde
    ·rw [q_in d h,q_out e k] at hde;exact absurd (by rw [←hde];exact (I_s d hd).2 h) k
   ·by_cases k:I e
    ·rw [q_out d h,q_in e k] at hde;exact absurd (by rw [hde];exact (I_s e he).2 k) h
    ·rw [q_out d h,q_out e k] at hde;exact hde
 have hEQ:=kS hQ es.length (Nat.le_refl _);have hqpair:∀i,i<es.length→ppR q es.length (2*i) (2*i+1):=fun i hi=>Jn hQ _ (Nat.le_refl _) hi
 have I_q:∀d e,d<2*es.length→e<2*es.length→ppR q es.length d e→(I d↔I e):=fun d e hd he h=>by
  have:=Vk (g:=fun d=>if tst (I d)=true then 1 else 0) hQ (fun d hd=>by
   by_cases h:I d
   ·rw [q_in d h,if_pos (jB.2 h),if_pos (jB.2 ((I_s d hd).2 h))]
   ·rw [q_out d h]) (fun i hi=>by
   have e1:=I_ot (2*i) (by omega);rw [kT] at e1;by_cases h:I (2*i)
   ·rw [if_pos (jB.2 h),if_pos (jB.2 (e1.2 h))]
   ·rw [if_neg (by rw [jB];exact h),if_neg (by rw [jB];exact fun k=>h (e1.1 k))]) es.length (Nat.le_refl _) d e hd he h
  by_cases h1:I d
  ·rw [if_pos (jB.2 h1)] at this;by_cases h2:I e
   ·exact ⟨fun _=>h2,fun _=>h1⟩
   ·rw [if_neg (by rw [jB];exact h2)] at this;omega
  ·rw [if_neg (by rw [jB];exact h1)] at this;by_cases h2:I e
   ·rw [if_pos (jB.2 h2)] at this;omega
   ·exact ⟨fun h=>absurd h h1,fun h=>absurd h h2⟩
 have q_orb:∀(i d:Nat),d<2*es.length→I d→Orb q d (qQ (sS es rs pl ρ a p) i d):=by
  intro i
  induction i with
  | zero=>intro d _ _;exact Orb.refl _ _
  | succ i ih=>
   intro d hd h;have:=ih _ (hS.lt d hd) ((I_s d hd).2 h)
   show Orb q d (qQ (sS es rs pl ρ a p) i (sS es rs pl ρ a p d))
   have h1:=Orb.step q d;rw [q_in d h] at h1;exact h1.trans this
 have hWequ:Equ (2*es.length) (fun x y=>ppR q es.length x y∨(¬I x ∧ ¬I y)):=by
  refine ⟨fun x hx=>.inl (hEQ.refl x hx),fun x y hx hy h=>?_,fun x y z hx hy hz h k=>?_⟩
  ·rcases h with h | h
   ·exact .inl (hEQ.symm _ _ hx hy h)
   ·exact .inr ⟨h.2,h.1⟩
  ·rcases h with h | h
   ·rcases k with k | k
    ·exact .inl (hEQ.trans _ _ _ hx hy hz h k)
    ·exact .inr ⟨fun e=>k.1 ((I_q x y hx hy h).1 e),k.2⟩
   ·rcases k with k | k
    ·exact .inr ⟨h.1,fun e=>h.2 ((I_q y z hy hz k).2 e)⟩
    ·exact .inr ⟨h.1,k.2⟩
 have hun:∀d,¬pl (vtx es d)→sS es rs pl ρ a p d=sig es rs d:=fun d h=>ny hc ha hp h
 have hall:∀d,d<2*es.length→I d→ppR q es.length (2*p) d:=fun d hd h=>by
  obtain ⟨c,hcm,hw⟩:=dX hf hc hWequ (fun d hd h=>by
   by_cases k:I d
   ·refine .inl (vB ⟨1,?_⟩ _)
    show q d=_
    rw [q_in d k,hun d h]
   ·exact .inr ⟨k,fun e=>k ((I_s d hd).1 (by rw [hun d h];exact e))⟩) (fun i hi=>.inl (hqpair i hi)) d hd (I_alive d hd h)
  have hc2:2*c<2*es.length:=by have:=(qq hc hcm).2.2;omega
  rcases hw with hw | hw
  ·have hIc:=(I_q d _ hd hc2 hw).1 h
   have:Orb (sS es rs pl ρ a p) (2*c) (2*p):=by
    rcases hrow c hcm with k | k
    ·exfalso;have a3:=(qq hc ha).2.2;exact hap2 ((hId _).1 ((I_rel _ _ hc2 (by omega) (vB k _)).1 hIc))
    ·exact k
   obtain ⟨i,hi⟩:=this;have h3:=q_orb i _ hc2 hIc;rw [hi] at h3;exact hEQ.symm _ _ hd h2p (hEQ.trans _ _ _ hd hc2 h2p hw (vB h3 _))
  ·exact absurd h hw.1
 obtain ⟨E2,hE2⟩:∃E2,E2=(List.range es.length).countP fun i=>tst (I (2*i)):=⟨_,rfl⟩;obtain ⟨X2,hX2⟩:∃X2,X2=(List.range es.length).countP fun i=>tst (¬I (2*i)):=⟨_,rfl⟩
 have hEX:E2+X2=es.length:=by
  have:=List.length_eq_countP_add_countP (fun i=>tst (I (2*i))) (l:=List.range es.length);rw [List.length_range] at this
  have e:(List.range es.length).countP (fun a=>decide ¬tst (I (2*a))=true)=(List.range es.length).countP fun i=>tst (¬I (2*i)):=qn fun k _=>by
   rw [Bool.eq_iff_iff,decide_eq_true_eq,jB,jB]
  omega
 have hparts:cls (ppR q es.length) (2*es.length)≤1+X2:=by
  have:=bT hEQ (2*p::((List.range es.length).filter fun i=>tst (¬I (2*i))).map fun i=>2*i) (fun x hx=>by
   by_cases hd:I x
   ·exact ⟨2*p,List.mem_cons_self ..,h2p,hall x hx hd⟩
   ·refine ⟨2*(x/2),List.mem_cons_of_mem _ (List.mem_map.2 ⟨x/2,List.mem_filter.2 ⟨List.mem_range.2 (by omega),jB.2 fun e=>hd ((I_half x hx).1 e)⟩,rfl⟩),by omega,?_⟩;rcases Nat.mod_two_eq_zero_or_one x with e | e
    ·rw [show 2*(x/2)=x by omega];exact hEQ.refl x hx
    ·have:=hqpair (x/2) (by omega)
     rwa [show 2*(x/2)+1=x by omega] at this)
  simp only [List.length_cons,List.length_map,←List.countP_eq_length_filter] at this;omega
 obtain ⟨U2,hU2⟩:∃U2,U2=(List.range N).countP fun x=>tst (¬pl x ∧ ∃d,d<2*es.length∧vtx es d=x∧I d):=⟨_,rfl⟩;obtain ⟨T2,hT2⟩:∃T2,T2=(List.range (2*es.length)).countP fun d=>tst (I d)&&ki es rs gr d:=⟨_,rfl⟩;have free:∀d,d<2*es.length→d%2=1→I d → ¬pl (vtx es d):=fun d hd h1 h hp=>I_alive d hd h (by unfold zf;rwa [show 2*(d/2)+1=d by omega])
 have hcount:T2+U2=E2:=by
  have h1:(List.range (2*es.length)).countP (fun d=>decide (d%2=1)&&tst (I (2*(d/2))))=(List.range es.length).countP fun i=>tst (I (2*i)):=YP (fun i=>tst (I (2*i))) es.length
  have h3:(List.range (2*es.length)).countP (fun d=>decide (d%2=1)&&tst (I (2*(d/2))))=T2+(List.range (2*es.length)).countP (fun d=>(!ev d && !ki es rs gr d)&&tst (I d)):=by
   rw [yA _ _ (ki es rs gr),hT2];congr 1
   ·apply qn;intro d hd;rw [Bool.eq_iff_iff];simp only [Bool.and_eq_true,decide_eq_true_eq,jB,I_half d hd];constructor
    ·rintro ⟨⟨_,h2⟩,h3⟩;exact ⟨h2,h3⟩
    ·rintro ⟨h1,h2⟩;have:=KE h2;exact ⟨⟨by unfold ev at this;simpa using this,h1⟩,h2⟩
   ·apply qn;intro d hd;rw [Bool.eq_iff_iff];simp only [Bool.and_eq_true,decide_eq_true_eq,jB,I_half d hd,Bool.not_eq_true'];constructor
    ·rintro ⟨⟨h1,h2⟩,h3⟩;exact ⟨⟨by unfold ev;simpa using h1,h3⟩,h2⟩
    ·rintro ⟨⟨h1,h2⟩,h3⟩;exact ⟨⟨by unfold ev at h1;simpa using h1,h3⟩,h2⟩
  have h4:(List.range (2*es.length)).countP (fun d=>(!ev d && !ki es rs gr d)&&tst (I d))=U2:=by
   rw [kl (v:=vtx es) (M:=N) _ _ (fun k hk=>xS hf.inN hk),hU2,←Jd];apply Je;intro x hx;by_cases hpx:¬pl x ∧ ∃d,d<2*es.length∧vtx es d=x∧I d
   ·rw [if_pos (jB.2 hpx),←hf.tops_at hx (fun e=>hpx.1 (by rw [e];exact hc.src))];obtain ⟨hpx,d,hd,hv,hId2⟩:=hpx;apply qn;intro k hk;by_cases hvk:vtx es k=x
    ·have:I k:=(I_rel d k hd hk (vB (pb hf.right hS hun hd hk (hv.trans hvk.symm) (by rw [hv];exact hpx)) _)).1 hId2;rw [jB.2 this,Bool.and_true]
    ·rw [decide_eq_false hvk,Bool.false_and,Bool.false_and]
   ·rw [if_neg (by rw [jB];exact hpx)];apply JJ;intro k hk;apply Bool.eq_false_iff.2;intro hq;simp only [Bool.and_eq_true,decide_eq_true_eq,jB,Bool.not_eq_true'] at hq;obtain ⟨k1,⟨k2,_⟩,k3⟩:=hq;exact hpx ⟨by rw [←k1];exact free k hk (by unfold ev at k2;simpa using k2) k3,k,hk,k1,k3⟩
  omega
 obtain ⟨v,hv⟩:∃v:Nat→Nat,v=fun d=>if tst (I d)=true then Vb N es pl d else N+1+d:=⟨_,rfl⟩
 obtain ⟨f,hff⟩:∃f:Nat→Nat,f=fun d=>if tst (I d)=true then jY N es rs (ot d) else (jE N es rs).length+d/2:=⟨_,rfl⟩
 have v_in:∀d,I d→v d=Vb N es pl d:=fun d h=>by rw [hv];simp only;rw [if_pos (jB.2 h)]
 have v_out:∀d,¬I d→v d=N+1+d:=fun d h=>by rw [hv];simp only;rw [if_neg (by rw [jB];exact h)]
 have f_in:∀d,I d→f d=jY N es rs (ot d):=fun d h=>by rw [hff];simp only;rw [if_pos (jB.2 h)]
 have f_out:∀d,¬I d→f d=(jE N es rs).length+d/2:=fun d h=>by rw [hff];simp only;rw [if_neg (by rw [jB];exact h)]
 have hIp:I (2*p):=(hId _).2 (hE.refl _ h2p);have hIb:I (2*b):=(hId _).2 hbI;have hIp1:I (2*p+1):=(I_rel _ _ h2p (by omega) (hpair p p3)).1 hIp;have htI':¬I t:=fun h=>htI ((hId _).1 h);obtain ⟨to1,to2⟩:=hf.top_face ht htop
 have key:=iE (v:=v) (f:=f) hQ (fun d hd=>by
   by_cases h:I d
   ·have h1:=(I_s d hd).2 h;rw [q_in d h,v_in _ h1,v_in _ h];exact (Gn hf hc ha hp hfe hd (I_alive d hd h)).2.1
   ·rw [q_out d h]) (fun d hd=>by
   have hod:=xY hd;by_cases h:I d
   ·have h1:=(I_ot d hd).2 h;have h2:=(I_s _ hod).2 h1;rw [q_in _ h1,f_in _ h2,f_in _ h];exact (Gn hf hc ha hp hfe hod (I_alive _ hod h1)).2.2
   ·have h1:¬I (ot d):=fun k=>h ((I_ot d hd).1 k);rw [q_out _ h1,f_out _ h1,f_out _ h];have:ot d/2=d/2:=by unfold ot;split<;>omega
    rw [this])
  (V:=N::((List.range N).filter (fun x=>tst (¬pl x ∧ ∃d,d<2*es.length∧vtx es d=x∧I d))++((List.range (2*es.length)).filter fun d=>tst (¬I (2*(d/2)))).map fun d=>N+1+d))
  (F:=o::jY N es rs t::((((List.range (2*es.length)).filter fun d=>tst (I d)&&ki es rs gr d).map (jY N es rs))++((List.range es.length).filter fun i=>tst (¬I (2*i))).map fun i=>(jE N es rs).length+i)) (by
   rw [List.nodup_cons];refine ⟨fun h=>?_,?_⟩
   ·rcases List.mem_append.1 h with h | h
    ·have:=List.mem_range.1 (List.mem_filter.1 h).1;omega
    ·obtain ⟨d,_,e⟩:=List.mem_map.1 h;omega
   ·rw [List.nodup_append];refine ⟨List.nodup_range.filter _,vu (List.nodup_range.filter _) (fun a _ b _ e=>by omega),fun a ha b hb e=>?_⟩;have:=List.mem_range.1 (List.mem_filter.1 ha).1;obtain ⟨d,_,e2⟩:=List.mem_map.1 hb;omega) (by
   have hlt:∀c∈((List.range (2*es.length)).filter fun d=>tst (I d)&&ki es rs gr d).map (jY N es rs),c<(jE N es rs).length∧c≠o∧c≠jY N es rs t:=fun c hcm=>by
    obtain ⟨d,hd,rfl⟩:=List.mem_map.1 hcm;obtain ⟨d1,d2⟩:=List.mem_filter.1 hd;have d1:=List.mem_range.1 d1;rw [Bool.and_eq_true,jB] at d2;refine ⟨(ya hf.right d1).1,(hf.top_face d1 d2.2).1,fun e=>htI' ?_⟩;rw [←to2 d d1 d2.2 e];exact d2.1
   rw [List.nodup_cons,List.nodup_cons];refine ⟨fun h=>?_,fun h=>?_,?_⟩
   ·rcases List.mem_cons.1 h with h | h
    ·exact to1 h.symm
    ·rcases List.mem_append.1 h with h | h
     ·exact (hlt _ h).2.1 rfl
     ·obtain ⟨d,_,e⟩:=List.mem_map.1 h;have:=hf.oF;omega
   ·rcases List.mem_append.1 h with h | h
    ·exact (hlt _ h).2.2 rfl
    ·obtain ⟨d,_,e⟩:=List.mem_map.1 h;have:=(ya hf.right ht).1;omega
   ·rw [List.nodup_append];refine ⟨vu (List.nodup_range.filter _) (fun a ha b hb e=>?_),vu (List.nodup_range.filter _) (fun a _ b _ e=>by omega),fun a ha b hb e=>?_⟩
    ·obtain ⟨a1,a2⟩:=List.mem_filter.1 ha;obtain ⟨b1,b2⟩:=List.mem_filter.1 hb;rw [Bool.and_eq_true] at a2 b2;exact (hf.top_face (List.mem_range.1 b1) b2.2).2 a (List.mem_range.1 a1) a2.2 e
    ·have:=(hlt a ha).1;obtain ⟨d,_,e2⟩:=List.mem_map.1 hb;omega) (fun c hcm=>by
   rcases List.mem_cons.1 hcm with rfl | hcm
   ·exact ⟨2*p,h2p,by rw [v_in _ hIp,kr p1 p2]⟩
   ·rcases List.mem_append.1 hcm with hcm | hcm
    ·obtain ⟨_,h2⟩:=List.mem_filter.1 hcm;obtain ⟨h3,d,hd,hvd,hI2⟩:=jB.1 h2;exact ⟨d,hd,by rw [v_in _ hI2,Yj (I_alive d hd hI2) (by rw [hvd];exact h3),hvd]⟩
    ·obtain ⟨d,hd,rfl⟩:=List.mem_map.1 hcm;obtain ⟨h1,h2⟩:=List.mem_filter.1 hd;have h1:=List.mem_range.1 h1;exact ⟨d,h1,v_out _ fun k=>(jB.1 h2) ((I_half d h1).2 k)⟩) (fun c hcm=>by
   rcases List.mem_cons.1 hcm with rfl | hcm
   ·exact ⟨2*b,by have:=(qq hc hb).2.2;omega,by rw [f_in _ hIb];exact hbo⟩
   rcases List.mem_cons.1 hcm with rfl | hcm
   ·exact ⟨2*p+1,by omega,by rw [f_in _ hIp1,htf,hfe]⟩
   ·rcases List.mem_append.1 hcm with hcm | hcm
    ·obtain ⟨d,hd,rfl⟩:=List.mem_map.1 hcm;obtain ⟨d1,d2⟩:=List.mem_filter.1 hd;have d1:=List.mem_range.1 d1;rw [Bool.and_eq_true,jB] at d2;have d3:=KE d2.2;have hnp:=free d d1 (by unfold ev at d3;simpa using d3) d2.1;refine ⟨sig es rs d,(yl hf.right d1).1,?_⟩;rw [f_in _ (by rw [←hun d hnp];exact (I_s d d1).2 d2.1),zT hf.right d1]
    ·obtain ⟨i,hi,rfl⟩:=List.mem_map.1 hcm;obtain ⟨h1,h2⟩:=List.mem_filter.1 hi;have h1:=List.mem_range.1 h1
     exact ⟨2*i,by omega,by rw [f_out _ (jB.1 h2),show 2*i/2=i by omega]⟩)
 simp only [List.length_cons,List.length_append,List.length_map,←List.countP_eq_length_filter] at key;have h2:(List.range (2*es.length)).countP (fun d=>tst (¬I (2*(d/2))))=2*(List.range es.length).countP fun i=>tst (¬I (2*i)):=JB (fun i=>tst (¬I (2*i))) es.length;rw [h2,←hU2,←hT2,←hX2] at key;omega
end
end Go.Proofs.YtneeknlhlkpnpaaGreat
/-
 Plain law: a vertex can always be placed: its edges stand side by side in the row, in its order. Written by an AI agent.
-/
namespace Go.Proofs.YtneeknlhlkpnpaaGreat
open Go.RowKit
section
variable {N:Nat}{es:List (Int×Int)}{rs:List (List Int)}{o s:Nat}{gr:Nat→Nat}{pl:Nat→Prop}{ρ : List Nat}
theorem Xe{a p:Nat}(hc:Cut N es rs o s pl ρ)(ha:a ∈ ρ)(hp:p ∈ ρ):∀(n k:Nat) (h:k+n < ρ.length),(∀j (hj:j < ρ.length),k≤j→j<k+n → ρ[j]≠a ∧ ρ[j]≠p)→Orb (sS es rs pl ρ a p) (2 * ρ[k]'(by omega)) (2 * ρ[k+n])
 | 0,k,h,_=>Orb.refl _ _
 | n+1,k,h,hne=>by
  obtain ⟨n1,n2⟩:=hne k (by omega) (Nat.le_refl _) (by omega);obtain ⟨c,_,e,_,_,c3⟩:=GE hc ha hp (b:=ρ[k]'(by omega)) (List.getElem_mem _);have h1:=Xe hc ha hp n (k+1) (by omega) (fun j hj h1 h2=>hne j hj (by omega) (by omega));rw [c3 n1 n2,Yc hc.nd (by omega)] at e;simp only [Nat.mod_eq_of_lt (show k+1 < ρ.length by omega)] at e;have h2:Orb (sS es rs pl ρ a p) (2 * ρ[k]'(by omega)) (2 * ρ[k+1]'(by omega)):=⟨1,e⟩;have e3:k+1+n=k+(n+1):=by omega
  simp only [e3] at h1;exact h2.trans h1
theorem Hb(hf:FitT N es rs o s gr)(hc:Cut N es rs o s pl ρ){i j:Nat}(hi:i < ρ.length)(hj:j < ρ.length)(htop:ki es rs gr (2 * ρ[j]+1)=true)(hsig:sig es rs (2 * ρ[j]+1)=2 * ρ[i]+1)(hij:i≠j) :
  i<j∧(i+1<j → ∃I:Nat→Prop,(∀d,d<2*es.length → ¬pl (vtx es d)→(I (sig es rs d)↔I d))∧(∀e,e<es.length→(I (2*e)↔I (2*e+1)))∧(∀k (hk:k < ρ.length),I (2 * ρ[k])↔i<k∧k<j)):=by
 have ha:=List.getElem_mem hi;have hb:=List.getElem_mem hj;obtain ⟨a1,a2,a3⟩:=qq hc ha;obtain ⟨b1,b2,b3⟩:=qq hc hb;have ht:2 * ρ[j]+1<2*es.length:=by omega
 obtain ⟨to1,_⟩:=hf.top_face ht htop;have f1:jY N es rs (ot (2 * ρ[i]+1))=jY N es rs (2 * ρ[j]+1):=by rw [←hsig,zT hf.right ht]
 have f2:jY N es rs (ot (2 * ρ[j]))=jY N es rs (2 * ρ[j]+1):=by rw [kT]
 have h0:jY N es rs (ot (2 * ρ[0]'(by omega)))=o:=hc.out _ (by rw [List.head?_eq_getElem?,List.getElem?_eq_getElem (by omega)])
 have hj0:j≠0:=fun e=>by
  subst e;rw [f2] at h0;exact to1 h0
 have hpm : ρ[j-1]'(by omega) ∈ ρ :=List.getElem_mem _
 have hnx:nxr ρ (ρ[j-1]'(by omega)) = ρ[j]:=by
  rw [Yc hc.nd (by omega)];have e:(j-1+1) % ρ.length=j:=by rw [show j-1+1=j by omega];exact Nat.mod_eq_of_lt hj
  simp only [e]
 have fp:jY N es rs (ot (2 * ρ[i]+1))=jY N es rs (ot (2*(ρ[j-1]'(by omega))+1)):=by
  rw [hc.ring _ hpm,hnx,f1,f2]
 by_cases hadj:j-1=i
 ·exact ⟨by omega,fun h=>by omega⟩
 have hap : ρ[i] ≠ ρ[j-1]'(by omega):=fun e=>hadj (ku hc.nd _ _ e).symm;obtain ⟨hS,hapart,hrow⟩:=VM hf hc ha hpm hap fp;have hE:=kS hS es.length (Nat.le_refl _);have h2p:2*(ρ[j-1]'(by omega))<2*es.length:=by have:=(qq hc hpm).2.2;omega
 have hpair:∀e,e<es.length→ppR (sS es rs pl ρ ρ[i] (ρ[j-1]'(by omega))) es.length (2*e) (2*e+1):=fun e he=>Jn hS _ (Nat.le_refl _) he
 have hsa:sS es rs pl ρ ρ[i] (ρ[j-1]'(by omega)) (2 * ρ[i])=2 * ρ[j]:=by
  obtain ⟨c,_,e,c1,_,_⟩:=GE hc ha hpm ha;rw [e,c1 rfl,hnx]
 have htI:¬ppR (sS es rs pl ρ ρ[i] (ρ[j-1]'(by omega))) es.length (2 * ρ[j]+1) (2*(ρ[j-1]'(by omega))):=fun h=>hapart (by
  have h0:Orb (sS es rs pl ρ ρ[i] (ρ[j-1]'(by omega))) (2 * ρ[i]) (2 * ρ[j]):=⟨1,hsa⟩;have h1:=vB h0 es.length
  exact hE.trans _ _ _ (by omega) (by omega) h2p h1 (hE.trans _ _ _ (by omega) ht h2p (hpair _ b3) h))
 have hnd:∀k (hk:k < ρ.length),k≠i→k≠j-1 → ρ[k] ≠ ρ[i] ∧ ρ[k] ≠ ρ[j-1]'(by omega):=fun k hk h1 h2=>⟨fun e=>h1 (ku hc.nd _ _ e),fun e=>h2 (ku hc.nd _ _ e)⟩
 have hij2:i<j:=by
  apply Classical.byContradiction;intro hno;have hout:=am hf hc ha hpm hap fp ht htop f1.symm htI (List.getElem_mem (show 0 < ρ.length by omega)) h0;apply hout;have:=Xe (es:=es) (rs:=rs) hc ha hpm (j-1) 0 (by omega) (fun k hk h1 h2=>hnd k hk (by omega) (by omega));simp only [Nat.zero_add] at this;exact vB this _
 refine ⟨hij2,fun hlt=>⟨fun d=>ppR (sS es rs pl ρ ρ[i] (ρ[j-1]'(by omega))) es.length d (2*(ρ[j-1]'(by omega))),fun d hd hpd=>?_,fun e he=>?_,fun k hk=>?_⟩⟩
 ·have h1:ppR (sS es rs pl ρ ρ[i] (ρ[j-1]'(by omega))) es.length d (sig es rs d):=vB ⟨1,by show sS _ _ _ _ _ _ d=_;exact ny hc ha hpm hpd⟩ _;have hd2:=(yl hf.right hd).1;exact ⟨fun h=>hE.trans _ _ _ hd hd2 h2p h1 h,fun h=>hE.trans _ _ _ hd2 hd h2p (hE.symm _ _ hd hd2 h1) h⟩
 ·have h1:=hpair e he;exact ⟨fun h=>hE.trans _ _ _ (by omega) (by omega) h2p (hE.symm _ _ (by omega) (by omega) h1) h,fun h=>hE.trans _ _ _ (by omega) (by omega) h2p h1 h⟩
 ·have hk2:2 * ρ[k]<2*es.length:=by have:=(qq hc (List.getElem_mem hk)).2.2;omega
  constructor
  ·intro h;apply Classical.byContradiction;intro hno
   have hka:Orb (sS es rs pl ρ ρ[i] (ρ[j-1]'(by omega))) (2 * ρ[k]) (2 * ρ[i]):=by
    by_cases hki:k≤i
    ·have:=Xe (es:=es) (rs:=rs) hc ha hpm (i-k) k (by omega) (fun l hl h1 h2=>hnd l hl (by omega) (by omega));simp only [show k+(i-k)=i by omega] at this;exact this
    ·have hkj:j≤k:=by omega
     have e1:=Xe (es:=es) (rs:=rs) hc ha hpm (ρ.length-1-k) k (by omega) (fun l hl h1 h2=>hnd l hl (by omega) (by omega));simp only [show k+(ρ.length-1-k) = ρ.length-1 by omega] at e1;have e2:=Xe (es:=es) (rs:=rs) hc ha hpm i 0 (by omega) (fun l hl h1 h2=>hnd l hl (by omega) (by omega));simp only [Nat.zero_add] at e2;obtain ⟨c,_,e,_,_,c3⟩:=GE hc ha hpm (b:=ρ[ρ.length-1]'(by omega)) (List.getElem_mem _);obtain ⟨n1,n2⟩:=hnd (ρ.length-1) (by omega) (by omega) (by omega);rw [c3 n1 n2,Yc hc.nd (by omega)] at e;have em:(ρ.length-1+1) % ρ.length=0:=by rw [show ρ.length-1+1 = ρ.length by omega];exact Nat.mod_self _
     simp only [em] at e;exact e1.trans (Orb.trans ⟨1,e⟩ e2)
   exact hapart (hE.trans _ _ _ (by omega) hk2 h2p (hE.symm _ _ hk2 (by omega) (vB hka _)) h)
  ·rintro ⟨h1,h2⟩;have:=Xe (es:=es) (rs:=rs) hc ha hpm (j-1-k) k (by omega) (fun l hl h1 h2=>hnd l hl (by omega) (by omega));simp only [show k+(j-1-k)=j-1 by omega] at this;exact vB this _
def nA(N:Nat)(es:List (Int×Int))(pl:Nat→Prop)(ρ : List Nat)(w:Nat):Prop:=w<N ∧ ¬pl w ∧ ∀e,e<es.length→vtx es (2*e+1)=w→e ∈ ρ
def fI(N:Nat)(es:List (Int×Int))(rs:List (List Int))(gr:Nat→Nat)(pl:Nat→Prop)(ρ : List Nat)(w:Nat):Prop:=nA N es pl ρ w ∧ ∀i j (hi:i < ρ.length) (hj:j < ρ.length),vtx es (2 * ρ[j]+1)=w→ki es rs gr (2 * ρ[j]+1)=true→sig es rs (2 * ρ[j]+1)=2 * ρ[i]+1→i+1=j
theorem oR(hf:FitT N es rs o s gr)(hc:Cut N es rs o s pl ρ):∀(n lo:Nat) (w:Nat),nA N es pl ρ w→(∀k (hk:k < ρ.length),vtx es (2 * ρ[k]+1)=w→lo≤k∧k<lo+n) → ∃w,fI N es rs gr pl ρ w:=by
 have hin:=hf.inN;have ho:=hf.good.ord;rw [Int.toNat_natCast] at ho;obtain ⟨L,hL⟩:=xt hin ho;intro n
 induction n using Nat.strongRecOn with
 | _ n ih=>
  intro lo w hw hb;by_cases hg:fI N es rs gr pl ρ w
  ·exact ⟨w,hg⟩
  · -- a pair that does not stand side by side
   have:∃i j,∃hi:i < ρ.length,∃hj:j < ρ.length,vtx es (2 * ρ[j]+1)=w∧ki es rs gr (2 * ρ[j]+1)=true∧sig es rs (2 * ρ[j]+1)=2 * ρ[i]+1∧i+1≠j:=by
    apply Classical.byContradiction;intro hno;apply hg;refine ⟨hw,fun i j hi hj h1 h2 h3=>?_⟩;apply Classical.byContradiction;intro h4;exact hno ⟨i,j,hi,hj,h1,h2,h3,h4⟩
   obtain ⟨i,j,hi,hj,h1,h2,h3,h4⟩:=this
   have hwi:vtx es (2 * ρ[i]+1)=w:=by
    have:=(yl hf.right (d:=2 * ρ[j]+1) (by have:=(qq hc (List.getElem_mem hj)).2.2;omega)).2;rw [h3] at this;rw [this,h1]
   by_cases hij:i=j
   · -- one edge alone has no top
    exfalso;subst hij;have ha3:=(qq hc (List.getElem_mem hi)).2.2;have hd:2 * ρ[i]+1<2*es.length:=by omega
    have hall:∀d,d<2*es.length→vtx es d=w→d=2 * ρ[i]+1:=fun d hd2 hv=>by
     obtain ⟨k,hk⟩:=(Yh hf.right hd hd2).2 (by rw [hwi,hv])
     have:∀k,qQ (sig es rs) k (2 * ρ[i]+1)=2 * ρ[i]+1:=by
      intro k
      induction k with
      | zero=>rfl
      | succ k ihk=>show qQ (sig es rs) k (sig es rs (2 * ρ[i]+1))=_;rw [h3];exact ihk
     rw [←hk,this]
    have hws:w≠s:=fun e=>hw.2.1 (by rw [e];exact hc.src)
    have hne:¬vk es w:=fun ⟨d,hd2,hv,he⟩=>by
     rw [hall d hd2 hv] at he;simp [ev] at he
    have ht:=(hf.tip_even hw.1 hws).2 hne;obtain ⟨g1,g2⟩:=hf.tip w hw.1 ht;have hgr:=hall _ g1 g2;unfold ki at h2;rw [hwi,ht,hgr] at h2;simp at h2
   obtain ⟨hlt,hbt⟩:=Hb hf hc hi hj h2 h3 hij;obtain ⟨I,Is,Ip,Ik⟩:=hbt (by omega);have bi:=hb i hi hwi;have bj:=hb j hj h1;have hi1:i+1 < ρ.length:=by omega
   have hex:∃r,∃d,d<2*es.length ∧ ¬pl (vtx es d)∧I d∧L (vtx es d)=r:=by
    have h5:=(Ik (i+1) hi1).2 ⟨by omega,by omega⟩;obtain ⟨_,_,h6⟩:=qq hc (List.getElem_mem hi1);exact ⟨_,2 * ρ[i+1]+1,by omega,((hc.mem _).1 (List.getElem_mem hi1)).2.2,(Ip _ h6).1 h5,rfl⟩
   obtain ⟨r0,hr0⟩:=hex;obtain ⟨r,_,⟨d,hd,hdp,hdI,hdr⟩,hmin⟩:=xG (P:=fun r=>∃d,d<2*es.length ∧ ¬pl (vtx es d)∧I d∧L (vtx es d)=r) hr0;have hy:=xS hin hd
   have same:∀e,e<2*es.length→vtx es e=vtx es d→I e:=fun e he hv=>by
    obtain ⟨k,hk⟩:=(Yh hf.right hd he).2 hv.symm
    have:∀(k x:Nat),x<2*es.length → ¬pl (vtx es x)→(I (qQ (sig es rs) k x)↔I x):=by
     intro k
     induction k with
     | zero=>intro x _ _;exact Iff.rfl
     | succ k ihk=>
      intro x hx hpx;obtain ⟨k1,k2⟩:=yl hf.right hx
      show I (qQ (sig es rs) k (sig es rs x))↔I x
      rw [ihk _ k1 (by rw [k2];exact hpx),Is x hx hpx]
    rw [←hk,this k d hd hdp];exact hdI
   have hfull:nA N es pl ρ (vtx es d):=by
    refine ⟨hy,hdp,fun e he hv=>(hc.mem e).2 ⟨he,?_,by rw [hv];exact hdp⟩⟩;apply Classical.byContradiction;intro hpt;have hI2:=(Ip e he).2 (same (2*e+1) (by omega) hv)
    have hlt2:L (vtx es (2*e))<L (vtx es (2*e+1)):=by
     obtain ⟨e1,_,_⟩:=xD hin he;have:=hL _ (List.getElem_mem he);rw [e1] at this;simpa using this
    rw [hv,hdr] at hlt2;exact hmin _ hlt2 ⟨2*e,by omega,hpt,hI2,rfl⟩
   refine ih (j-i-1) (by omega) (i+1) (vtx es d) hfull fun k hk hv=>?_;have h6:=(qq hc (List.getElem_mem hk)).2.2;have:=(Ik k hk).1 ((Ip _ h6).2 (same _ (by omega) hv));omega
theorem au(hf:FitT N es rs o s gr)(hc:Cut N es rs o s pl ρ){x:Nat}(hx:x<N)(hp:¬pl x):∃w,fI N es rs gr pl ρ w:=by
 have hin:=hf.inN;have ho:=hf.good.ord;rw [Int.toNat_natCast] at ho;obtain ⟨L,hL⟩:=xt hin ho;obtain ⟨r,_,⟨w,hw,hwp,hwr⟩,hmin⟩:=xG (P:=fun r=>∃w,w<N ∧ ¬pl w∧L w=r) (a:=L x) ⟨x,hx,hp,rfl⟩;refine oR hf hc ρ.length 0 w ⟨hw,hwp,fun e he hv=>(hc.mem e).2 ⟨he,?_,by rw [hv];exact hwp⟩⟩ fun k hk _=>⟨by omega,by omega⟩;apply Classical.byContradiction;intro hpt
 have hlt2:L (vtx es (2*e))<L (vtx es (2*e+1)):=by
  obtain ⟨e1,_,_⟩:=xD hin he;have:=hL _ (List.getElem_mem he);rw [e1] at this;simpa using this
 rw [hv,hwr] at hlt2;exact hmin _ hlt2 ⟨vtx es (2*e),xS hin (by omega),hpt,rfl⟩
end
end Go.Proofs.YtneeknlhlkpnpaaGreat
/-
 Plain law: a state of the run as a cut of the map. Written by an AI agent.
-/
namespace Go.Proofs.YtneeknlhlkpnpaaGreat
open Go.RowKit
def cz(r:List Itm):List Nat:=(r.filter fun e=>decide (e.1 ≠ -1)).map fun e=>e.1.toNat
theorem WW{α : Type}(p : α → Bool):∀(l X Y Z:List α),l.filter p=X++Y++Z→Y≠[] → ∃A E B,l=A++E++B∧A.filter p=X∧E.filter p=Y∧B.filter p=Z∧(∃e,E.head? = some e∧p e=true) ∧ ∃e,E.getLast? = some e∧p e=true:=by
 intro l X Y Z h hY
 have split1:∀(l U V:List α),l.filter p=U++V→V≠[] → ∃A C,l=A++C∧A.filter p=U∧C.filter p=V ∧ ∃e,C.head? = some e∧p e=true:=by
  intro l
  induction l with
  | nil=>
   intro U V h hV;simp only [List.filter_nil] at h;exact absurd (List.append_eq_nil_iff.1 h.symm).2 hV
  | cons x l ih=>
   intro U V h hV;rw [List.filter_cons] at h
   cases hx:p x with
   | true=>
    rw [if_pos hx] at h
    cases U with
    | nil=>exact ⟨[],x::l,rfl,rfl,by rw [List.filter_cons,if_pos hx];exact h,x,rfl,hx⟩
    | cons u U=>
     rw [List.cons_append] at h;obtain ⟨h1,h2⟩:=List.cons.inj h;obtain ⟨A,C,e1,e2,e3,e4⟩:=ih U V h2 hV;exact ⟨x::A,C,by rw [e1];rfl,by rw [List.filter_cons,if_pos hx,e2,h1],e3,e4⟩
   | false=>
    rw [if_neg (by rw [hx];simp)] at h;obtain ⟨A,C,e1,e2,e3,e4⟩:=ih U V h hV;exact ⟨x::A,C,by rw [e1];rfl,by rw [List.filter_cons,if_neg (by rw [hx];simp),e2],e3,e4⟩
 rw [List.append_assoc] at h;obtain ⟨A,C,e1,e2,e3,hd,hd1,hd2⟩:=split1 l X (Y++Z) h (fun e=>hY (List.append_eq_nil_iff.1 e).1);have hr:C.reverse.filter p=Z.reverse++Y.reverse:=by rw [List.filter_reverse,e3,List.reverse_append]
 obtain ⟨B,E,f1,f2,f3,lt,l1,l2⟩:=split1 C.reverse Z.reverse Y.reverse hr (fun e=>hY (List.reverse_eq_nil_iff.1 e));have hC:C=E.reverse++B.reverse:=by rw [←List.reverse_append,←f1,List.reverse_reverse]
 have hE:E.reverse.filter p=Y:=by rw [List.filter_reverse,f3,List.reverse_reverse]
 have hB:B.reverse.filter p=Z:=by rw [List.filter_reverse,f2,List.reverse_reverse]
 have hEne:E.reverse≠[]:=fun e=>hY (by rw [←hE,e];rfl);refine ⟨A,E.reverse,B.reverse,by rw [e1,hC,List.append_assoc],e2,hE,hB,⟨hd,?_,hd2⟩,lt,by rw [List.getLast?_reverse];exact l1,l2⟩;rw [hC] at hd1
 cases hq:E.reverse with
 | nil=>exact absurd hq hEne
 | cons x t=>rw [hq] at hd1;exact hd1
section
variable {N:Nat}{es:List (Int×Int)}{rs:List (List Int)}{o s:Nat}{gr:Nat→Nat}{outs:List (List Int)}{r:List Itm}{pl:List Int}{en:List (List Itm)}
def itL(N:Nat)(es:List (Int×Int))(rs:List (List Int))(gr:Nat→Nat)(e:Itm):Nat:=if e.1 = -1 then jY N es rs (gr e.2.1.toNat) else jY N es rs (ot (2*e.1.toNat))
def itR(N:Nat)(es:List (Int×Int))(rs:List (List Int))(gr:Nat→Nat)(e:Itm):Nat:=if e.1 = -1 then jY N es rs (gr e.2.1.toNat) else jY N es rs (ot (2*e.1.toNat+1))
theorem mh(hI:SwI N es outs r pl en)(hO:zO N es outs){i:Nat}:i∈cz r↔i<es.length∧itE es i∈r:=by
 unfold cz;constructor
 ·intro h;obtain ⟨e,he,rfl⟩:=List.mem_map.1 h;obtain ⟨h1,h2⟩:=List.mem_filter.1 he;rcases hI.item hO (List.mem_append_left _ h1) with ⟨i,hi,_,rfl⟩ | ⟨x,_,_,rfl⟩
  ·exact ⟨hi,h1⟩
  ·simp at h2
 ·rintro ⟨_,h2⟩;exact List.mem_map.2 ⟨itE es i,List.mem_filter.2 ⟨h2,decide_eq_true fun e=>by have e:(i:Int) = -1:=e;omega⟩,rfl⟩
theorem iJ(hf:FitT N es rs o s gr)(hO:zO N es outs)(hI:SwI N es outs r pl en)(hs:(s:Int)∈pl)(hch:chn (itL N es rs gr) (itR N es rs gr) o r o):Cut N es rs o s (fun x=>(x:Int)∈pl) (cz r):=by
 have hin:=hf.inN
 have hndr:(cz r).Nodup:=by
  have h1:=(List.nodup_append.1 (hI.nodup hO)).1;unfold cz;refine vu (h1.filter _) fun a ha b hb e=>?_;obtain ⟨a1,a2⟩:=List.mem_filter.1 ha;obtain ⟨b1,b2⟩:=List.mem_filter.1 hb;rcases hI.item hO (List.mem_append_left _ a1) with ⟨i,_,_,rfl⟩ | ⟨x,_,_,rfl⟩
  ·rcases hI.item hO (List.mem_append_left _ b1) with ⟨j,_,_,rfl⟩ | ⟨x,_,_,rfl⟩
   ·have:i=j:=by simpa [itE] using e
    rw [this]
   ·simp at b2
  ·simp at a2
 have hchE:chn (fun i=>jY N es rs (ot (2*i))) (fun i=>jY N es rs (ot (2*i+1))) o (cz r) o:=by
  unfold cz;refine XC _ ?_ (YQ (p:=fun e:Itm=>decide (e.1 ≠ -1)) _ ?_ hch)
  ·intro e he;have h2:=(List.mem_filter.1 he).2;simp only [decide_eq_true_eq] at h2;unfold itL itR;rw [if_neg h2,if_neg h2];exact ⟨rfl,rfl⟩
  ·intro e _ hp;simp only [decide_eq_false_iff_not,Classical.not_not] at hp;unfold itL itR;rw [if_pos hp,if_pos hp]
 refine ⟨hndr,fun i=>?_,fun i hi hp=>?_,hs,fun a ha=>by have:=QL hchE ha;exact this,fun a ha=>?_⟩
 ·rw [mh hI hO];constructor
  ·rintro ⟨hi,hm⟩;have h1:=zL hin hi;have h2:=zY hin hi;refine ⟨hi,?_,?_⟩
   ·rw [h1];rcases hI.item hO (List.mem_append_left _ hm) with ⟨j,_,h3,e⟩ | ⟨x,_,_,e⟩
    ·have:i=j:=by have h9:(i:Int)=(j:Int):=congrArg Prod.fst e;omega
     rw [this];exact h3
    ·have:=congrArg Prod.fst e;simp [itE] at this
   ·have:=hI.rowHead hO hm;rw [h2];exact this
  ·rintro ⟨hi,h3,h4⟩;have h1:=zL hin hi;have h2:=zY hin hi;refine ⟨hi,?_⟩;have hm:itE es i∈r++en.flatten:=hI.tot.mem_iff.2 ((bn hO hI.pln).2 (.inl ⟨i,hi,by rw [←h1];exact h3,rfl⟩));rcases List.mem_append.1 hm with hm | hm
   ·exact hm
   ·exfalso;obtain ⟨E,hE,hmE⟩:=List.mem_flatten.1 hm;obtain ⟨z,hz,rfl⟩:=List.getElem_of_mem hE;have hzN:z<N:=by rw [←hI.len];exact hz
    have eg:en.getD z []=en[z]:=by rw [List.getD_eq_getElem?_getD,List.getElem?_eq_getElem hz];rfl
    have hzp:(z:Int)∈pl:=by
     apply Classical.byContradiction;intro hn;have:=hI.un z hzN hn;rw [eg] at this;rw [this] at hmE
     cases hmE
    rcases hI.hd z hzN _ (by rw [eg];exact hmE) with h5 | h5
    ·have h5:(es.getD i (0,0)).2=(z:Int):=h5;exact h4 (by rw [h2,h5];exact hzp)
    ·have h5:(es.getD i (0,0)).2 = -1:=h5;omega
 ·have h1:=zL hin hi;have h2:=zY hin hi;rw [h1];exact (hI.ended hO (xS hin (by omega:2*i+1<2*es.length)) hp hi h2.symm).2
 ·obtain ⟨i,hi,rfl⟩:=List.getElem_of_mem ha;rw [Yc hndr hi];exact (ff hi hchE).symm
end
end Go.Proofs.YtneeknlhlkpnpaaGreat
/-
 Plain law: the edges to a vertex that can be placed are a piece of the row, in the vertex' order. Written by an AI agent.
-/
namespace Go.Proofs.YtneeknlhlkpnpaaGreat
open Go.RowKit
section
variable {N:Nat}{es:List (Int×Int)}{rs:List (List Int)}{o s:Nat}{gr:Nat→Nat}{w:Nat}{D P Q:List Nat}
theorem NormR.len(h:NormR es rs gr w D P Q):D.length=P.length+Q.length:=by rw [h.parts];simp
theorem NormR.atP(h:NormR es rs gr w D P Q){k:Nat}(hk:k<P.length):D[k]'(by rw [h.len];omega)=2*P[k]:=by
 have:=h.parts;subst this;rw [List.getElem_append_left (by rw [List.length_map];exact hk),List.getElem_map]
theorem NormR.atQ(h:NormR es rs gr w D P Q){k:Nat}(hk:k<Q.length):D[P.length+(Q.length-1-k)]'(by rw [h.len];omega)=2*Q[k]+1:=by
 have:=h.parts;subst this;rw [List.getElem_append_right (by rw [List.length_map];omega),List.getElem_map,List.getElem_reverse];simp only [List.length_map];have e:Q.length-1-(P.length+(Q.length-1-k)-P.length)=k:=by omega
 simp only [e]
theorem NormR.ndQ(h:NormR es rs gr w D P Q):Q.Nodup:=by
 have h1:=h.nd;rw [h.parts] at h1;have h2:=(List.nodup_append.1 h1).2.1;rw [List.nodup_iff_pairwise_ne,List.pairwise_map] at h2;have h3:Q.reverse.Nodup:=List.nodup_iff_pairwise_ne.2 (h2.imp fun h e=>h (by rw [e]));exact (List.reverse_perm Q).nodup_iff.1 h3
theorem NormR.ndP(h:NormR es rs gr w D P Q):P.Nodup:=by
 have h1:=h.nd;rw [h.parts] at h1;have h2:=(List.nodup_append.1 h1).1;rw [List.nodup_iff_pairwise_ne,List.pairwise_map] at h2;exact List.nodup_iff_pairwise_ne.2 (h2.imp fun h e=>h (by rw [e]))
theorem NormR.memQ(h:NormR es rs gr w D P Q){a:Nat}:a∈Q↔a<es.length∧vtx es (2*a+1)=w:=by
 have h1:=h.mem (2*a+1);rw [h.parts] at h1;simp only [List.mem_append,List.mem_map,List.mem_reverse] at h1;constructor
 ·intro ha;have:=h1.1 (.inr ⟨a,ha,rfl⟩);exact ⟨by omega,this.2⟩
 ·rintro ⟨h2,h3⟩;rcases h1.2 ⟨by omega,h3⟩ with ⟨b,_,e⟩ | ⟨b,hb,e⟩
  ·omega
  ·rw [show a=b by omega];exact hb
theorem NormR.memP(h:NormR es rs gr w D P Q){a:Nat}:a∈P↔a<es.length∧vtx es (2*a)=w:=by
 have h1:=h.mem (2*a);rw [h.parts] at h1;simp only [List.mem_append,List.mem_map,List.mem_reverse] at h1;constructor
 ·intro ha;have:=h1.1 (.inl ⟨a,ha,rfl⟩);exact ⟨by omega,this.2⟩
 ·rintro ⟨h2,h3⟩;rcases h1.2 ⟨by omega,h3⟩ with ⟨b,hb,e⟩ | ⟨b,_,e⟩
  ·rw [show a=b by omega];exact hb
  ·omega
theorem NormR.sigQ(h:NormR es rs gr w D P Q){k:Nat}(hk:k+1<Q.length):sig es rs (2*Q[k+1]+1)=2*Q[k]+1:=by
 have h1:=h.next (P.length+(Q.length-1-(k+1))) (by rw [h.len];omega)
 rw [h.atQ hk] at h1;have h2:=h.atQ (k:=k) (by omega);have e:P.length+(Q.length-1-(k+1))+1=P.length+(Q.length-1-k):=by omega
 simp only [e] at h1;rw [h1,h2]
theorem NormR.topQ(h:NormR es rs gr w D P Q){k:Nat}(hk:k+1<Q.length):ki es rs gr (2*Q[k+1]+1)=true:=by
 have hm:=(h.memQ.1 (List.getElem_mem hk));unfold ki;rw [Bool.and_eq_true,decide_eq_true_eq];refine ⟨(kb _ _).2 ⟨by unfold ev;simp,by rw [h.sigQ hk];unfold ev;simp⟩,?_⟩;rw [hm.2]
 cases ht:yJ es w with
 | false=>rfl
 | true=>
  rw [Bool.true_and,Bool.not_eq_true',decide_eq_false_iff_not];intro e;have h1:=h.great ht;have h2:=h.atQ (k:=0) (by omega);have hl:=h.len;rw [List.getLast?_eq_getElem?,List.getElem?_eq_getElem (by omega)] at h1;have h3:=Option.some.inj h1;have e2:P.length+(Q.length-1-0)=D.length-1:=by omega
  simp only [e2] at h2;rw [h2,e] at h3;have:=ku h.ndQ (i:=0) (j:=k+1) (by omega) hk (by omega);omega
theorem dq{pl:Nat→Prop}{ρ : List Nat}(_hn : ρ.Nodup)(h:NormR es rs gr w D P Q)(hg:fI N es rs gr pl ρ w)(hQ:Q≠[]):∃X Z,ρ = X++Q++Z:=by
 have hl:=List.length_pos_iff.2 hQ
 have hin:∀k (hk:k<Q.length),Q[k] ∈ ρ :=fun k hk=>by
  obtain ⟨h1,h2⟩:=h.memQ.1 (List.getElem_mem hk);exact hg.1.2.2 _ h1 h2
 obtain ⟨i0,hi0,e0⟩:=List.getElem_of_mem (hin 0 hl)
 have key:∀k (hk:k<Q.length),∃h:i0+k < ρ.length,ρ[i0+k]=Q[k]:=by
  intro k
  induction k with
  | zero=>intro _;exact ⟨hi0,e0⟩
  | succ k ih=>
   intro hk;obtain ⟨h1,h2⟩:=ih (by omega);obtain ⟨j,hj,ej⟩:=List.getElem_of_mem (hin (k+1) hk);have:=hg.2 (i0+k) j h1 hj (by rw [ej];exact (h.memQ.1 (List.getElem_mem hk)).2) (by rw [ej];exact h.topQ hk) (by rw [ej,h2];exact h.sigQ hk);subst this;exact ⟨hj,ej⟩
 obtain ⟨hlast,_⟩:=key (Q.length-1) (by omega);refine ⟨ρ.take i0,ρ.drop (i0+Q.length),?_⟩
 have hmid:(ρ.drop i0).take Q.length=Q:=by
  apply List.ext_getElem
  ·rw [List.length_take,List.length_drop];omega
  ·intro k h1 h2;rw [List.getElem_take,List.getElem_drop];exact (key k h2).2
 have h1:=List.take_append_drop i0 ρ;have h2:=List.take_append_drop Q.length (ρ.drop i0);rw [hmid,List.drop_drop] at h2;rw [List.append_assoc,h2];exact h1.symm
end
end Go.Proofs.YtneeknlhlkpnpaaGreat
