import Derived.Test.YtneeknlhlkpnpaaGreatZRRf9
import Derived.Test.YtneeknlhlkpnpaaGreatZFlat3
import Derived.Test.YtneeknlhlkpnpaaGreatZAng1
/-
 Euler's inequality by labels (plain law). Written by an AI agent.
-/
namespace Go.Proofs.YtneeknlhlkpnpaaGreat
open Go.RowKit
theorem ey(v:Nat→Nat):∀N:Nat,∃M,∀x,x<N→v x<M
 | 0=>⟨0,fun x h=>absurd h (Nat.not_lt_zero _)⟩
 | N+1=>by
  obtain ⟨M,hM⟩:=ey v N;refine ⟨max M (v N+1),fun x hx=>?_⟩;by_cases e:x=N
  ·subst e;omega
  ·have:=hM x (by omega);omega
section
variable {R:Nat→Nat→Prop}{v:Nat→Nat}{N:Nat}
/-- a relation has as many classes as labels that it keeps, at least -/
theorem xI(h:∀x y,x<N→y<N→R x y→v x=v y){V:List Nat}(hn:V.Nodup)(hV:∀a∈V,∃x,x<N∧v x=a):V.length≤cls R N:=by
 refine Nat.le_trans ?_ (Uv h);obtain ⟨M,hM⟩:=ey v N;rw [VI N hM,List.countP_eq_length_filter];refine List.Nodup.length_le_of_subset hn fun a ha=>?_;obtain ⟨x,hx,e⟩:=hV a ha;exact List.mem_filter.2 ⟨List.mem_range.2 (by rw [←e];exact hM x hx),jt.2 ⟨x,hx,e⟩⟩
/-- and where these are all, labels tell the classes -/
theorem GO(hE:Equ N R)(h:∀x y,x<N→y<N→R x y→v x=v y){V:List Nat}(hn:V.Nodup)(hV:∀a∈V,∃x,x<N∧v x=a)(hle:cls R N≤V.length){x y:Nat}(hx:x<N)(hy:y<N)(e:v x=v y):R x y:=by
 apply Classical.byContradiction;intro hno;have h1:=JJ hE hx hy hno
 have h2:=xI (R:=xx R x y) (v:=v) (N:=N) (fun a b ha hb hm=>by
  rcases hm with hm | ⟨h3,h4⟩ | ⟨h3,h4⟩
  ·exact h a b ha hb hm
  ·rw [h a x ha hx h3,e,h y b hy hb h4]
  ·rw [h a y ha hy h3,←e,h x b hx hb h4]) hn hV
 omega
/-- no more classes than there are ones to which all are related -/
theorem eq(hE:Equ N R)(reps:List Nat)(hr:∀x,x<N → ∃r∈reps,r<N∧R r x):cls R N≤reps.length:=by
 unfold cls;rw [List.countP_eq_length_filter]
 have hg:∃g:Nat→Nat,∀x,x<N→g x∈reps∧g x<N∧R (g x) x:=by
  refine ⟨fun x=>if h:x<N then Classical.choose (hr x h) else 0,fun x hx=>?_⟩;simp only [dif_pos hx];exact Classical.choose_spec (hr x hx)
 obtain ⟨g,hg⟩:=hg;rw [←List.length_map (f:=g)];refine List.Nodup.length_le_of_subset ?_ fun a ha=>?_
 ·rw [List.nodup_iff_pairwise_ne,List.pairwise_map];refine (List.nodup_iff_pairwise_ne.1 (List.nodup_range.filter _)).imp_of_mem fun {a b} ha hb hne e=>hne ?_;obtain ⟨ha1,ha2⟩:=List.mem_filter.1 ha;obtain ⟨hb1,hb2⟩:=List.mem_filter.1 hb;have ha1:=List.mem_range.1 ha1;have hb1:=List.mem_range.1 hb1;rw [jt] at ha2 hb2;obtain ⟨_,a2,a3⟩:=hg a ha1;obtain ⟨_,b2,b3⟩:=hg b hb1;rw [←e] at b2 b3;have hab:R a b:=hE.trans _ _ _ ha1 a2 hb1 (hE.symm _ _ a2 ha1 a3) b3;rcases Nat.lt_trichotomy a b with h | h | h
  ·exact absurd hab (hb2 a h)
  ·exact h
  ·exact absurd (hE.symm _ _ ha1 hb1 hab) (ha2 b h)
 ·obtain ⟨x,hx,rfl⟩:=List.mem_map.1 ha;exact (hg x (List.mem_range.1 (List.mem_filter.1 hx).1)).1
end
section
variable {m:Nat}{s v f:Nat→Nat}{V F:List Nat}
theorem xm{N:Nat}(hs:Perm N s)(hv:∀d,d<N→v (s d)=v d):∀x y,x<N→y<N→Orb s x y→v x=v y:=by
 intro x y hx _ ⟨i,hi⟩;subst hi
 have:∀(i x:Nat),x<N→v x=v (qL s i x):=by
  intro i
  induction i with
  | zero=>intro x _;rfl
  | succ i ih=>intro x hx;rw [←hv x hx];exact ih _ (hs.lt x hx)
 exact this i x hx
theorem Ye(_hs:Perm (2*m) s):∀d,d<2*m→ppk s m d=s (ot d):=fun d hd=>by rw [aL,if_pos hd]
/-- as many vertices and faces as edges, and two for each part, at most -/
theorem my(hs:Perm (2*m) s)(hv:∀d,d<2*m→v (s d)=v d)(hf:∀d,d<2*m→f (s (ot d))=f d)(nV:V.Nodup)(nF:F.Nodup)(mV:∀a∈V,∃d,d<2*m∧v d=a)(mF:∀a∈F,∃d,d<2*m∧f d=a):V.length+F.length≤m+2*cls (ppR s m) (2*m):=by
 obtain ⟨g,hg⟩:=UY hs m (Nat.le_refl _);have h1:=xI (xm hs hv) nV mV;have h2:=xI (xm (xC hs m (Nat.le_refl _)) (v:=f) (fun d hd=>by rw [Ye hs d hd];exact hf d hd)) nF mF;omega
/-- where these are as many, labels tell vertices and faces -/
theorem cM(hs:Perm (2*m) s)(hv:∀d,d<2*m→v (s d)=v d)(hf:∀d,d<2*m→f (s (ot d))=f d)(nV:V.Nodup)(nF:F.Nodup)(mV:∀a∈V,∃d,d<2*m∧v d=a)(mF:∀a∈F,∃d,d<2*m∧f d=a)(hle:m+2*cls (ppR s m) (2*m)≤V.length+F.length) :
  (∀d e,d<2*m→e<2*m→v d=v e→Orb s d e) ∧ ∀d e,d<2*m→e<2*m→f d=f e→Orb (ppk s m) d e:=by
 obtain ⟨g,hg⟩:=UY hs m (Nat.le_refl _);have hP:=xC hs m (Nat.le_refl _);have hf':∀d,d<2*m→f (ppk s m d)=f d:=fun d hd=>by rw [Ye hs d hd];exact hf d hd
 have h1:=xI (xm hs hv) nV mV;have h2:=xI (xm hP hf') nF mF;exact ⟨fun d e hd he h=>GO hs.equ (xm hs hv) nV mV (by omega) hd he h,fun d e hd he h=>GO hP.equ (xm hP hf') nF mF (by omega) hd he h⟩
end
end Go.Proofs.YtneeknlhlkpnpaaGreat
/-
 Plain law: where great angles fit, each inner face has one top; the outer one none, and it has the source's great angle. Written by an AI agent.
-/
namespace Go.Proofs.YtneeknlhlkpnpaaGreat
open Go.RowKit
section
variable {n:Int}{es:List (Int×Int)}{rs:List (List Int)}{great room:List Int}
/-- what has been taken could be taken -/
theorem Um{k:Nat}{r:List Int}(h:ZG n es rs great room k=some r):(∀x,x<k→zD es x=true → ∃h:Nat,great.getD x 0=h∧h<2*es.length∧vtx es h=x) ∧ ∀x,x<k→zD es x=false→great.getD x 0 = -1:=by
 induction k generalizing r with
 | zero=>exact ⟨fun x hx=>absurd hx (Nat.not_lt_zero _),fun x hx=>absurd hx (Nat.not_lt_zero _)⟩
 | succ k ih=>
  rw [Ul] at h
  cases hq:ZG n es rs great room k with
  | none=>rw [hq] at h;cases h
  | some q=>
   obtain ⟨i1,i2⟩:=ih hq;rw [hq] at h;unfold Qu at h;simp only at h;refine ⟨fun x hx ht=>?_,fun x hx ht=>?_⟩
   ·by_cases e:x=k
    ·subst e;rw [if_pos ht] at h
     split at h
     ·rename_i hc;exact ⟨(great.getD x 0).toNat,by omega,by omega,hc.2.2⟩
     ·cases h
    ·exact i1 x (by omega) ht
   ·by_cases e:x=k
    ·subst e;rw [if_neg (by rw [ht];simp)] at h
     split at h
     ·assumption
     ·cases h
    ·exact i2 x (by omega) ht
end
/-- great angles that fit -/
structure FitT(N:Nat)(es:List (Int×Int))(rs:List (List Int))(o s:Nat)(gr:Nat→Nat):Prop where
 good:GoodP N es
 right:RightP N es rs
 gen:gen N es rs=0
 bim:VU rs=true
 sN:s<N
 src:∀y,y<N→inD es y=0→y=s
 sin:inD es s=0
 pos:0<es.length
 oF:o<(jo N es rs).length
 tip:∀x,x<N→zD es x=true→gr x<2*es.length∧vtx es (gr x)=x
 srcG:zD es s=true∧jT N es rs (gr s)=o
 out:∀d,d<2*es.length→zt es rs d=2→jT N es rs d=o→zD es (vtx es d)=true∧gr (vtx es d)=d
 top:∀f,f<(jo N es rs).length→f≠o → ∃d,d<2*es.length∧zt es rs d=2∧jT N es rs d=f ∧ ¬(zD es (vtx es d)=true∧gr (vtx es d)=d) ∧ ∀e,e<2*es.length→zt es rs e=2→jT N es rs e=f → ¬(zD es (vtx es e)=true∧gr (vtx es e)=e)→e=d
theorem Qk{p:Nat→Bool}{N:Nat}(h:∀k,k<N→p k=false):(List.range N).countP p=0:=by
 rw [List.countP_eq_zero];intro k hk;rw [h k (List.mem_range.1 hk)];simp
/-- one that counts one -/
theorem sR{p:Nat→Bool}{N:Nat}(h:(List.range N).countP p=1):∃a,a<N∧p a=true ∧ ∀b,b<N→p b=true→b=a:=by
 obtain ⟨a,ha,hp⟩:=List.countP_pos_iff.1 (by omega:0<(List.range N).countP p);have ha:=List.mem_range.1 ha;refine ⟨a,ha,hp,fun b hb hpb=>?_⟩;apply Classical.byContradiction;intro hne;have h1:=yJ (p:=p) (q:=fun h=>p h && !decide (h=a)) (m:=a) hp (fun _=>rfl) N;rw [if_pos ha] at h1;have:0<(List.range N).countP fun h=>p h && !decide (h=a):=List.countP_pos_iff.2 ⟨b,List.mem_range.2 hb,by rw [hpb,decide_eq_false hne];rfl⟩;omega
theorem rR{N:Nat}{es:List (Int×Int)}{rs:List (List Int)}{outer:Int}{great:List Int}(h:YO N es rs outer great=true)(he:0<es.length):∃s,FitT N es rs outer.toNat s (fun x=>(great.getD x 0).toNat)∧0≤outer:=by
 unfold YO at h;simp only [Bool.and_eq_true,decide_eq_true_eq] at h;obtain ⟨hg,⟨ha,hb⟩,_,hr⟩:=h;have hG:GoodP N es:=jt.1 hg;have hR:=yF ha;have hin0:=ya hR;have hrl:rs.length=N:=by have:=hR.len;omega
 have hin:InN N es:=by rwa [hrl] at hin0
 obtain ⟨s,hs,hs0,hsu⟩:=dO hG;unfold xD at hr;rw [if_neg (fun e=>by have:=(uy hR).1 e;omega)] at hr
 split at hr
 ·rename_i ho
  split at hr
  ·cases hr
  ·rename_i room hroom;rw [hrl] at hroom;obtain ⟨c1,c2⟩:=Um hroom;have hlen:(vr N es rs outer.toNat).length=(jo N es rs).length:=by unfold vr;rw [vK]
   obtain ⟨r,e1,e2,e3⟩:=Vu (n:=N) (es:=es) (rs:=rs) (great:=great) (room:=vr N es rs outer.toNat) (k:=N) (fun x hx ht=>by
    obtain ⟨g,k1,k2,k3⟩:=c1 x hx ht
    exact ⟨g,k1,k2,k3,by rw [hlen];exact (yh hR k2).1⟩) c2
   rw [hroom] at e1;have e1:=Option.some.inj e1;subst e1;rw [Bool.not_eq_true',List.any_eq_false] at hr
   have hz:∀f,f<(jo N es rs).length→room.getD f 0=0:=fun f hf=>by
    have hf':f<room.length:=by rw [e2,hlen];exact hf
    have:=hr _ (List.getElem_mem hf');rw [List.getD_eq_getElem?_getD,List.getElem?_eq_getElem hf',Option.getD_some];simpa [nz] using this
   have hT:∀x,x<N→zD es x=true→(great.getD x 0).toNat<2*es.length∧vtx es (great.getD x 0).toNat=x:=fun x hx ht=>by
    obtain ⟨g,k1,k2,k3⟩:=c1 x hx ht;rw [k1,Int.toNat_natCast];exact ⟨k2,k3⟩
   -- the source is a tip, its angles are low
   have sEv:∀d,d<2*es.length→vtx es d=s→d%2=0:=fun d hd hv=>by
    apply Classical.byContradiction;intro hodd;have h1:=vn hin (i:=d/2) (by omega);rw [show 2*(d/2)+1=d by omega,hv] at h1;exact yN.1 hs0 (d/2) (by omega) h1.symm
   have sLow:∀d,d<2*es.length→vtx es d=s→zt es rs d≠2:=fun d hd hv h2=>by
    have h3:=((vM _ _).1 h2).1;have:=sEv d hd hv;unfold ev at h3;simp [this] at h3
   have sTip:zD es s=true:=by
    unfold zD;have h1:(jK es Prod.snd (s:Nat) es.length).length=0:=hs0
    have h2:(jK es Prod.fst (s:Nat) es.length).length≠0:=fun e=>by
     -- some half edge is at the source
     obtain ⟨s',hs',hq⟩:=kp hG;have hc1:cls (Q es es.length) N=1:=YK (by omega) fun x hx=>Star.trans (Q.symm (hq 0 (by omega))) (hq x hx);rcases ZB hin hc1 he hs with ⟨d,hd,hv,ho⟩ | ⟨d,hd,hv,ho⟩
     ·have:=sEv d hd hv;unfold ev at ho;simp [this] at ho
     ·have h3:=zx hin (i:=d/2) (by omega);have:=sEv d hd hv;rw [show 2*(d/2)=d by omega,hv] at h3;have hm:=qs.2 ⟨d/2,rfl,(by omega:d/2<es.length),h3.symm⟩;rw [List.length_eq_zero_iff.1 e] at hm
      cases hm
    rw [decide_eq_true h1,decide_eq_false h2];rfl
   -- another tip is a sink: its angles are high
   have kHigh:∀x,x<N→x≠s→zD es x=true → ∀d,d<2*es.length→vtx es d=x→zt es rs d=2:=fun x hx hxs ht d hd hv=>by
    refine JM hR hd ?_;rintro ⟨k,hk,hkv,hke⟩;unfold zD at ht;have h1:(jK es Prod.snd (x:Nat) es.length).length≠0:=fun e=>hxs (hsu x hx e);rw [decide_eq_false h1] at ht;simp only [Bool.false_bne,decide_eq_true_eq] at ht;have hk2:k%2=0:=by unfold ev at hke;simpa using hke
    have h3:=zx hin (i:=k/2) (by omega);rw [show 2*(k/2)=k by omega,hkv,hv] at h3;have hm:=qs.2 ⟨k/2,rfl,(by omega:k/2<es.length),h3.symm⟩;rw [List.length_eq_zero_iff.1 ht] at hm
    cases hm
   -- high angles of a face: great ones, and others
   have hH:∀f,(List.range (2*es.length)).countP (fun d=>decide (zt es rs d=2)&&decide (jT N es rs d=f)) =
     ((List.range N).countP fun x=>(zD es x && !decide (x=s))&&decide (jT N es rs (great.getD x 0).toNat=f)) +
     (List.range (2*es.length)).countP (fun d=>(decide (zt es rs d=2)&&decide (jT N es rs d=f)) && !(zD es (vtx es d)&&decide ((great.getD (vtx es d) 0).toNat=d))):=fun f=>by
    rw [qy _ _ (fun d=>zD es (vtx es d)&&decide ((great.getD (vtx es d) 0).toNat=d))];congr 1;rw [zU (v:=vtx es) (M:=N) _ _ (fun k hk=>xc hin hk),←vY];apply zg;intro x hx;by_cases hp:(zD es x=true∧x≠s)∧jT N es rs (great.getD x 0).toNat=f
    ·obtain ⟨⟨ht,hxs⟩,hf⟩:=hp;obtain ⟨g1,g2⟩:=hT x hx ht;rw [if_pos (by rw [ht,decide_eq_false hxs,decide_eq_true hf];rfl)];refine um (a:=(great.getD x 0).toNat) g1 ?_ fun k hk hq=>?_
     ·rw [g2,ht,hf,kHigh x hx hxs ht _ g1 g2];simp
     ·simp only [Bool.and_eq_true,decide_eq_true_eq] at hq;rw [←hq.2.2.2,hq.1]
    ·rw [if_neg (by
      simp only [Bool.and_eq_true,decide_eq_true_eq,Bool.not_eq_true',decide_eq_false_iff_not]
      exact hp)]
     apply Qk;intro k hk;apply Bool.eq_false_iff.2;intro hq;simp only [Bool.and_eq_true,decide_eq_true_eq] at hq;obtain ⟨k1,⟨k2,k3⟩,k4,k5⟩:=hq;rw [k1] at k4 k5;refine hp ⟨⟨k4,fun e=>sLow k hk (k1.trans e) k2⟩,by rw [k5];exact k3⟩
   have hTs:∀f,(List.range N).countP (fun x=>zD es x&&decide (jT N es rs (great.getD x 0).toNat=f)) =
     ((List.range N).countP fun x=>(zD es x && !decide (x=s))&&decide (jT N es rs (great.getD x 0).toNat=f))+if jT N es rs (great.getD s 0).toNat=f then 1 else 0:=fun f=>by
    rw [qy _ _ (fun x=>!decide (x=s))];congr 1
    ·apply jP;intro x hx
     cases zD es x<;>cases decide (x=s)<;>simp
    ·split
     ·rename_i hf;refine um (a:=s) hs (by rw [sTip,hf];simp) fun b hb hq=>?_;simp only [Bool.and_eq_true,Bool.not_not,decide_eq_true_eq] at hq;exact hq.2
     ·rename_i hf;apply Qk;intro k hk;apply Bool.eq_false_iff.2;intro hq;simp only [Bool.and_eq_true,Bool.not_not,decide_eq_true_eq] at hq;exact hf (by rw [←hq.2];exact hq.1.2)
   have key:∀f,f<(jo N es rs).length→(if f=outer.toNat then (1:Int) else -1)+((List.range (2*es.length)).countP (fun d=>(decide (zt es rs d=2)&&decide (jT N es rs d=f)) && !(zD es (vtx es d)&&decide ((great.getD (vtx es d) 0).toNat=d))):Nat)-(if jT N es rs (great.getD s 0).toNat=f then (1:Int) else 0)=0:=fun f hf=>by
    have h1:=e3 f (by rw [hlen];exact hf);rw [hz f hf] at h1;unfold vr at h1;rw [Qd hf,hH,hTs] at h1
    split at h1<;>split at h1<;>rename_i q1 q2<;>simp only [q1,q2,if_true,if_false] at * <;> omega
   have hoF:outer.toNat<(jo N es rs).length:=by omega
   have hso:jT N es rs (great.getD s 0).toNat=outer.toNat:=by
    have h1:=key _ hoF;rw [if_pos rfl] at h1;apply Classical.byContradiction;intro hne;rw [if_neg hne] at h1;omega
   have hgen:gen N es rs=0:=by
    unfold xp at ha;simp only [Bool.and_eq_true,decide_eq_true_eq] at ha;exact ha.2.1
   refine ⟨s,⟨hG,hR,hgen,hb,hs,hsu,hs0,he,hoF,hT,⟨sTip,hso⟩,fun d hd hk hf=>?_,fun f hf hfo=>?_⟩,ho.1⟩
   ·have h1:=key _ hoF;rw [if_pos rfl,if_pos hso] at h1;have h2:(List.range (2*es.length)).countP (fun d=>(decide (zt es rs d=2)&&decide (jT N es rs d=outer.toNat)) && !(zD es (vtx es d)&&decide ((great.getD (vtx es d) 0).toNat=d)))=0:=by omega
    rw [List.countP_eq_zero] at h2;have h3:=h2 d (List.mem_range.2 hd);simp only [hk,hf,decide_true,Bool.true_and,Bool.not_eq_true',Bool.not_eq_false,Bool.and_eq_true,decide_eq_true_eq] at h3;exact h3
   ·have h1:=key _ hf;rw [if_neg hfo,if_neg (fun e=>hfo (by rw [←e];exact hso))] at h1;have h2:(List.range (2*es.length)).countP (fun d=>(decide (zt es rs d=2)&&decide (jT N es rs d=f)) && !(zD es (vtx es d)&&decide ((great.getD (vtx es d) 0).toNat=d)))=1:=by omega
    obtain ⟨d,hd,hp,hu⟩:=sR h2;simp only [Bool.and_eq_true,decide_eq_true_eq,Bool.not_eq_true',Bool.and_eq_false_iff,decide_eq_false_iff_not] at hp;refine ⟨d,hd,hp.1.1,hp.1.2,fun ⟨q1,q2⟩=>?_,fun e he' k1 k2 k3=>hu e he' ?_⟩
    ·rcases hp.2 with h | h
     ·rw [q1] at h;cases h
     ·exact h q2
    ·simp only [k1,k2,decide_true,Bool.true_and,Bool.not_eq_true',Bool.and_eq_false_iff,decide_eq_false_iff_not];by_cases q:zD es (vtx es e)=true
     ·exact .inr fun e'=>k3 ⟨q,e'⟩
     ·exact .inl (by simpa using q)
 ·cases hr
end Go.Proofs.YtneeknlhlkpnpaaGreat
/-
 Plain law: the placed part of a map taken as one vertex, its list the row's edges. Written by an AI agent.
-/
namespace Go.Proofs.YtneeknlhlkpnpaaGreat
open Go.RowKit
/-- the one behind a in a ring -/
def nxr(l:List Nat)(a:Nat):Nat:=l.getD ((l.idxOf a+1)%l.length) 0
section
variable {l:List Nat}{a b:Nat}
theorem YD(hn:l.Nodup){i:Nat}(hi:i<l.length):nxr l l[i]=l[(i+1)%l.length]'(Nat.mod_lt _ (by omega)):=by
 unfold nxr;rw [List.Nodup.idxOf_getElem hn i hi,List.getD_eq_getElem?_getD,List.getElem?_eq_getElem (Nat.mod_lt _ (by omega))];rfl
theorem Jq(hn:l.Nodup)(ha:a∈l):nxr l a∈l:=by
 obtain ⟨i,hi,rfl⟩:=List.getElem_of_mem ha;rw [YD hn hi];exact List.getElem_mem _
theorem rB(hn:l.Nodup)(ha:a∈l)(hb:b∈l)(h:nxr l a=nxr l b):a=b:=by
 obtain ⟨i,hi,rfl⟩:=List.getElem_of_mem ha;obtain ⟨j,hj,rfl⟩:=List.getElem_of_mem hb;rw [YD hn hi,YD hn hj] at h;have:=ZT hi hj (xZ hn _ _ h);subst this;rfl
end
/-- a state of the placing: what is placed, and the row of edges that stand out of it -/
structure Cut(N:Nat)(es:List (Int×Int))(rs:List (List Int))(o s:Nat)(pl:Nat→Prop)(ρ : List Nat):Prop where
 nd : ρ.Nodup
 mem:∀i,i ∈ ρ ↔ i<es.length∧pl (vtx es (2*i)) ∧ ¬pl (vtx es (2*i+1))
 down:∀i,i<es.length→pl (vtx es (2*i+1))→pl (vtx es (2*i))
 src:pl s
 out:∀a,ρ.head? = some a→jT N es rs (ot (2*a))=o
 ring:∀a ∈ ρ,jT N es rs (ot (2*a+1))=jT N es rs (ot (2*nxr ρ a))
section
variable {N:Nat}{es:List (Int×Int)}{rs:List (List Int)}{o s:Nat}{gr:Nat→Nat}{pl:Nat→Prop}{ρ : List Nat}
/-- around an unplaced vertex as ever; around the row; what has ended stands alone -/
noncomputable def sP(es:List (Int×Int))(rs:List (List Int))(pl:Nat→Prop)(ρ : List Nat)(d:Nat):Nat:=
 if tst (¬pl (vtx es d))=true then sig es rs d else if d%2=0∧d/2 ∈ ρ then 2*nxr ρ (d/2) else d
theorem ZC{d:Nat}(h:¬pl (vtx es d)):sP es rs pl ρ d=sig es rs d:=by unfold sP;rw [if_pos (jt.2 h)]
theorem uP{a:Nat}(hc:Cut N es rs o s pl ρ)(h:a ∈ ρ):sP es rs pl ρ (2*a)=2*nxr ρ a:=by
 unfold sP;rw [if_neg (by rw [jt];exact fun h1=>h1 ((hc.mem a).1 h).2.1),if_pos (by rw [show 2*a/2=a by omega];exact ⟨by omega,h⟩),show 2*a/2=a by omega]
theorem Jo{d:Nat}(h:pl (vtx es d))(h2:¬(d%2=0∧d/2 ∈ ρ)):sP es rs pl ρ d=d:=by
 unfold sP;rw [if_neg (by rw [jt];exact fun h1=>h1 h),if_neg h2]
/-- the three kinds of half edges -/
theorem Jn(d:Nat)(pl:Nat→Prop)(ρ : List Nat):¬pl (vtx es d)∨(pl (vtx es d) ∧ ∃a ∈ ρ,d=2*a)∨(pl (vtx es d) ∧ ¬(d%2=0∧d/2 ∈ ρ)):=by
 by_cases h1:pl (vtx es d)
 ·by_cases h2:d%2=0∧d/2 ∈ ρ
  ·exact .inr (.inl ⟨h1,d/2,h2.2,by omega⟩)
  ·exact .inr (.inr ⟨h1,h2⟩)
 ·exact .inl h1
theorem gX(hR:RightP N es rs)(hc:Cut N es rs o s pl ρ):Perm (2*es.length) (sP es rs pl ρ):=by
 refine ⟨fun d hd=>?_,fun d e hd he hde=>?_⟩
 ·rcases Jn d pl ρ with h | ⟨_,a,ha,rfl⟩ | ⟨h,h2⟩
  ·rw [ZC h];exact (qS hR hd).1
  ·rw [uP hc ha];have:=((hc.mem _).1 (Jq hc.nd ha)).1;omega
  ·rw [Jo h h2];exact hd
 ·rcases Jn d pl ρ with h | ⟨h,a,ha,rfl⟩ | ⟨h,h2⟩
  ·rw [ZC h] at hde;have hv:=(qS hR hd).2;rcases Jn e pl ρ with k | ⟨k,b,hb,rfl⟩ | ⟨k,k2⟩
   ·rw [ZC k] at hde;exact (uI hR).inj _ _ hd he hde
   ·rw [uP hc hb] at hde;have:=((hc.mem _).1 (Jq hc.nd hb)).2.1;rw [←hde,hv] at this;exact absurd this h
   ·rw [Jo k k2] at hde;rw [←hde,hv] at k;exact absurd k h
  ·rw [uP hc ha] at hde;have hm:=(hc.mem _).1 (Jq hc.nd ha);rcases Jn e pl ρ with k | ⟨k,b,hb,rfl⟩ | ⟨k,k2⟩
   ·rw [ZC k] at hde;have hv:=(qS hR he).2;rw [←hde] at hv;rw [hv] at hm;exact absurd hm.2.1 k
   ·rw [uP hc hb] at hde;rw [rB hc.nd ha hb (by omega)]
   ·rw [Jo k k2] at hde;exfalso;apply k2;rw [←hde];exact ⟨by omega,by rw [show 2*nxr ρ a/2=nxr ρ a by omega];exact Jq hc.nd ha⟩
  ·rw [Jo h h2] at hde;rcases Jn e pl ρ with k | ⟨k,b,hb,rfl⟩ | ⟨k,k2⟩
   ·rw [ZC k] at hde;have hv:=(qS hR he).2;rw [←hde] at hv;rw [hv] at h;exact absurd h k
   ·rw [uP hc hb] at hde;exfalso;apply h2;rw [hde];exact ⟨by omega,by rw [show 2*nxr ρ b/2=nxr ρ b by omega];exact Jq hc.nd hb⟩
   ·rw [Jo k k2] at hde;exact hde
/-- is the edge of a half edge dead? -/
def yV(es:List (Int×Int))(pl:Nat→Prop)(d:Nat):Prop:=pl (vtx es (2*(d/2)+1))
noncomputable def VT(N:Nat)(es:List (Int×Int))(pl:Nat→Prop)(d:Nat):Nat:=if tst (yV es pl d)=true then N+1+d else if tst (pl (vtx es d))=true then N else vtx es d
noncomputable def aY(N:Nat)(es:List (Int×Int))(rs:List (List Int))(pl:Nat→Prop)(d:Nat):Nat:=if tst (yV es pl d)=true then (jo N es rs).length+d/2 else jT N es rs (ot d)
end
end Go.Proofs.YtneeknlhlkpnpaaGreat
/-
 Plain law: the contracted map: what is constant, what hangs together, how many vertices and faces. Written by an AI agent.
-/
namespace Go.Proofs.YtneeknlhlkpnpaaGreat
open Go.RowKit
section
variable {N:Nat}{es:List (Int×Int)}{rs:List (List Int)}{o s:Nat}{gr:Nat→Nat}{pl:Nat→Prop}{ρ : List Nat}
theorem FitT.len(h:FitT N es rs o s gr):rs.length=N:=by have:=h.right.len;omega
theorem FitT.inN(h:FitT N es rs o s gr):InN N es:=by have:=ya h.right;rwa [h.len] at this
/-- a dead edge's halves are at placed vertices -/
theorem Js(hc:Cut N es rs o s pl ρ){d:Nat}(hd:d<2*es.length)(h:yV es pl d):pl (vtx es d):=by
 unfold yV at h;rcases Nat.mod_two_eq_zero_or_one d with e | e
 ·have:=hc.down (d/2) (by omega) h
  rwa [show 2*(d/2)=d by omega] at this
 ·rwa [show 2*(d/2)+1=d by omega] at h
theorem YM(d:Nat):yV es pl (ot d)↔yV es pl d:=by
 have:ot d/2=d/2:=by unfold ot;split<;>omega
 unfold yV;rw [this]
/-- what stands still is dead -/
theorem Xs(hc:Cut N es rs o s pl ρ){d:Nat}(hd:d<2*es.length)(h:pl (vtx es d))(h2:¬(d%2=0∧d/2 ∈ ρ)):yV es pl d:=by
 unfold yV;rcases Nat.mod_two_eq_zero_or_one d with e | e
 ·apply Classical.byContradiction;intro hn;exact h2 ⟨e,(hc.mem _).2 ⟨by omega,by rwa [show 2*(d/2)=d by omega],hn⟩⟩
 ·rwa [show 2*(d/2)+1=d by omega]
theorem qr(hc:Cut N es rs o s pl ρ){a:Nat}(ha:a ∈ ρ):¬yV es pl (2*a)∧pl (vtx es (2*a))∧a<es.length:=by
 obtain ⟨h1,h2,h3⟩:=(hc.mem a).1 ha;refine ⟨fun h=>h3 ?_,h2,h1⟩;unfold yV at h
 rwa [show 2*a/2=a by omega] at h
theorem mm{d:Nat}(h:yV es pl d):VT N es pl d=N+1+d:=by unfold VT;rw [if_pos (jt.2 h)]
theorem kF{d:Nat}(h:¬yV es pl d)(h2:pl (vtx es d)):VT N es pl d=N:=by unfold VT;rw [if_neg (by rw [jt];exact h),if_pos (jt.2 h2)]
theorem YL{d:Nat}(h:¬yV es pl d)(h2:¬pl (vtx es d)):VT N es pl d=vtx es d:=by unfold VT;rw [if_neg (by rw [jt];exact h),if_neg (by rw [jt];exact h2)]
theorem Xr{d:Nat}(h:yV es pl d):aY N es rs pl d=(jo N es rs).length+d/2:=by unfold aY;rw [if_pos (jt.2 h)]
theorem xi{d:Nat}(h:¬yV es pl d):aY N es rs pl d=jT N es rs (ot d):=by unfold aY;rw [if_neg (by rw [jt];exact h)]
theorem Gr(hR:RightP N es rs)(hc:Cut N es rs o s pl ρ){d:Nat}(hd:d<2*es.length):VT N es pl (sP es rs pl ρ d)=VT N es pl d:=by
 rcases Jn (es:=es) d pl ρ with h | ⟨_,a,ha,rfl⟩ | ⟨h,h2⟩
 ·rw [ZC h];obtain ⟨k1,k2⟩:=qS hR hd;have n1:¬yV es pl d:=fun e=>h (Js hc hd e);have n2:¬yV es pl (sig es rs d):=fun e=>h (by have:=Js hc k1 e;rwa [k2] at this);rw [YL n1 h,YL n2 (by rw [k2];exact h),k2]
 ·rw [uP hc ha];obtain ⟨a1,a2,_⟩:=qr hc ha;obtain ⟨b1,b2,_⟩:=qr hc (Jq hc.nd ha);rw [kF a1 a2,kF b1 b2]
 ·rw [Jo h h2]
theorem Gt(hR:RightP N es rs)(hc:Cut N es rs o s pl ρ){d:Nat}(hd:d<2*es.length):aY N es rs pl (sP es rs pl ρ (ot d))=aY N es rs pl d:=by
 have ho:=vA hd;rcases Jn (es:=es) (ot d) pl ρ with h | ⟨_,a,ha,e⟩ | ⟨h,h2⟩
 ·rw [ZC h];obtain ⟨k1,k2⟩:=qS hR ho;have n1:¬yV es pl d:=fun e=>h (Js hc ho ((YM d).2 e));have n2:¬yV es pl (sig es rs (ot d)):=fun e=>h (by have:=Js hc k1 e;rwa [k2] at this);rw [xi n1,xi n2,vg hR ho]
 ·rw [e,uP hc ha];obtain ⟨a1,_,a3⟩:=qr hc ha;obtain ⟨b1,_,_⟩:=qr hc (Jq hc.nd ha);have hde:d=2*a+1:=by rw [←kI d,e,ud]
  have n1:¬yV es pl d:=fun h=>a1 (by rw [←e];exact (YM d).2 h);rw [xi n1,xi b1,hde,hc.ring a ha]
 ·rw [Jo h h2];have n1:=Xs hc ho h h2;have n2:=(YM d).1 n1;rw [Xr n1,Xr n2];have:ot d/2=d/2:=by unfold ot;split<;>omega
  rw [this]
/-- from an unplaced vertex one comes down to the row -/
theorem gC(hf:FitT N es rs o s gr)(hc:Cut N es rs o s pl ρ){T:Nat→Nat→Prop}(hT:Equ (2*es.length) T)(h1:∀d,d<2*es.length → ¬pl (vtx es d)→T d (sig es rs d))(h2:∀i,i<es.length→T (2*i) (2*i+1)) :
  ∀d,d<2*es.length → ¬yV es pl d → ∃a ∈ ρ,T d (2*a):=by
 have hin:=hf.inN;have ho:=hf.good.ord;rw [Int.toNat_natCast] at ho;obtain ⟨L,hL⟩:=vI hin ho
 have key:∀r d,d<2*es.length→L (vtx es d)=r → ¬pl (vtx es d) → ∃a ∈ ρ,T d (2*a):=by
  intro r
  induction r using Nat.strongRecOn with
  | _ r ih=>
   intro d hd hr hp;have hv:=xc hin hd;have hnz:inD es (vtx es d)≠0:=fun e=>hp (by rw [hf.src _ hv e];exact hc.src);rw [Ne,yN] at hnz;obtain ⟨i,hi,hie⟩:∃i,i<es.length∧(es.getD i (0,0)).2=(vtx es d:Int):=Classical.byContradiction fun hno=>hnz fun i hi e=>hno ⟨i,hi,e⟩;have hvi:vtx es (2*i+1)=vtx es d:=by have:=vn hin hi;omega
   obtain ⟨j,hj⟩:=(kE hf.right hd (by omega:2*i+1<2*es.length)).2 hvi.symm
   have walk:∀(j x:Nat),x<2*es.length → ¬pl (vtx es x)→T x (qL (sig es rs) j x):=by
    intro j
    induction j with
    | zero=>intro x hx _;exact hT.refl x hx
    | succ j ihj=>
     intro x hx hpx;obtain ⟨k1,k2⟩:=qS hf.right hx;have hx2:qL (sig es rs) j (sig es rs x)<2*es.length:=(uI hf.right).iter_lt j k1;exact hT.trans _ _ _ hx k1 hx2 (h1 x hx hpx) (ihj _ k1 (by rw [k2];exact hpx))
   have t1:=walk j d hd hp;rw [hj] at t1;have t2:=hT.trans _ _ _ hd (by omega) (by omega) t1 (hT.symm _ _ (by omega) (by omega) (h2 i hi));by_cases hpt:pl (vtx es (2*i))
   ·exact ⟨i,(hc.mem i).2 ⟨hi,hpt,by rw [hvi];exact hp⟩,t2⟩
   ·have hlt:L (vtx es (2*i))<L (vtx es (2*i+1)):=by
     obtain ⟨e1,_,_⟩:=xB hin hi;have:=hL _ (List.getElem_mem hi);rw [e1] at this;simpa using this
    obtain ⟨a,ha,t3⟩:=ih (L (vtx es (2*i))) (by rw [hvi] at hlt;omega) (2*i) (by omega) rfl hpt;exact ⟨a,ha,hT.trans _ _ _ hd (by omega) (by have:=(qr hc ha).2.2;omega) t2 t3⟩
 intro d hd hn;by_cases hp:pl (vtx es d)
 ·by_cases hk:d%2=0∧d/2 ∈ ρ
  ·exact ⟨d/2,hk.2,by rw [show 2*(d/2)=d by omega];exact hT.refl d hd⟩
  ·exact absurd (Xs hc hd hp hk) hn
 ·exact key _ d hd rfl hp
/-- halves of a set of edges: two for each -/
theorem Qc(q:Nat→Bool):∀m:Nat,(List.range (2*m)).countP (fun d=>q (d/2))=2*(List.range m).countP q
 | 0=>rfl
 | m+1=>by
  rw [show 2*(m+1)=2*m+1+1 by omega,List.range_succ,List.range_succ,List.countP_append,List.countP_append,Qc q m,List.range_succ,List.countP_append,List.countP_singleton,List.countP_singleton,List.countP_singleton,show 2*m/2=m by omega,show (2*m+1)/2=m by omega]
  split<;>omega
/-- odd halves of a set of edges: one for each -/
theorem Zu(q:Nat→Bool):∀m:Nat,(List.range (2*m)).countP (fun d=>decide (d%2=1)&&q (d/2))=(List.range m).countP q
 | 0=>rfl
 | m+1=>by
  rw [show 2*(m+1)=2*m+1+1 by omega,List.range_succ,List.range_succ,List.countP_append,List.countP_append,Zu q m,List.range_succ,List.countP_append,List.countP_singleton,List.countP_singleton,List.countP_singleton,show 2*m/2=m by omega,show (2*m+1)/2=m by omega,decide_eq_false (by omega:¬2*m%2=1),decide_eq_true (by omega:(2*m+1)%2=1),Bool.false_and,Bool.true_and,if_neg (by simp)];omega
/-- a top: a high angle that isn't great -/
def kv(es:List (Int×Int))(rs:List (List Int))(gr:Nat→Nat)(d:Nat):Bool:=decide (zt es rs d=2) && !(zD es (vtx es d)&&decide (gr (vtx es d)=d))
theorem FitT.odd_at(h:FitT N es rs o s gr){x:Nat}(hx:x<N)(hxs:x≠s):zI es x:=by
 have hnz:inD es x≠0:=fun e=>hxs (h.src x hx e);rw [Ne,yN] at hnz;obtain ⟨i,hi,hie⟩:∃i,i<es.length∧(es.getD i (0,0)).2=(x:Int):=Classical.byContradiction fun hno=>hnz fun i hi e=>hno ⟨i,hi,e⟩;exact ⟨2*i+1,by omega,by have:=vn h.inN hi;omega,by unfold ev;simp⟩
theorem FitT.tip_even(h:FitT N es rs o s gr){x:Nat}(hx:x<N)(hxs:x≠s):zD es x=true ↔ ¬qe es x:=by
 have h1:(jK es Prod.snd (x:Nat) es.length).length≠0:=fun e=>hxs (h.src x hx e);unfold zD;rw [decide_eq_false h1];simp only [Bool.false_bne,decide_eq_true_eq];constructor
 ·rintro h2 ⟨k,hk,hkv,hke⟩;have hk2:k%2=0:=by unfold ev at hke;simpa using hke
  have h3:=zx h.inN (i:=k/2) (by omega);rw [show 2*(k/2)=k by omega,hkv] at h3;have hm:=qs.2 ⟨k/2,rfl,(by omega:k/2<es.length),h3.symm⟩;rw [List.length_eq_zero_iff.1 h2] at hm
  cases hm
 ·intro h2;rw [List.length_eq_zero_iff,List.eq_nil_iff_forall_not_mem];intro a ha;obtain ⟨i,_,hi,e⟩:=qs.1 ha;exact h2 ⟨2*i,by omega,by have:=zx h.inN hi;omega,by unfold ev;simp⟩
/-- at a vertex: as many tops as edges that end there, but one -/
theorem FitT.tops_at(h:FitT N es rs o s gr){x:Nat}(hx:x<N)(hxs:x≠s):(List.range (2*es.length)).countP (fun d=>decide (vtx es d=x)&&(!ev d && !kv es rs gr d))=1:=by
 have hR:=h.right;have hodd:=h.odd_at hx hxs;by_cases he:qe es x
 ·have ht:zD es x=false:=by
   cases hq:zD es x with
   | false=>rfl
   | true=>exact absurd he ((h.tip_even hx hxs).1 hq)
  have e1:(List.range (2*es.length)).countP (fun d=>decide (vtx es d=x)&&(!ev d && !kv es rs gr d))=Je es rs x:=jP fun d hd=>by
   by_cases hv:vtx es d=x
   ·unfold kv;rw [hv,ht];unfold zt;rw [Bool.eq_iff_iff];simp only [Bool.and_eq_true,decide_eq_true_eq,Bool.not_eq_true',Bool.false_and,Bool.not_false,Bool.and_true,decide_eq_false_iff_not,vM]
    cases ev d<;>cases ev (sig es rs d)<;>simp
   ·rw [decide_eq_false hv,Bool.false_and,Bool.false_and]
  rw [e1];have h1:=(UB hR x).2 ⟨hodd,he⟩;have h2:=(VJ hR).1 h.bim x (by rw [h.len];exact hx);rw [Xg hR] at h2;omega
 ·have ht:=(h.tip_even hx hxs).2 he;obtain ⟨g1,g2⟩:=h.tip x hx ht;refine um (a:=gr x) g1 ?_ fun d hd hq=>?_
  ·have hk:ev (gr x)=false:=by
    cases hh:ev (gr x) with
    | false=>rfl
    | true=>exact absurd ⟨gr x,g1,g2,hh⟩ he
   unfold kv;rw [g2,ht,hk];simp
  ·unfold kv at hq;simp only [Bool.and_eq_true,decide_eq_true_eq,Bool.not_eq_true',Bool.and_eq_false_iff,decide_eq_false_iff_not,Bool.not_eq_false'] at hq;obtain ⟨hv,_,hq⟩:=hq;rw [hv] at hq;rcases hq with hq | hq
   ·exact absurd (JM hR hd (by rw [hv];exact he)) hq
   ·exact hq.2.symm
end
end Go.Proofs.YtneeknlhlkpnpaaGreat
/-
 Plain law: the contracted map is plane; split at two gaps of one face it falls apart. Written by an AI agent.
-/
namespace Go.Proofs.YtneeknlhlkpnpaaGreat
open Go.RowKit
section
variable {N:Nat}{es:List (Int×Int)}{rs:List (List Int)}{o s:Nat}{gr:Nat→Nat}{pl:Nat→Prop}{ρ : List Nat}
noncomputable def YP(es:List (Int×Int))(pl:Nat→Prop):Nat:=(List.range es.length).countP fun i=>tst (pl (vtx es (2*i+1)))
noncomputable def iT(N:Nat)(pl:Nat→Prop):Nat:=(List.range N).countP fun x=>tst (¬pl x)
noncomputable def tn(es:List (Int×Int))(rs:List (List Int))(gr:Nat→Nat)(pl:Nat→Prop):Nat:=(List.range (2*es.length)).countP fun d=>tst (¬pl (vtx es d))&&kv es rs gr d
theorem UC{d:Nat}(h:kv es rs gr d=true):ev d=false:=by
 unfold kv at h;simp only [Bool.and_eq_true,decide_eq_true_eq] at h;exact ((vM _ _).1 h.1).1
/-- edges: the dead ones, and those to unplaced vertices: a top each, but for one at each vertex -/
theorem FitT.count(hf:FitT N es rs o s gr)(hs:pl s):tn es rs gr pl+iT N pl+YP es pl=es.length:=by
 have h1:(List.range (2*es.length)).countP (fun d=>decide (d%2=1)&&tst (¬pl (vtx es (2*(d/2)+1))))=(List.range es.length).countP fun i=>tst (¬pl (vtx es (2*i+1))):=Zu (fun i=>tst (¬pl (vtx es (2*i+1)))) es.length
 have h2:(List.range es.length).countP (fun i=>tst (¬pl (vtx es (2*i+1))))+YP es pl=es.length:=by
  have:=List.length_eq_countP_add_countP (fun i=>tst (pl (vtx es (2*i+1)))) (l:=List.range es.length);rw [List.length_range] at this
  have e:(List.range es.length).countP (fun a=>decide ¬tst (pl (vtx es (2*a+1)))=true)=(List.range es.length).countP fun i=>tst (¬pl (vtx es (2*i+1))):=jP fun k _=>by
   rw [Bool.eq_iff_iff,decide_eq_true_eq,jt,jt]
  unfold YP;omega
 have h3:(List.range (2*es.length)).countP (fun d=>decide (d%2=1)&&tst (¬pl (vtx es (2*(d/2)+1))))=tn es rs gr pl+(List.range (2*es.length)).countP (fun d=>(!ev d && !kv es rs gr d)&&tst (¬pl (vtx es d))):=by
  rw [qy _ _ (kv es rs gr)];congr 1
  ·apply jP;intro d hd;rw [Bool.eq_iff_iff];simp only [Bool.and_eq_true,decide_eq_true_eq,jt];constructor
   ·rintro ⟨⟨h1,h2⟩,h3⟩;exact ⟨by rwa [show 2*(d/2)+1=d by omega] at h2,h3⟩
   ·rintro ⟨h1,h2⟩;have:=UC h2;have ho:d%2=1:=by unfold ev at this;simpa using this
    exact ⟨⟨ho,by rwa [show 2*(d/2)+1=d by omega]⟩,h2⟩
  ·apply jP;intro d hd;rw [Bool.eq_iff_iff];simp only [Bool.and_eq_true,decide_eq_true_eq,jt,Bool.not_eq_true'];constructor
   ·rintro ⟨⟨h1,h2⟩,h3⟩;exact ⟨⟨by unfold ev;simpa using h1,h3⟩,by rwa [show 2*(d/2)+1=d by omega] at h2⟩
   ·rintro ⟨⟨h1,h2⟩,h3⟩;have ho:d%2=1:=by unfold ev at h1;simpa using h1
    exact ⟨⟨ho,by rwa [show 2*(d/2)+1=d by omega]⟩,h2⟩
 have h4:(List.range (2*es.length)).countP (fun d=>(!ev d && !kv es rs gr d)&&tst (¬pl (vtx es d)))=iT N pl:=by
  rw [zU (v:=vtx es) (M:=N) _ _ (fun k hk=>xc hf.inN hk)];unfold iT;rw [←vY];apply zg;intro x hx;by_cases hp:pl x
  ·rw [if_neg (by rw [jt];exact fun h=>h hp)];apply Qk;intro k _;apply Bool.eq_false_iff.2;intro hq;simp only [Bool.and_eq_true,decide_eq_true_eq,jt] at hq;exact hq.2.2 (by rw [hq.1];exact hp)
  ·rw [if_pos (jt.2 hp),←hf.tops_at hx (fun e=>hp (by rw [e];exact hs))];apply jP;intro k _;by_cases hv:vtx es k=x
   ·rw [hv,jt.2 hp,Bool.and_true]
   ·rw [decide_eq_false hv,Bool.false_and,Bool.false_and]
 omega
/-- a top's face: not the outer one; another top's is another one -/
theorem FitT.top_face(hf:FitT N es rs o s gr){d:Nat}(hd:d<2*es.length)(h:kv es rs gr d=true):jT N es rs d≠o ∧ ∀e,e<2*es.length→kv es rs gr e=true→jT N es rs e=jT N es rs d→e=d:=by
 have conv:∀d,kv es rs gr d=true→zt es rs d=2 ∧ ¬(zD es (vtx es d)=true∧gr (vtx es d)=d):=fun d h=>by
  unfold kv at h;simp only [Bool.and_eq_true,decide_eq_true_eq,Bool.not_eq_true',Bool.and_eq_false_iff,decide_eq_false_iff_not] at h;refine ⟨h.1,fun ⟨q1,q2⟩=>?_⟩;rcases h.2 with h2 | h2
  ·rw [q1] at h2;cases h2
  ·exact h2 q2
 obtain ⟨h1,h2⟩:=conv d h
 have ho:jT N es rs d≠o:=fun e=>h2 (hf.out d hd h1 e);refine ⟨ho,fun e he hte hfe=>?_⟩;obtain ⟨k1,k2⟩:=conv e hte
 obtain ⟨d0,_,_,_,_,hu⟩:=hf.top _ (yh hf.right hd).1 ho;rw [hu e he k1 hfe k2,hu d hd h1 rfl h2]
noncomputable def aB(N:Nat)(es:List (Int×Int))(pl:Nat→Prop):List Nat:=N::((List.range N).filter (fun x=>tst (¬pl x))++((List.range (2*es.length)).filter fun d=>tst (pl (vtx es (2*(d/2)+1)))).map fun d=>N+1+d)
noncomputable def aC(N:Nat)(es:List (Int×Int))(rs:List (List Int))(o:Nat)(gr:Nat→Nat)(pl:Nat→Prop):List Nat:=o::((((List.range (2*es.length)).filter fun d=>tst (¬pl (vtx es d))&&kv es rs gr d).map (jT N es rs))++((List.range es.length).filter fun i=>tst (pl (vtx es (2*i+1)))).map fun i=>(jo N es rs).length+i)
theorem vL{α : Type}{f : α → Nat}{l:List α}(hn:l.Nodup)(h:∀a∈l,∀b∈l,f a=f b→a=b):(l.map f).Nodup:=by
 rw [List.nodup_iff_pairwise_ne,List.pairwise_map];exact (List.nodup_iff_pairwise_ne.1 hn).imp_of_mem fun {a b} ha hb hne e=>hne (h a ha b hb e)
theorem XI:(aB N es pl).Nodup:=by
 unfold aB;rw [List.nodup_cons];refine ⟨fun h=>?_,?_⟩
 ·rcases List.mem_append.1 h with h | h
  ·have:=List.mem_range.1 (List.mem_filter.1 h).1;omega
  ·obtain ⟨d,_,e⟩:=List.mem_map.1 h;omega
 ·rw [List.nodup_append];refine ⟨List.nodup_range.filter _,vL (List.nodup_range.filter _) (fun a _ b _ e=>by omega),fun a ha b hb e=>?_⟩;have:=List.mem_range.1 (List.mem_filter.1 ha).1;obtain ⟨d,_,e2⟩:=List.mem_map.1 hb;omega
theorem Kb(hf:FitT N es rs o s gr):(aC N es rs o gr pl).Nodup:=by
 have hlt:∀a∈((List.range (2*es.length)).filter fun d=>tst (¬pl (vtx es d))&&kv es rs gr d).map (jT N es rs),a<(jo N es rs).length:=fun a ha=>by
  obtain ⟨d,hd,rfl⟩:=List.mem_map.1 ha;exact (yh hf.right (List.mem_range.1 (List.mem_filter.1 hd).1)).1
 unfold aC;rw [List.nodup_cons];refine ⟨fun h=>?_,?_⟩
 ·rcases List.mem_append.1 h with h | h
  ·obtain ⟨d,hd,e⟩:=List.mem_map.1 h;obtain ⟨h1,h2⟩:=List.mem_filter.1 hd;exact (hf.top_face (List.mem_range.1 h1) (by rw [Bool.and_eq_true] at h2;exact h2.2)).1 e
  ·obtain ⟨d,_,e⟩:=List.mem_map.1 h;have:=hf.oF;omega
 ·rw [List.nodup_append];refine ⟨vL (List.nodup_range.filter _) (fun a ha b hb e=>?_),vL (List.nodup_range.filter _) (fun a _ b _ e=>by omega),fun a ha b hb e=>?_⟩
  ·obtain ⟨a1,a2⟩:=List.mem_filter.1 ha;obtain ⟨b1,b2⟩:=List.mem_filter.1 hb;rw [Bool.and_eq_true] at a2 b2;exact (hf.top_face (List.mem_range.1 b1) b2.2).2 a (List.mem_range.1 a1) a2.2 e
  ·have:=hlt a ha;obtain ⟨d,_,e2⟩:=List.mem_map.1 hb;omega
theorem ag(hf:FitT N es rs o s gr)(hs:pl s):(aB N es pl).length+(aC N es rs o gr pl).length=es.length+2*(1+YP es pl):=by
 have h1:=hf.count hs;unfold aB aC;simp only [List.length_cons,List.length_append,List.length_map,←List.countP_eq_length_filter];have h2:(List.range (2*es.length)).countP (fun d=>tst (pl (vtx es (2*(d/2)+1))))=2*YP es pl:=Qc (fun i=>tst (pl (vtx es (2*i+1)))) es.length;unfold tn iT at h1;unfold YP at h1 h2 ⊢;omega
theorem WM(hf:FitT N es rs o s gr)(hc:Cut N es rs o s pl ρ)(hne : ρ ≠ []):∀a∈aB N es pl,∃d,d<2*es.length∧VT N es pl d=a:=by
 intro a ha;unfold aB at ha;rcases List.mem_cons.1 ha with rfl | ha
 ·obtain ⟨b,hb⟩:=List.exists_mem_of_ne_nil _ hne;obtain ⟨b1,b2,b3⟩:=qr hc hb;exact ⟨2*b,by omega,kF b1 b2⟩
 ·rcases List.mem_append.1 ha with ha | ha
  ·obtain ⟨h1,h2⟩:=List.mem_filter.1 ha;have h1:=List.mem_range.1 h1;rw [jt] at h2;obtain ⟨k,hk,hv,_⟩:=hf.odd_at h1 (fun e=>h2 (by rw [e];exact hc.src));refine ⟨k,hk,?_⟩;rw [YL (fun e=>h2 (by rw [←hv];exact Js hc hk e)) (by rw [hv];exact h2),hv]
  ·obtain ⟨d,hd,rfl⟩:=List.mem_map.1 ha;obtain ⟨h1,h2⟩:=List.mem_filter.1 hd;exact ⟨d,List.mem_range.1 h1,mm (jt.1 h2)⟩
theorem GG(hf:FitT N es rs o s gr)(hc:Cut N es rs o s pl ρ)(hne : ρ ≠ []):∀a∈aC N es rs o gr pl,∃d,d<2*es.length∧aY N es rs pl d=a:=by
 intro a ha;unfold aC at ha;rcases List.mem_cons.1 ha with rfl | ha
 ·obtain ⟨b,l,rfl⟩:=List.exists_cons_of_ne_nil hne;obtain ⟨b1,b2,b3⟩:=qr hc (List.mem_cons_self ..);exact ⟨2*b,by omega,by rw [xi b1];exact hc.out b rfl⟩
 ·rcases List.mem_append.1 ha with ha | ha
  ·obtain ⟨d,hd,rfl⟩:=List.mem_map.1 ha;obtain ⟨h1,h2⟩:=List.mem_filter.1 hd;have h1:=List.mem_range.1 h1;rw [Bool.and_eq_true,jt] at h2;obtain ⟨k1,k2⟩:=qS hf.right h1;refine ⟨sig es rs d,k1,?_⟩;rw [xi (fun e=>h2.1 (by have:=Js hc k1 e;rwa [k2] at this)),vg hf.right h1]
  ·obtain ⟨i,hi,rfl⟩:=List.mem_map.1 ha;obtain ⟨h1,h2⟩:=List.mem_filter.1 hi;have h1:=List.mem_range.1 h1;refine ⟨2*i,by omega,?_⟩;rw [Xr (by unfold yV;rw [show 2*i/2=i by omega];exact jt.1 h2),show 2*i/2=i by omega]
/-- the row's halves are one orbit -/
theorem hZ(hc:Cut N es rs o s pl ρ):∀i (hi:i < ρ.length),Orb (sP es rs pl ρ) (2 * ρ[0]'(by omega)) (2 * ρ[i])
 | 0,_=>Orb.refl _ _
 | i+1,hi=>by
  refine (hZ hc i (by omega)).trans ⟨1,?_⟩
  show sP es rs pl ρ (2 * ρ[i])=_
  rw [uP hc (List.getElem_mem _),YD hc.nd (by omega)];simp only [Nat.mod_eq_of_lt hi]
/-- parts, where all alive halves hang together with one -/
theorem dn{T:Nat→Nat→Prop}(hT:Equ (2*es.length) T)(h2:∀i,i<es.length→T (2*i) (2*i+1)){z:Nat}(hz:z<2*es.length)(h:∀d,d<2*es.length → ¬yV es pl d→T z d):cls T (2*es.length)≤1+YP es pl:=by
 have:=eq hT (z::((List.range es.length).filter fun i=>tst (pl (vtx es (2*i+1)))).map fun i=>2*i) (fun x hx=>by
  by_cases hd:yV es pl x
  ·refine ⟨2*(x/2),List.mem_cons_of_mem _ (List.mem_map.2 ⟨x/2,List.mem_filter.2 ⟨List.mem_range.2 (by omega),jt.2 hd⟩,rfl⟩),by omega,?_⟩;rcases Nat.mod_two_eq_zero_or_one x with e | e
   ·rw [show 2*(x/2)=x by omega];exact hT.refl x hx
   ·have:=h2 (x/2) (by omega)
    rwa [show 2*(x/2)+1=x by omega] at this
  ·exact ⟨z,List.mem_cons_self ..,hz,h x hx hd⟩)
 simp only [List.length_cons,List.length_map,←List.countP_eq_length_filter] at this;unfold YP;omega
end
end Go.Proofs.YtneeknlhlkpnpaaGreat
