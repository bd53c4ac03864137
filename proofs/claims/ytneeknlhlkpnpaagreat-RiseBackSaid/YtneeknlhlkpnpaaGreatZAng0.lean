import Derived.Test.YtneeknlhlkpnpaaGreatZEul
import Derived.Test.YtneeknlhlkpnpaaGreatZVw
/-
 Angles of a rotation: kinds, faces; in each face as many are Low as are High (plain law). Written by an AI agent.
-/
namespace Go.Proofs.YtneeknlhlkpnpaaGreat
open Go.RowKit
theorem ku{α : Type}{l:List α}(h:l.Nodup){i j:Nat}(hi:i<l.length)(hj:j<l.length)(e:l[i]=l[j]):i=j:=by
 rcases Nat.lt_trichotomy i j with h1 | h1 | h1
 ·exact absurd e (List.pairwise_iff_getElem.1 h i j hi hj h1)
 ·exact h1
 ·exact absurd e.symm (List.pairwise_iff_getElem.1 h j i hj hi h1)
def xL(a b:Nat):Nat:=if a%2=0∧b%2=0 then 1 else if a%2=1∧b%2=1 then 2 else 0
def vR(F:List (List Int)):Nat→Int→Nat
 | 0,_=>0
 | k+1,h=>if (F.getD k []).contains h then k else vR F k h
def yE(es:List (Int×Int))(rs:List (List Int))(h:Nat):Nat:=xL h (sig es rs h)
def jY(n:Int)(es:List (Int×Int))(rs:List (List Int))(h:Nat):Nat:=vR (jE n es rs) (jE n es rs).length ((ot h:Nat):Int)
theorem Kp{F:List (List Int)}{h:Int}:∀k,(∃f,f<k∧h∈F.getD f [])→vR F k h<k∧h∈F.getD (vR F k h) []
 | 0,⟨f,hf,_⟩=>absurd hf (Nat.not_lt_zero _)
 | k+1,⟨f,hf,hm⟩=>by
  unfold vR;by_cases hk:h∈F.getD k []
  ·rw [if_pos (by simpa using hk)];exact ⟨by omega,hk⟩
  ·rw [if_neg (by simpa using hk)];have:f≠k:=fun e=>hk (e▸hm);obtain ⟨h1,h2⟩:=Kp k ⟨f,by omega,hm⟩;exact ⟨by omega,h2⟩
theorem Xw{N:Nat}{f:Nat→Nat}(hf:Perm N f){h:Nat}(hh:h<N)(x:Nat):(x:Int)∈uk f h↔Orb f h x:=by
 unfold uk;rw [List.mem_map,Gq hf hh];constructor
 ·rintro ⟨i,hi,e⟩;exact ⟨i,List.mem_range.1 hi,by omega⟩
 ·rintro ⟨i,hi,e⟩;exact ⟨i,List.mem_range.2 hi,by rw [e]⟩
theorem QB(f:Nat→Nat)(N:Nat){i:Nat}(hi:i<(yr f N).length):∃h,h<N∧ko f h=true∧(yr f N).getD i []=uk f h∧((List.range N).filter (ko f))[i]? = some h:=by
 unfold yr at hi ⊢;rw [List.length_map] at hi;have hm:=List.getElem_mem hi;rw [List.mem_filter,List.mem_range] at hm;refine ⟨_,hm.1,hm.2,?_,List.getElem?_eq_getElem hi⟩;rw [List.getD_eq_getElem?_getD,List.getElem?_map,List.getElem?_eq_getElem hi];rfl
section
variable {n:Int}{es:List (Int×Int)}{rs:List (List Int)}
theorem bJ(hR:RightP n es rs){h:Nat}(hh:h<2*es.length):∃f,f<(jE n es rs).length∧(h:Int)∈(jE n es rs).getD f []:=by
 have hP:=vI hR;obtain ⟨m,hm,hmo,hml⟩:=xG (P:=fun k=>Orb (nxf es rs) k h) (Orb.refl _ h)
 have hb:ko (nxf es rs) m=true:=by
  unfold ko;rw [jB];intro j hj ho;exact hml j hj (ho.trans hmo)
 rw [vy hR];have hmem:uk (nxf es rs) m∈yr (nxf es rs) (2*es.length):=List.mem_map.2 ⟨m,List.mem_filter.2 ⟨List.mem_range.2 (by omega),hb⟩,rfl⟩;obtain ⟨f,hf,e⟩:=List.getElem_of_mem hmem;refine ⟨f,hf,?_⟩;rw [List.getD_eq_getElem?_getD,List.getElem?_eq_getElem hf]
 show (h:Int)∈(yr (nxf es rs) (2*es.length))[f]
 rw [e,Xw hP (by omega)];exact hmo
theorem mA(hR:RightP n es rs){h f g:Nat}(hf:f<(jE n es rs).length)(hg:g<(jE n es rs).length)(h1:(h:Int)∈(jE n es rs).getD f [])(h2:(h:Int)∈(jE n es rs).getD g []):f=g:=by
 have hP:=vI hR;rw [vy hR] at hf hg h1 h2;obtain ⟨a,ha,hla,ea,eia⟩:=QB _ _ hf;obtain ⟨b,hb,hlb,eb,eib⟩:=QB _ _ hg;rw [ea,Xw hP ha] at h1;rw [eb,Xw hP hb] at h2
 have hab:a=b:=by
  unfold ko at hla hlb;rw [jB] at hla hlb;have o1:=h1.trans (h2.symm hP hb);have o2:=h2.trans (h1.symm hP ha);rcases Nat.lt_trichotomy a b with h | h | h
  ·exact absurd o1 (hlb a h)
  ·exact h
  ·exact absurd o2 (hla b h)
 subst hab;have hnd:((List.range (2*es.length)).filter (ko (nxf es rs))).Nodup:=List.nodup_range.filter _;obtain ⟨hfl,ef⟩:=List.getElem?_eq_some_iff.1 eia;obtain ⟨hgl,eg⟩:=List.getElem?_eq_some_iff.1 eib;exact ku hnd hfl hgl (ef.trans eg.symm)
theorem bH(hR:RightP n es rs){f:Nat}{z:Int}(h:z∈(jE n es rs).getD f []):∃k:Nat,z=k∧k<2*es.length:=by
 have hP:=vI hR;rw [vy hR] at h;rcases Nat.lt_or_ge f (yr (nxf es rs) (2*es.length)).length with hf | hf
 ·obtain ⟨a,ha,_,ea,_⟩:=QB _ _ hf;rw [ea] at h;unfold uk at h;obtain ⟨i,_,rfl⟩:=List.mem_map.1 h;exact ⟨_,rfl,hP.iter_lt i ha⟩
 ·rw [List.getD_eq_getElem?_getD,List.getElem?_eq_none hf] at h
  cases h
theorem ya(hR:RightP n es rs){h:Nat}(hh:h<2*es.length):jY n es rs h<(jE n es rs).length∧((ot h:Nat):Int)∈(jE n es rs).getD (jY n es rs h) []:=
 Kp _ (bJ hR (xY hh))
theorem mU(hR:RightP n es rs){h f:Nat}(hh:h<2*es.length)(hf:f<(jE n es rs).length):jY n es rs h=f↔((ot h:Nat):Int)∈(jE n es rs).getD f []:=by
 obtain ⟨h1,h2⟩:=ya hR hh;exact ⟨fun e=>e▸h2,fun h3=>mA hR h1 hf h2 h3⟩
end
theorem gM{N:Nat}{f:Nat→Nat}(hf:Perm N f){x:Nat}(hx:x<N):∃y,y<N∧f y=x:=by
 obtain ⟨p,hp,_,e⟩:=hf.period hx;refine ⟨qQ f (p-1) x,hf.iter_lt _ hx,?_⟩;rw [←ua f,show p-1+1=p by omega];exact e
theorem Kf{N:Nat}{f:Nat→Nat}(hf:Perm N f)(q:Nat→Bool):(List.range N).countP (fun k=>q (f k))=(List.range N).countP q:=by
 have hp:((List.range N).map f).Perm (List.range N):=by
  rw [List.perm_ext_iff_of_nodup]
  ·intro a;rw [List.mem_map,List.mem_range];constructor
   ·rintro ⟨k,hk,rfl⟩;exact hf.lt k (List.mem_range.1 hk)
   ·intro ha;obtain ⟨y,hy,e⟩:=gM hf ha;exact ⟨y,List.mem_range.2 hy,e⟩
  ·unfold List.Nodup;rw [List.pairwise_map];refine List.Pairwise.imp_of_mem (fun {a b} ha hb hab e=>?_) List.pairwise_lt_range;have:=hf.inj a b (List.mem_range.1 ha) (List.mem_range.1 hb) e;omega
  ·exact List.nodup_range
 have:=hp.countP_eq q;rw [List.countP_map] at this;exact this
theorem qn{N:Nat}{p q:Nat→Bool}(h:∀k,k<N→p k=q k):(List.range N).countP p=(List.range N).countP q:=
 List.countP_congr fun k hk=>by rw [h k (List.mem_range.1 hk)]
theorem nR{N:Nat}{f:Nat→Nat}(hf:Perm N f){P q:Nat→Bool}(hP:∀k,k<N→P (f k)=P k) :
  (List.range N).countP (fun k=>P k&&(!q k&&q (f k)))=(List.range N).countP (fun k=>P k&&(q k && !q (f k))):=by
 have h1:(List.range N).countP (fun k=>P k&&q (f k))=(List.range N).countP (fun k=>P k&&q k):=by
  rw [←Kf hf (fun k=>P k&&q k)];exact qn fun k hk=>by rw [hP k hk]
 have h2:=yA (List.range N) (fun k=>P k&&q (f k)) q;have h3:=yA (List.range N) (fun k=>P k&&q k) (fun k=>q (f k));have e1:(List.range N).countP (fun k=>P k&&q (f k)&&q k)=(List.range N).countP (fun k=>P k&&q k&&q (f k)):=qn fun k _=>by cases P k<;>cases q k<;>cases q (f k)<;>rfl
 have e2:(List.range N).countP (fun k=>P k&&(!q k&&q (f k)))=(List.range N).countP (fun k=>P k&&q (f k) && !q k):=qn fun k _=>by cases P k<;>cases q k<;>cases q (f k)<;>rfl
 have e3:(List.range N).countP (fun k=>P k&&(q k && !q (f k)))=(List.range N).countP (fun k=>P k&&q k && !q (f k)):=qn fun k _=>by cases P k<;>cases q k<;>cases q (f k)<;>rfl
 omega
def ev(k:Nat):Bool:=decide (k%2=0)
theorem kb(a b:Nat):xL a b=2↔ev a=false∧ev b=false:=by
 unfold xL ev;rcases Nat.mod_two_eq_zero_or_one a with ha | ha<;>rcases Nat.mod_two_eq_zero_or_one b with hb | hb<;>simp [ha,hb]
section
variable {n:Int}{es:List (Int×Int)}{rs:List (List Int)}
end
end Go.Proofs.YtneeknlhlkpnpaaGreat
namespace Go.Proofs.YtneeknlhlkpnpaaGreat
open Go.RowKit
theorem Gl{v c:Nat}:∀M:Nat,((List.range M).map fun x=>if v=x then c else 0).sum=if v<M then c else 0
 | 0=>by simp
 | M+1=>by
  rw [List.range_succ,List.map_append,List.sum_append,Gl M];simp only [List.map_cons,List.map_nil,List.sum_cons,List.sum_nil,Nat.add_zero];by_cases h:v=M
  ·subst h;simp
  ·by_cases h2:v<M
   ·rw [if_pos h2,if_neg h,if_pos (by omega)];rfl
   ·rw [if_neg h2,if_neg h,if_neg (by omega)]
theorem eh(f g:Nat→Nat):∀M:Nat,((List.range M).map fun x=>f x+g x).sum=((List.range M).map f).sum+((List.range M).map g).sum
 | 0=>by simp
 | M+1=>by
  rw [List.range_succ,List.map_append,List.sum_append,List.map_append,List.sum_append,List.map_append,List.sum_append,eh f g M];simp only [List.map_cons,List.map_nil,List.sum_cons,List.sum_nil,Nat.add_zero];omega
theorem Je{f g:Nat→Nat}{M:Nat}(h:∀x,x<M→f x=g x):((List.range M).map f).sum=((List.range M).map g).sum:=by
 congr 1;exact List.map_congr_left fun x hx=>h x (List.mem_range.1 hx)
theorem Jd(p:Nat→Bool):∀M:Nat,((List.range M).map fun x=>if p x=true then 1 else 0).sum=(List.range M).countP p
 | 0=>by simp
 | M+1=>by
  rw [List.range_succ,List.map_append,List.sum_append,Jd p M,List.countP_append];by_cases h:p M=true<;>simp [h]
theorem kl{v:Nat→Nat}{M:Nat}(p:Nat→Bool):∀N:Nat,(∀k,k<N→v k<M)→(List.range N).countP p=((List.range M).map fun x=>(List.range N).countP fun k=>decide (v k=x)&&p k).sum
 | 0,_=>by
  have:((List.range M).map fun x=>(List.range 0).countP fun k=>decide (v k=x)&&p k)=(List.range M).map fun _=>0:=by simp
  rw [this]
  have h0:∀M:Nat,((List.range M).map fun _=>0).sum=0:=fun M=>by
   have:=Gl (v:=0) (c:=0) M;simpa using this
  rw [h0];rfl
 | N+1,h=>by
  have ih:=kl (v:=v) (M:=M) p N (fun k hk=>h k (by omega));rw [List.range_succ,List.countP_append,ih]
  have e:((List.range M).map fun x=>(List.range N++[N]).countP fun k=>decide (v k=x)&&p k).sum=((List.range M).map fun x=>((List.range N).countP fun k=>decide (v k=x)&&p k)+if v N=x then (if p N=true then 1 else 0) else 0).sum:=by
   refine Je fun x _=>?_;rw [List.countP_append];congr 1;by_cases h1:v N=x
   ·by_cases h2:p N=true<;>simp [h1,h2]
   ·simp [h1]
  rw [e,eh,Gl,if_pos (h N (by omega))];congr 1;by_cases h2:p N=true<;>simp [h2]
section
variable {n:Int}{es:List (Int×Int)}{rs:List (List Int)}
def kI(es:List (Int×Int))(x:Nat):Prop:=∃k,k<2*es.length∧vtx es k=x∧ev k=false
def vk(es:List (Int×Int))(x:Nat):Prop:=∃k,k<2*es.length∧vtx es k=x∧ev k=true
def Vc(es:List (Int×Int))(rs:List (List Int))(x:Nat):Nat:=(List.range (2*es.length)).countP fun k=>decide (vtx es k=x)&&(!ev k&&ev (sig es rs k))
theorem cJ(hR:RightP n es rs)(x:Nat){k:Nat}(hk:k<2*es.length):decide (vtx es (sig es rs k)=x)=decide (vtx es k=x):=by rw [(yl hR hk).2]
theorem fQ(hR:RightP n es rs)(x:Nat):(List.range (2*es.length)).countP (fun k=>decide (vtx es k=x)&&(ev k && !ev (sig es rs k)))=Vc es rs x:=
 (nR (QA hR) (P:=fun k=>decide (vtx es k=x)) (q:=ev) (fun _k hk=>cJ hR x hk)).symm
def uX(es:List (Int×Int))(rs:List (List Int))(x:Nat):Nat:=(List.range (2*es.length)).countP fun k=>decide (vtx es k=x)&&decide (yE es rs k=0)
theorem Qt(a b:Nat):xL a b=0↔ev a≠ev b:=by
 unfold xL ev;have ha:=Nat.mod_two_eq_zero_or_one a;have hb:=Nat.mod_two_eq_zero_or_one b;rcases ha with ha | ha<;>rcases hb with hb | hb<;>simp [ha,hb]
theorem UQ(hR:RightP n es rs)(x:Nat):uX es rs x=2*Vc es rs x:=by
 have h1:=fQ hR x;have h2:=yA (List.range (2*es.length)) (fun k=>decide (vtx es k=x)&&decide (yE es rs k=0)) ev
 have e1:(List.range (2*es.length)).countP (fun k=>decide (vtx es k=x)&&decide (yE es rs k=0)&&ev k)=(List.range (2*es.length)).countP (fun k=>decide (vtx es k=x)&&(ev k && !ev (sig es rs k))):=qn fun k _=>by
  unfold yE;rw [Bool.eq_iff_iff];simp only [Bool.and_eq_true,decide_eq_true_eq,Qt]
  cases ev k<;>cases ev (sig es rs k)<;>simp
 have e2:(List.range (2*es.length)).countP (fun k=>decide (vtx es k=x)&&decide (yE es rs k=0) && !ev k)=Vc es rs x:=qn fun k _=>by
  unfold yE;rw [Bool.eq_iff_iff];simp only [Bool.and_eq_true,decide_eq_true_eq,Qt]
  cases ev k<;>cases ev (sig es rs k)<;>simp
 unfold uX;omega
theorem KC(hR:RightP n es rs)(x:Nat):0<Vc es rs x↔kI es x∧vk es x:=by
 unfold Vc;rw [List.countP_pos_iff];constructor
 ·rintro ⟨k,hk,h⟩;rw [List.mem_range] at hk;simp only [Bool.and_eq_true,decide_eq_true_eq,Bool.not_eq_true'] at h;obtain ⟨h1,h2,h3⟩:=h;obtain ⟨h4,h5⟩:=yl hR hk;exact ⟨⟨k,hk,h1,h2⟩,⟨_,h4,h5.trans h1,h3⟩⟩
 ·rintro ⟨⟨a,ha,hax,hao⟩,b,hb,hbx,hbe⟩;apply Classical.byContradiction;intro hno;obtain ⟨i,hi⟩:=(Yh hR ha hb).2 (hax.trans hbx.symm)
  have key:∀i,vtx es (qQ (sig es rs) i a)=x∧qQ (sig es rs) i a<2*es.length∧ev (qQ (sig es rs) i a)=false:=fun i=>by
   induction i with
   | zero=>exact ⟨hax,ha,hao⟩
   | succ i ih=>
    rw [ua];obtain ⟨h1,h2,h3⟩:=ih;obtain ⟨h4,h5⟩:=yl hR h2;refine ⟨h5.trans h1,h4,?_⟩
    cases hh:ev (sig es rs (qQ (sig es rs) i a)) with
    | false=>rfl
    | true=>exact absurd ⟨_,List.mem_range.2 h2,by simp [h1,h3,hh]⟩ hno
  have:=(key i).2.2;rw [hi,hbe] at this
  cases this
end
end Go.Proofs.YtneeknlhlkpnpaaGreat
namespace Go.Proofs.YtneeknlhlkpnpaaGreat
open Go.RowKit
def rB(V Fc:Nat→Nat)(M:Nat)(E:List Nat)(rm:List Int):Prop:=
 ∃g:Nat→Nat,(∀x∈E,g x<M∧V (g x)=x) ∧ ∀f,f<rm.length→rm.getD f 0=(E.countP (fun x=>decide (Fc (g x)=f)):Nat)
def JR(V Fc:Nat→Nat)(M:Nat):List Nat→List Int→Bool
 | [],rm=>rm.all fun n=>decide (n=0)
 | x::E,rm=>(List.range M).any fun h=>decide (V h=x)&&(decide (0<rm.getD (Fc h) 0)&&JR V Fc M E (rm.set (Fc h) (rm.getD (Fc h) 0-1)))
theorem QX(l:List Int)(i j:Nat)(v:Int)(hi:i<l.length):(l.set i v).getD j 0=if j=i then v else l.getD j 0:=by
 by_cases h:j=i
 ·subst h;rw [if_pos rfl,List.getD_eq_getElem?_getD,List.getElem?_set_self hi];rfl
 ·rw [if_neg h,List.getD_eq_getElem?_getD,List.getElem?_set_ne (fun e=>h e.symm),List.getD_eq_getElem?_getD]
theorem Xv{V Fc:Nat→Nat}{M:Nat}:∀(E:List Nat) (rm:List Int),E.Nodup→(∀h,h<M→Fc h<rm.length)→(JR V Fc M E rm=true↔rB V Fc M E rm)
 | [],rm,_,_=>by
  unfold JR rB;rw [List.all_eq_true];constructor
  ·intro h;refine ⟨fun _=>0,by simp,fun f hf=>?_⟩;have:=h _ (List.getElem_mem hf);rw [List.getD_eq_getElem?_getD,List.getElem?_eq_getElem hf];simpa using this
  ·rintro ⟨g,_,h⟩ z hz;obtain ⟨f,hf,rfl⟩:=List.getElem_of_mem hz;have:=h f hf;rw [List.getD_eq_getElem?_getD,List.getElem?_eq_getElem hf] at this;simpa using this
 | x::E,rm,hnd,hFc=>by
  obtain ⟨hx,hnd'⟩:=List.nodup_cons.1 hnd;unfold JR;rw [List.any_eq_true];constructor
  ·rintro ⟨h,hh,hp⟩;rw [List.mem_range] at hh;simp only [Bool.and_eq_true,decide_eq_true_eq] at hp;obtain ⟨h1,h2,h3⟩:=hp;obtain ⟨g,g1,g2⟩:=(Xv E _ hnd' (fun h hh=>by rw [List.length_set];exact hFc h hh)).1 h3;refine ⟨fun y=>if y=x then h else g y,fun y hy=>?_,fun f hf=>?_⟩
   ·by_cases e:y=x
    ·subst e;simp only [if_pos];exact ⟨hh,h1⟩
    ·simp only [if_neg e];exact g1 y ((List.mem_cons.1 hy).resolve_left e)
   ·have h4:=g2 f (by rw [List.length_set];exact hf);rw [QX _ _ _ _ (hFc h hh)] at h4
    have e1:E.countP (fun y=>decide (Fc (if y=x then h else g y)=f))=E.countP (fun y=>decide (Fc (g y)=f)):=List.countP_congr fun y hy=>by
     have hyx:¬y=x:=fun e=>hx (by rw [←e];exact hy);rw [if_neg hyx]
    have e2:((fun y=>if y=x then h else g y) x)=h:=by simp
    rw [List.countP_cons,e1,e2];by_cases e:f=Fc h
    ·subst e;rw [if_pos rfl] at h4;simp only [decide_true,if_true];omega
    ·rw [if_neg e] at h4;rw [h4,decide_eq_false (fun h=>e h.symm)];simp
  ·rintro ⟨g,g1,g2⟩;obtain ⟨h1,h2⟩:=g1 x (by simp);have hr:=g2 (Fc (g x)) (hFc _ h1);rw [List.countP_cons,decide_eq_true rfl,if_pos rfl] at hr;refine ⟨g x,List.mem_range.2 h1,?_⟩;simp only [Bool.and_eq_true,decide_eq_true_eq];refine ⟨h2,by omega,(Xv E _ hnd' (fun h hh=>by rw [List.length_set];exact hFc h hh)).2 ⟨g,fun y hy=>g1 y (by simp [hy]),fun f hf=>?_⟩⟩;rw [List.length_set] at hf;rw [QX _ _ _ _ (hFc _ h1)];have h3:=g2 f hf;rw [List.countP_cons] at h3;by_cases e:f=Fc (g x)
   ·subst e;rw [if_pos rfl];omega
   ·rw [if_neg e,h3,decide_eq_false (fun h=>e h.symm)];simp
theorem YC{n:Nat}{p q:Nat→Bool}(h:∀z,z<n→p z=true→q z=true){y:Nat}(hy:y<n)(hq:q y=true)(hp:p y=false):(List.range n).countP p<(List.range n).countP q:=by
 have h1:=yA (List.range n) q p
 have e1:(List.range n).countP (fun z=>q z&&p z)=(List.range n).countP p:=qn fun z hz=>by
  cases hpz:p z with
  | false=>simp
  | true=>rw [h z hz hpz];rfl
 have h2:0<(List.range n).countP (fun z=>q z && !p z):=List.countP_pos_iff.2 ⟨y,List.mem_range.2 hy,by rw [hq,hp];rfl⟩;omega
theorem aC{n:Nat}{p q:Nat→Bool}(h:∀z,z<n→p z=true→q z=true):(List.range n).countP p≤(List.range n).countP q:=by
 have h1:=yA (List.range n) q p
 have e1:(List.range n).countP (fun z=>q z&&p z)=(List.range n).countP p:=qn fun z hz=>by
  cases hpz:p z with
  | false=>simp
  | true=>rw [h z hz hpz];rfl
 omega
theorem VS{n:Nat}{E:List Nat}(hnd:E.Nodup)(hE:∀x∈E,x<n)(q:Nat→Bool):E.countP q=(List.range n).countP fun y=>decide (y∈E)&&q y:=by
 have hp:E.Perm ((List.range n).filter fun y=>decide (y∈E)):=by
  rw [List.perm_ext_iff_of_nodup hnd (List.nodup_range.filter _)];intro a;rw [List.mem_filter,List.mem_range,decide_eq_true_eq];exact ⟨fun h=>⟨hE a h,h⟩,fun h=>h.2⟩
 rw [hp.countP_eq,List.countP_filter];exact qn fun y _=>Bool.and_comm _ _
section
variable (V Fc:Nat→Nat)(n M:Nat)(rm:List Int)
abbrev SS:=List Int×List Bool
end
section
variable {V Fc:Nat→Nat}{n M:Nat}{rm:List Int}
theorem lC{G:List Int}(y:Nat):G.set y (G.getD y 0)=G:=by
 apply List.ext_getElem?;intro i;rw [List.getElem?_set];by_cases h:y=i
 ·subst h;by_cases hy:y<G.length
  ·rw [if_pos rfl,if_pos hy,List.getD_eq_getElem?_getD,List.getElem?_eq_getElem hy];rfl
  ·rw [if_pos rfl,if_neg hy,List.getElem?_eq_none (by omega)]
 ·rw [if_neg h]
end
end Go.Proofs.YtneeknlhlkpnpaaGreat
namespace Go.Proofs.YtneeknlhlkpnpaaGreat
open Go.RowKit
structure SG(w wc:World)(n:Int)(A:Option Addr)(cap:Nat)(es:List (Int×Int))(C:Option Addr)(rs:List (List Int)):Prop where
 b:Blk wc w.heap.size 24 #[.int .i64 n,.slice A es.length cap]
 below:Below w.heap.size w wc
 es:jr wc wc.heap.size A (jA es)
 rs:qm wc wc.heap.size C rs
 lt:w.heap.size<wc.heap.size
section
variable {w wc w':World}{n:Int}{A:Option Addr}{cap:Nat}{es:List (Int×Int)}{C:Option Addr}{rs:List (List Int)}
theorem SG.next(h:SG w wc n A cap es C rs)(hb:Below wc.heap.size wc w'):SG w w' n A cap es C rs:=by
 have hz:=hb.size;have h1:=h.lt;exact ⟨h.b.below hb h1,h.below.trans (hb.mono (Nat.le_of_lt h1)),(h.es.below hb).more hz,(h.rs.below hb).more hz,by omega⟩
theorem SG.drewN(h:SG w wc n A cap es C rs)(k:Nat):SG w (wc.drewN k) n A cap es C rs:=h.next (below_drewN (Below.refl _ _) k)
theorem SG.g0(h:SG w wc n A cap es C rs):wc.cell? ⟨w.heap.size,0,none⟩=some (.int .i64 n):=h.b.cell 0
theorem SG.g1(h:SG w wc n A cap es C rs):wc.cell? ⟨w.heap.size,1,none⟩=some (.slice A es.length cap):=h.b.cell 1
theorem SG.start(n:Int)(cap:Nat)(hes:jr w w.heap.size A (jA es))(hrs:qm w w.heap.size C rs):SG w (w.alloc (.cells #[.int .i64 n,.slice A es.length cap] 24)) n A cap es C rs:=by
 have hbw:=(Below.refl w.heap.size w).alloc (Nat.le_refl _) (.cells #[.int .i64 n,.slice A es.length cap] 24);exact ⟨Blk.new w _ _,hbw,(hes.below hbw).more hbw.size,(hrs.below hbw).more hbw.size,by simp⟩
end
theorem br(a b:Nat)(w:World):Calls Tryz.prog 51 #[.int .i64 a,.int .i64 b] w fun e w'=>e = .returned (.int .i64 (xL a b:Nat))∧w=w':=by
 have ha:Int.tmod (a:Int) 2=((a%2:Nat):Int):=by rw [Int.tmod_eq_emod_of_nonneg (by omega)];omega
 have hb:Int.tmod (b:Int) 2=((b%2:Nat):Int):=by rw [Int.tmod_eq_emod_of_nonneg (by omega)];omega
 have HK:=Lib.hid (show xL a b=if a%2=0∧b%2=0 then 1 else if a%2=1∧b%2=1 then 2 else 0 from rfl);rcases Nat.mod_two_eq_zero_or_one a with h1 | h1<;>rcases Nat.mod_two_eq_zero_or_one b with h2 | h2
 all_goals
  rw [h1] at ha HK;rw [h2] at hb HK;clear h1 h2
  go_enter Tryz.func51,Tryz.ntmps51
  go_wp2_with fail;go_ret;exact ⟨vP (by rw [HK.out];rfl),rfl⟩
noncomputable def xy(n:Int)(es:List (Int×Int))(rs:List (List Int)):Bool:=yn n es rs&&(decide (gen n es rs=0)&&(kO rs.length es&&decide (cls (Q es es.length) rs.length=1)))
set_option maxRecDepth 20000 in
set_option maxHeartbeats 2000000 in
theorem bY(n:Int)(A C:Option Addr)(cap ccap:Nat)(es:List (Int×Int))(rs:List (List Int))(w:World)(hes:jr w w.heap.size A (jA es))(hrs:qm w w.heap.size C rs)(hr1:rs.length≤1000)(hr2:∀l∈rs,l.length≤1000) :
  Calls Tryz.prog 49 #[.agg #[.int .i64 n,.slice A es.length cap],.slice C rs.length ccap] w (fun e w'=>e = .returned (.bool (xy n es rs))∧Below w.heap.size w w'):=by
 have S1:=Lib.hid (SG.start n cap hes hrs);have HR2:=Lib.hid hr2;clear hes hrs hr2
 go_enter Tryz.func49,Tryz.ntmps49
 go_upto_region 1 with fail
 generalize w.alloc (.cells #[.int .i64 n,.slice A es.length cap] 24)=w1 at *;have g0:=S1.out.g0;have g1:=S1.out.g1;go_wp2_with fail;refine (iu n A C cap ccap es rs w1 S1.out.es S1.out.rs hr1 HR2.out).mono ?_;rintro e w2 ⟨hb2,hy,hno⟩;have S2:=Lib.hid (S1.out.next hb2);have g0:=S2.out.g0;have g1:=S2.out.g1;clear hb2 S1;obtain ⟨hi1,hi2,hi3⟩:=@pm n es;have HI3:=Lib.hid hi3;clear hi3
 cases hm:yn n es rs with
 | false=>
  have he:=hno hm;subst he;have HF:=Lib.hid (show xy n es rs=false by unfold xy;rw [hm];rfl);clear hm hy hno;go_wp2_with fail;refine (um n A cap es w2 S2.out.es).mono ?_;rintro e w3 ⟨gv,rfl,hb3,hv3⟩;have S3:=Lib.hid (S2.out.next hb3);have HV3:=Lib.hid hv3;clear hb3 hv3 S2;go_wp2_with fail;refine (UY gv (vN n es) (vE n es) w3 HV3.out HI3.out hi1 hi2).mono ?_;rintro e w4 ⟨v,rfl,hb4,_⟩;have S4:=Lib.hid (S3.out.next hb4);clear hb4 S3;go_wp2_with fail;go_ret;exact ⟨jx HF.out.symm,S4.out.below⟩
 | true=>
  have he:=hy hm;subst he;have HP:=Lib.hid (qZ.1 hm);have HM:=Lib.hid hm;have hmay:=QR hm;have HMAY:=Lib.hid hmay;obtain ⟨hn0,hn1,hn2⟩:=jP hmay;have hln:=HP.out.len;obtain ⟨N,rfl⟩:∃k:Nat,n=k:=⟨n.toNat,by omega⟩;have hNr:rs.length=N:=by omega
  have HA:=Lib.hid (show xy N es rs=(decide (gen N es rs=0)&&(kO N es&&decide (cls (Q es es.length) N=1))) by unfold xy;rw [hm,hNr];rfl);have HVE:=Lib.hid (show vN N es=N∧vE N es=es by unfold vN vE;rw [hmay];exact ⟨rfl,rfl⟩);obtain ⟨q,hq⟩:∃q,q=gen N es rs:=⟨_,rfl⟩;rw [←hq] at HA;rw [←hq]
  have hqb:q≤1000000:=by
   have:=QK HP.out (yV HP.out);have hcl:cls (Q es es.length) rs.length≤rs.length:=Nat.le_trans List.countP_le_length (by simp);omega
  clear hy hno hm hmay hq;go_wp2_with fail;refine (um N A cap es w2 S2.out.es).mono ?_;rintro e w3 ⟨gv,rfl,hb3,hv3⟩;have S3:=Lib.hid (S2.out.next hb3);have HV3:=Lib.hid hv3;clear hb3 hv3 S2;go_wp2_with fail;refine (UY gv (vN N es) (vE N es) w3 HV3.out HI3.out hi1 hi2).mono ?_;rintro e w4 ⟨v,rfl,hb4,_⟩;have S4:=Lib.hid (S3.out.next hb4);have g0:=S4.out.g0;have g1:=S4.out.g1;rw [HVE.out.1,HVE.out.2];clear hb4 S3;by_cases hq0:q=0
  ·subst hq0
   cases ho:kO N es with
   | false=>
    have HF:=Lib.hid (show xy N es rs=false by rw [HA.out,ho];rfl);clear ho;go_wp2_with fail;go_ret;exact ⟨jx HF.out.symm,S4.out.below⟩
   | true=>
    have HF:=Lib.hid (show xy N es rs=decide (cls (Q es es.length) N=1) by rw [HA.out,ho];rfl);clear ho;go_wp2_with fail;refine (UT N A cap es w4 S4.out.es HMAY.out).mono ?_;rintro e w5 ⟨A5,c5,rfl,hb5⟩;have S5:=Lib.hid (S4.out.next hb5);have hcl:cls (Q es es.length) N≤N:=Nat.le_trans List.countP_le_length (by simp);clear hb5 S4;generalize cls (Q es es.length) N=c at *;by_cases hc:c=1
    ·subst hc;go_wp2_with fail;go_ret;exact ⟨jx HF.out.symm,S5.out.below⟩
    ·have hc':((c:Int)==1)=false:=by rw [beq_eq_false_iff_ne];omega
     have HF2:=Lib.hid (show xy N es rs=false by rw [HF.out,decide_eq_false hc]);clear hc;go_wp2_with fail;go_ret;exact ⟨jx HF2.out.symm,S5.out.below⟩
  ·have hq':((q:Int)==0)=false:=by rw [beq_eq_false_iff_ne];omega
   have HF:=Lib.hid (show xy N es rs=false by rw [HA.out,decide_eq_false hq0];rfl);clear hq0;go_wp2_with fail;go_ret;exact ⟨jx HF.out.symm,S4.out.below⟩
end Go.Proofs.YtneeknlhlkpnpaaGreat
namespace Go.Proofs.YtneeknlhlkpnpaaGreat
open Go.RowKit
def kL(l:List Int)(j:Nat):Nat:=xL (l.getD j 0).toNat (l.getD ((j+1)%l.length) 0).toNat
def plU(l:List Int)(i:Nat):Nat:=(List.range i).countP fun j=>decide (kL l j=0)
def xP(rs:List (List Int)):Bool:=rs.all fun l=>decide (plU l l.length≤2)
theorem lU(l:List Int)(i:Nat):plU l (i+1)=plU l i+if kL l i=0 then 1 else 0:=by
 unfold plU;rw [List.range_succ,List.countP_append];simp
theorem pD(l:List Int)(i:Nat):plU l i≤i:=Nat.le_trans List.countP_le_length (by simp)
theorem Jj{n:Int}{es:List (Int×Int)}{rs:List (List Int)}(h:xy n es rs=true):RightP n es rs:=by
 unfold xy at h;exact qZ.1 (Bool.and_eq_true _ _▸h).1
set_option maxRecDepth 20000 in
set_option maxHeartbeats 2000000 in
theorem bX(n:Int)(A C:Option Addr)(cap ccap:Nat)(es:List (Int×Int))(rs:List (List Int))(w:World)(hes:jr w w.heap.size A (jA es))(hrs:qm w w.heap.size C rs)(hr1:rs.length≤1000)(hr2:∀l∈rs,l.length≤1000) :
  Calls Tryz.prog 71 #[.agg #[.int .i64 n,.slice A es.length cap],.slice C rs.length ccap] w (fun e w'=>e = .returned (.bool (xy n es rs&&xP rs))∧Below w.heap.size w w'):=by
 have S1:=Lib.hid (SG.start n cap hes hrs);have HR2:=Lib.hid hr2;clear hes hrs hr2
 go_enter Tryz.func71,Tryz.ntmps71
 go_upto_region 1 with fail
 generalize w.alloc (.cells #[.int .i64 n,.slice A es.length cap] 24)=w1 at *;have g0:=S1.out.g0;have g1:=S1.out.g1;go_wp2_with fail;refine (bY n A C cap ccap es rs w1 S1.out.es S1.out.rs hr1 HR2.out).mono ?_;rintro e w2 ⟨rfl,hb2⟩;have S2:=Lib.hid (S1.out.next hb2);clear hb2 S1 g0 g1
 cases ha:xy n es rs with
 | false=>
  have HA:=Lib.hid ha;clear ha;go_wp2_with fail;go_ret;exact ⟨jx (by rw [HA.out];rfl),S2.out.below⟩
 | true=>
  have HP:=Lib.hid (Jj ha);have HA:=Lib.hid ha;clear ha;go_wp2_with fail
  go_loopg [16] rs.length (fun k s16 wr=>∃i:Nat,s16 = .int .i64 i∧i≤rs.length∧k=rs.length-i∧w2=wr ∧ ∀j (h:j<rs.length),j<i→plU rs[j] rs[j].length≤2)
  case atStart=>exact ⟨0,rfl,Nat.zero_le _,rfl,rfl,fun j _ h=>absurd h (Nat.not_lt_zero _)⟩
  case round=>
   obtain ⟨i,rfl,hi,hk,rfl,hd⟩:=hrel;have Hk:=Lib.hid hk;have HD:=Lib.hid hd;clear hk hd;by_cases hil:i<rs.length
   ·have hil':(i:Int)<rs.length:=by omega
    obtain ⟨b,off,rfl,hbb,hcc⟩:=S2.out.rs (by omega);obtain ⟨Ai,ci,zi,hCi⟩:=hcc i hil;have HCI:=Lib.hid hCi;have HAT:=Lib.hid (fun t (ht:t<rs[i].length)=>HP.out.nat hil ht)
    have HN:=Lib.hid (fun (h:plU rs[i] rs[i].length≤2) (j:Nat) (hj:j<rs.length) (hji:j<i+1)=>(by
     by_cases e:j=i
     ·subst e;exact h
     ·exact HD.out j hj (by omega):plU rs[j] rs[j].length≤2))
    have HF:=Lib.hid (fun (h:¬plU rs[i] rs[i].length≤2)=>(by
     unfold xP;rw [List.all_eq_false]
     exact ⟨rs[i],List.getElem_mem hil,by simpa using h⟩:xP rs=false))
    have hll:rs[i].length≤1000:=HR2.out _ (List.getElem_mem hil);generalize rs[i]=l at *;clear hcc hCi;go_wp2_with fail;clear zi
    go_loopg [7,22] l.length (fun k s7 s22 wr=>∃j:Nat,s22 = .int .i64 j∧s7 = .int .i64 (plU l j:Nat)∧j≤l.length∧k=l.length-j∧w2=wr)
    case atStart=>exact ⟨0,rfl,rfl,Nat.zero_le _,rfl,rfl⟩
    case round=>
     obtain ⟨j,rfl,rfl,hj,hk2,rfl⟩:=hrel;have Hk2:=Lib.hid hk2;clear hk2;have hpl:=pD l j;by_cases hjl:j<l.length
     ·have hjl':(j:Int)<l.length:=by omega
      obtain ⟨bi,oi,rfl,_,hci⟩:=HCI.out.ints (by omega);have hml:(j+1)%l.length<l.length:=Nat.mod_lt _ (by omega);obtain ⟨x,hx,_⟩:=HAT.out j hjl;obtain ⟨y,hy,_⟩:=HAT.out ((j+1)%l.length) hml;have cx:=hci j hjl;have cy:=hci ((j+1)%l.length) hml;rw [hx] at cx;rw [hy] at cy
      have hmod:Int.tmod ((j:Int)+1) (l.length:Int)=(((j+1)%l.length:Nat):Int):=by
       rw [Int.tmod_eq_emod_of_nonneg (by omega)];simp
      have hml':((((j+1)%l.length:Nat)):Int)<l.length:=by omega
      have HK:=Lib.hid (show plU l (j+1)=plU l j+if xL x y=0 then 1 else 0 by
       rw [lU];unfold kL;rw [List.getD_eq_getElem?_getD,List.getElem?_eq_getElem hjl,List.getD_eq_getElem?_getD,List.getElem?_eq_getElem hml]
       simp [hx,hy])
      have hkd:=br x y w2;have hlne:¬(l.length:Int)=0:=by omega
      generalize (j+1)%l.length=m at *;obtain ⟨kd,hkd2⟩:∃kd,kd=xL x y:=⟨_,rfl⟩;rw [←hkd2] at hkd HK;generalize plU l j=u at *;have hkb:kd≤2:=by rw [hkd2];unfold xL;split<;>(try split)<;>omega
      clear hci hx hy hkd2;go_wp2_with fail;refine hkd.mono ?_;rintro e w3 ⟨rfl,rfl⟩;clear hkd cx cy;by_cases hk0:kd=0
      ·subst hk0;go_wp2_with fail
       go_roundg (l.length-(j+1))
       case measure=>rw [Hk2.out];omega
       case rel=>exact ⟨j+1,by go_num,by rw [HK.out];go_num,by omega,rfl,rfl⟩
      ·have hk0':((kd:Int)==0)=false:=by rw [beq_eq_false_iff_ne];omega
       have HK3:=Lib.hid (show plU l (j+1)=u by rw [HK.out,if_neg hk0];rfl);clear hk0;go_wp2_with fail
       go_roundg (l.length-(j+1))
       case measure=>rw [Hk2.out];omega
       case rel=>exact ⟨j+1,by go_num,by rw [HK3.out],by omega,rfl,rfl⟩
     ·have hje:j=l.length:=by omega
      have hjl':¬(j:Int)<l.length:=by omega
      have HPE:=Lib.hid (show plU l j=plU l l.length by rw [hje]);generalize plU l j=u at *;clear hje;by_cases hu:u≤2
      ·have hu':¬(2:Int)<u:=by omega
       have HN2:=Lib.hid (HN.out (by rw [←HPE.out];exact hu));go_wp2_with fail
       go_roundg (rs.length-(i+1))
       case measure=>rw [Hk.out];omega
       case rel=>exact ⟨i+1,by go_num,by omega,rfl,rfl,HN2.out⟩
      ·have hu':(2:Int)<u:=by omega
       have HF2:=Lib.hid (HF.out (by rw [←HPE.out];exact hu));go_wp2_with fail;go_ret;exact ⟨jx (by rw [HF2.out,HA.out];rfl),S2.out.below⟩
   ·have hil':¬(i:Int)<rs.length:=by omega
    have HT:=Lib.hid (show xP rs=true by
     unfold xP;rw [List.all_eq_true];intro l hl;obtain ⟨j,hj,rfl⟩:=List.getElem_of_mem hl
     simpa using HD.out j hj (by omega))
    go_wp2_with fail;go_ret;exact ⟨jx (by rw [HT.out,HA.out];rfl),S2.out.below⟩
end Go.Proofs.YtneeknlhlkpnpaaGreat
