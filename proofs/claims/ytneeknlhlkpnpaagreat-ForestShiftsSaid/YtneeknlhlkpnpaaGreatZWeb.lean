import Derived.Test.YtneeknlhlkpnpaaGreatZChks
import Derived.Test.YtneeknlhlkpnpaaGreatZAsg
import Derived.Test.YtneeknlhlkpnpaaGreatZFrm
import Derived.Laws.IdiomCopy
import Derived.Lib.SliceRun
/-
 Which rotations the web is asked of: the program and the reference. Written by an AI agent.
-/
namespace Go.Proofs.YtneeknlhlkpnpaaGreat
open Go.RowKit
theorem Un(c a:Int)(v:Value)(w:World):(Instr.field 74 (.agg #[.int .i64 c,.int .i64 a,v]) 0).run Tryz.prog w = .ok (.int .i64 c) w:=by
 kernel_rfl
noncomputable def zn(n:Int)(es:List (Int×Int))(rs:List (List Int)):Bool:=uD n es&&(ym n es rs&&decide (gen n es rs=0))
set_option maxRecDepth 20000 in
set_option maxHeartbeats 2000000 in
theorem dS(n:Int)(A C:Option Addr)(cap ccap:Nat)(es:List (Int×Int))(rs:List (List Int))(w:World)(hes:jr w w.heap.size A (jD es))(hrs:qz w w.heap.size C rs)(hr1:rs.length≤1000)(hr2:∀l∈rs,l.length≤1000)(hcap:es.length≤cap) :
  Calls Tryz.prog 83 #[.agg #[.int .i64 n,.slice A es.length cap],.slice C rs.length ccap] w (fun e w'=>e = .returned (.bool (zn n es rs))∧Below w.heap.size w w'):=by
 have S1:=Lib.hid (SG.start n cap hes hrs);have HR2:=Lib.hid hr2;clear hes hrs hr2
 go_enter Tryz.func83,Tryz.ntmps83
 go_upto_region 1 with fail
 generalize w.alloc (.cells #[.int .i64 n,.slice A es.length cap] 24)=w1 at *;have g0:=S1.out.g0;have g1:=S1.out.g1;go_wp2_with fail;refine (Gz n A C cap ccap es rs w1 S1.out.es S1.out.rs hr1 HR2.out).mono ?_;rintro e w2 ⟨hb2,ht,hf⟩;have S2:=Lib.hid (S1.out.next hb2);clear hb2 g0 g1;have g0:=S2.out.g0;have g1:=S2.out.g1;have HF:=Lib.hid (show zn n es rs=(uD n es&&(ym n es rs&&decide (gen n es rs=0))) from rfl)
 cases hr:ym n es rs with
 | false=>
  have:=hf hr;subst this;have HF2:=Lib.hid (show zn n es rs=false by rw [HF.out,hr];simp);clear ht hf hr HF;go_wp2_with fail;refine (XC n A cap es w2 S2.out.es hcap).mono ?_;rintro e w3 ⟨c,a,v,rfl,hb3,_⟩;have S3:=Lib.hid (S2.out.next hb3);have hfd:=Un c a v w3;clear hb3;by_cases h0:c=0
  ·have h0':(c==0)=true:=by rw [h0];rfl
   clear h0;go_wp2_with fail;go_ret;exact ⟨jI HF2.out.symm,S3.out.below⟩
  ·have h0':(c==0)=false:=by rw [beq_eq_false_iff_ne];exact h0
   clear h0;go_wp2_with fail;go_ret;exact ⟨jI HF2.out.symm,S3.out.below⟩
 | true=>
  have:=ht hr;subst this;have HF2:=Lib.hid (show zn n es rs=(uD n es&&decide (gen n es rs=0)) by rw [HF.out,hr];simp);clear ht hf hr HF;generalize gen n es rs=G at *;go_wp2_with fail;refine (XC n A cap es w2 S2.out.es hcap).mono ?_;rintro e w3 ⟨c,a,v,rfl,hb3,hc⟩;have S3:=Lib.hid (S2.out.next hb3);have HC:=Lib.hid hc;have hfd:=Un c a v w3;clear hb3 hc;by_cases h0:c=0
  ·have h0':(c==0)=true:=by rw [h0];rfl
   have HG:=Lib.hid (show zn n es rs=((G:Int)==0) by
    rw [HF2.out,show uD n es=true from jt.2 (HC.out.1 h0),Bool.true_and,Bool.eq_iff_iff,decide_eq_true_eq,beq_iff_eq]
    omega)
   clear h0;go_wp2_with fail;go_ret;exact ⟨jI HG.out.symm,S3.out.below⟩
  ·have h0':(c==0)=false:=by rw [beq_eq_false_iff_ne];exact h0
   have HG:=Lib.hid (show zn n es rs=false by rw [HF2.out,show uD n es=false from kC.2 fun h=>h0 (HC.out.2 h)];rfl);clear h0;go_wp2_with fail;go_ret;exact ⟨jI HG.out.symm,S3.out.below⟩
set_option maxRecDepth 20000 in
set_option maxHeartbeats 2000000 in
theorem lH(n:Int)(A C:Option Addr)(cap ccap:Nat)(es:List (Int×Int))(rs:List (List Int))(w:World)(hes:jr w w.heap.size A (jD es))(hrs:qz w w.heap.size C rs)(hr1:rs.length≤1000)(hr2:∀l∈rs,l.length≤1000) :
  Calls Tryz.prog 10 #[.agg #[.int .i64 n,.slice A es.length cap],.slice C rs.length ccap] w (fun e w'=>e = .returned (.bool (zn n es rs))∧Below w.heap.size w w'):=by
 have S1:=Lib.hid (SG.start n cap hes hrs);have HR2:=Lib.hid hr2;clear hes hrs hr2
 go_enter Tryz.func10,Tryz.ntmps10
 go_upto_region 1 with fail
 generalize w.alloc (.cells #[.int .i64 n,.slice A es.length cap] 24)=w1 at *;have g0:=S1.out.g0;have g1:=S1.out.g1;have HF:=Lib.hid (show zn n es rs=(uD n es&&(ym n es rs&&decide (gen n es rs=0))) from rfl);go_wp2_with fail;refine (oj n A cap es w1 S1.out.es).mono ?_;rintro e w2 ⟨rfl,hb2⟩;have S2:=Lib.hid (S1.out.next hb2);clear hb2 g0 g1;have g0:=S2.out.g0;have g1:=S2.out.g1
 cases hg:uD n es with
 | false=>
  have HF2:=Lib.hid (show zn n es rs=false by rw [HF.out,hg];rfl);clear hg;go_wp2_with fail;go_ret;exact ⟨jI HF2.out.symm,S2.out.below⟩
 | true=>
  have hrt:=Hz n A C cap ccap es rs w2 S2.out.es S2.out.rs hr1 HR2.out
  cases hr:ym n es rs with
  | false=>
   have HF2:=Lib.hid (show zn n es rs=false by rw [HF.out,hr];simp);rw [hr] at hrt;clear hg hr;go_wp2_with fail;refine hrt.mono ?_;rintro e w3 ⟨rfl,hb3⟩;have S3:=Lib.hid (S2.out.next hb3);clear hb3 hrt;go_wp2_with fail;go_ret;exact ⟨jI HF2.out.symm,S3.out.below⟩
  | true=>
   have HP:=Lib.hid (zh.1 hr)
   have HF2:=Lib.hid (show zn n es rs=((gen n es rs:Int)==0) by
    rw [HF.out,hr,hg,Bool.true_and,Bool.true_and,Bool.eq_iff_iff,decide_eq_true_eq,beq_iff_eq]
    omega)
   rw [hr] at hrt;clear hg hr;go_wp2_with fail;refine hrt.mono ?_;rintro e w3 ⟨rfl,hb3⟩;have S3:=Lib.hid (S2.out.next hb3);clear hb3 hrt g0 g1;have g0:=S3.out.g0;have g1:=S3.out.g1;go_wp2_with fail;refine (aa n A C cap ccap es rs w3 S3.out.es S3.out.rs hr1 HR2.out HP.out).mono ?_;rintro e w4 ⟨rfl,hb4⟩;have S4:=Lib.hid (S3.out.next hb4);clear hb4;go_wp2_with fail;go_ret;exact ⟨jI HF2.out.symm,S4.out.below⟩
end Go.Proofs.YtneeknlhlkpnpaaGreat
/-
 A good graph hangs together: so what the web is asked of, the angles are (plain law). Written by an AI agent.
-/
namespace Go.Proofs.YtneeknlhlkpnpaaGreat
open Go.RowKit
theorem kp{N:Nat}{es:List (Int×Int)}(h:GoodP N es):∃s,s<N ∧ ∀x,x<N→Q es es.length s x:=by
 have hin:=ue h.may;have ho:=h.ord;rw [Int.toNat_natCast] at ho;obtain ⟨L,hL⟩:=vI hin ho;have hs:=h.src;rw [Int.toNat_natCast] at hs
 have key:∀k x,x<N→L x=k → ∃s,s∈yz N es Prod.snd∧Q es es.length s x:=by
  intro k
  induction k using Nat.strongRecOn with
  | _ k ih=>
   intro x hx hk;by_cases hb:x∈yz N es Prod.snd
   ·exact ⟨x,hb,Star.refl _⟩
   ·rw [zk] at hb;have:∃i,i<es.length∧(es.getD i (0,0)).2=(x:Int):=Classical.byContradiction fun hno=>hb ⟨hx,fun i hi e=>hno ⟨i,hi,e⟩⟩;obtain ⟨i,hi,he⟩:=this;have hm:=kK hi;have hbd:=hin _ hm;have hr:=hL _ hm;obtain ⟨t,ht⟩:=Int.eq_ofNat_of_zero_le hbd.1;rw [he,ht,Int.toNat_natCast,Int.toNat_natCast] at hr;obtain ⟨s,hs1,hs2⟩:=ih (L t) (by omega) t (by omega) rfl;refine ⟨s,hs1,Star.trans hs2 (Star.one ⟨i,hi,by simpa using hi,.inl ?_⟩)⟩;have:es[i]=es.getD i (0,0):=by rw [List.getD_eq_getElem?_getD,List.getElem?_eq_getElem hi];rfl
    rw [this];exact Prod.ext ht he
 have h0:0<N:=by have:=(qv h.may).1;omega
 obtain ⟨s,hs1,_⟩:=key _ 0 h0 rfl;refine ⟨s,(zk.1 hs1).1,fun x hx=>?_⟩;obtain ⟨s',hs2,hq⟩:=key _ x hx rfl
 have:s'=s:=by
  obtain ⟨i,hi,ei⟩:=List.getElem_of_mem hs1;obtain ⟨j,hj,ej⟩:=List.getElem_of_mem hs2;have e1:i=j:=by omega
  subst e1;rw [←ei,←ej]
 rw [←this];exact hq
theorem zN{n:Int}{es:List (Int×Int)}{rs:List (List Int)}(h:zn n es rs=true):xp n es rs=true:=by
 unfold zn at h;simp only [Bool.and_eq_true,decide_eq_true_eq] at h;obtain ⟨hg,hr,hz⟩:=h;have hG:GoodP n es:=jt.1 hg;have hP:=zh.1 hr;have hn:n=(rs.length:Int):=hP.len.symm;rw [hn] at hG;obtain ⟨s,hs,hq⟩:=kp hG;have h0:0<rs.length:=by omega
 unfold xp;simp only [Bool.and_eq_true,decide_eq_true_eq];have ho:=hG.ord;rw [Int.toNat_natCast] at ho;exact ⟨hr,hz,ho,YK h0 fun x hx=>Star.trans (Q.symm (hq 0 h0)) (hq x hx)⟩
theorem xM{n:Int}{es:List (Int×Int)}{rs:List (List Int)}(h:zn n es rs=true):GoodP n es:=by
 unfold zn at h;simp only [Bool.and_eq_true] at h;exact jt.1 h.1
end Go.Proofs.YtneeknlhlkpnpaaGreat
/-
 Leaders: finding with halved ways, and joining (plain law). Written by an AI agent.
-/
namespace Go.Proofs.YtneeknlhlkpnpaaGreat
open Go.RowKit
def ldr(l:List Int)(x:Nat):Nat:=(l.getD x 0).toNat
structure WebP(l:List Int):Prop where
 nn:∀x,x<l.length→0≤l.getD x 0
 le:∀x,x<l.length→ldr l x≤x
def VW(l:List Int):Nat→Nat→Nat
 | 0,x=>x
 | f+1,x=>if ldr l x=x then x else VW l f (ldr l x)
/-- the leader of x's part -/
def xF(l:List Int)(x:Nat):Nat:=VW l x x
section
variable {l:List Int}
theorem dC(h:WebP l){x:Nat}(hx:x<l.length):l.getD x 0=(ldr l x:Nat):=by
 unfold ldr;have:=h.nn x hx;omega
theorem vW{x:Nat}(h:ldr l x=x):∀f,VW l f x=x
 | 0=>rfl
 | f+1=>by unfold VW;rw [if_pos h]
theorem lF(h:WebP l):∀(f x:Nat),x<l.length→x≤f→VW l f x=xF l x
 | f,x,hx,hf=>by
  unfold xF
  induction x using Nat.strongRecOn generalizing f with
  | _ x ih=>
   cases f with
   | zero=>
    have:x=0:=by omega
    subst this;rfl
   | succ f=>
    by_cases hl:ldr l x=x
    ·rw [vW hl,vW hl]
    ·have h1:=h.le x hx;have h2:ldr l x<x:=by omega
     cases x with
     | zero=>omega
     | succ x=>
      show (if ldr l (x+1)=x+1 then x+1 else VW l f (ldr l (x+1)))=if ldr l (x+1)=x+1 then x+1 else VW l x (ldr l (x+1))
      rw [if_neg hl,if_neg hl,ih _ h2 f (by omega) (by omega),ih _ h2 x (by omega) (by omega)]
theorem JF(h:WebP l){x:Nat}(hx:x<l.length):xF l x=if ldr l x=x then x else xF l (ldr l x):=by
 have h1:=h.le x hx;by_cases hl:ldr l x=x
 ·rw [if_pos hl];exact vW hl x
 ·rw [if_neg hl]
  cases x with
  | zero=>omega
  | succ x=>
   show (if ldr l (x+1)=x+1 then x+1 else VW l x (ldr l (x+1)))=_
   rw [if_neg hl];exact lF h x _ (by omega) (by omega)
theorem JN(h:WebP l){x:Nat}(hx:x<l.length):xF l (ldr l x)=xF l x:=by
 rw [JF h hx];by_cases hl:ldr l x=x
 ·rw [if_pos hl,hl];exact vW hl x
 ·rw [if_neg hl]
theorem Xc(h:WebP l):∀x,x<l.length→xF l x≤x∧ldr l (xF l x)=xF l x:=fun x hx=>by
 induction x using Nat.strongRecOn with
 | _ x ih=>
  have h1:=h.le x hx;rw [JF h hx];by_cases hl:ldr l x=x
  ·rw [if_pos hl];exact ⟨Nat.le_refl _,hl⟩
  ·rw [if_neg hl];obtain ⟨a,b⟩:=ih (ldr l x) (by omega) (by omega);exact ⟨by omega,b⟩
theorem lC(h:WebP l){x:Nat}(hx:x<l.length):xF l (xF l x)=xF l x:=vW (Xc h x hx).2 _
theorem KH{x v y:Nat}(hx:x<l.length):ldr (l.set x (v:Int)) y=if y=x then v else ldr l y:=by
 unfold ldr;rw [xL _ _ _ _ hx]
 split<;>simp
theorem gM(h:WebP l){x v:Nat}(hx:x<l.length)(hv:v≤x):WebP (l.set x (v:Int)):=by
 refine ⟨fun y hy=>?_,fun y hy=>?_⟩
 ·rw [List.length_set] at hy;rw [xL _ _ _ _ hx]
  split
  ·omega
  ·exact h.nn y hy
 ·rw [List.length_set] at hy;rw [KH hx]
  split
  ·omega
  ·exact h.le y hy
/-- a way is halved: all keep their leader -/
theorem fg(h:WebP l){x:Nat}(hx:x<l.length):WebP (l.set x (ldr l (ldr l x):Nat)) ∧ ∀y,y<l.length→xF (l.set x (ldr l (ldr l x):Nat)) y=xF l y:=by
 have h1:=h.le x hx;have h2:=h.le (ldr l x) (by omega);have hw:=gM h hx (v:=ldr l (ldr l x)) (by omega);refine ⟨hw,fun y hy=>?_⟩
 induction y using Nat.strongRecOn with
 | _ y ih=>
  rw [JF hw (by rw [List.length_set];exact hy),KH hx];by_cases hyx:y=x
  ·subst hyx;rw [if_pos rfl];by_cases hf:ldr l (ldr l y)=y
   ·have:ldr l y=y:=by omega
    rw [if_pos hf];exact (vW this y).symm
   ·rw [if_neg hf,ih _ (by omega) (by omega),JN h (by omega),JN h hy]
  ·rw [if_neg hyx];have h3:=h.le y hy;by_cases hf:ldr l y=y
   ·rw [if_pos hf];exact (vW hf y).symm
   ·rw [if_neg hf,ih _ (by omega) (by omega),JN h hy]
/-- two parts are joined -/
theorem lD(h:WebP l){a b:Nat}(ha:a<l.length)(hab:b≤a)(hra:ldr l a=a)(hrb:ldr l b=b):WebP (l.set a (b:Int)) ∧ ∀y,y<l.length→xF (l.set a (b:Int)) y=if xF l y=a then b else xF l y:=by
 have hw:=gM h ha (v:=b) hab;refine ⟨hw,fun y hy=>?_⟩
 have hrbF:∀f,VW (l.set a (b:Int)) f b=b:=by
  refine vW ?_;rw [KH ha]
  split
  ·rfl
  ·exact hrb
 induction y using Nat.strongRecOn with
 | _ y ih=>
  rw [JF hw (by rw [List.length_set];exact hy),KH ha];by_cases hya:y=a
  ·subst hya;rw [if_pos rfl];have hro:xF l y=y:=vW hra y;rw [hro,if_pos rfl];by_cases hb:b=y
   ·rw [if_pos hb,hb]
   ·rw [if_neg hb];exact hrbF b
  ·rw [if_neg hya];have h3:=h.le y hy;by_cases hf:ldr l y=y
   ·have hro:xF l y=y:=vW hf y;rw [if_pos hf,hro,if_neg hya]
   ·rw [if_neg hf,ih _ (by omega) (by omega),JN h hy]
end
end Go.Proofs.YtneeknlhlkpnpaaGreat
/-
 (*web).find, join: what they compute. Written by an AI agent.
-/
namespace Go.Proofs.YtneeknlhlkpnpaaGreat
open Go.RowKit
/-- the web lies at gw; R is who leads whom -/
structure WebAt(w:World)(gw g len cap F:Nat)(R:Array Value)(ro:Nat→Nat)(l:List Int):Prop where
 b:Blk w gw 132 #[.slice (some ⟨g,0,none⟩) len cap,.int .i64 F]
 c:Blk w g 3 ((jf l).toArray++R)
 ll:l.length=len
 web:WebP l
 root:∀y,y<len→xF l y=ro y
 ne:gw≠g
def xA(w:World)(gw g len cap F:Nat)(R:Array Value)(ro:Nat→Nat):Prop:=∃l,WebAt w gw g len cap F R ro l
set_option maxRecDepth 20000 in
set_option maxHeartbeats 4000000 in
theorem uL(gw g len cap F x:Nat)(R:Array Value)(ro:Nat→Nat)(w:World)(h:xA w gw g len cap F R ro)(hx:x<len)(_hlen:len≤1000) :
  Calls Tryz.prog 87 #[.pointer (some ⟨gw,0,none⟩),.int .i64 x] w (fun e w'=>e = .returned (.int .i64 (ro x:Nat))∧But [g] w w'∧xA w' gw g len cap F R ro):=by
 have H:=Lib.hid h;clear h
 go_enter Tryz.func87,Tryz.ntmps87
 go_wp2_with fail
 go_loopg [1] x (fun q s1 wr=>∃(y:Nat),s1 = .int .i64 y∧y<len∧q=y∧ro y=ro x∧But [g] w wr∧xA wr gw g len cap F R ro)
 case atStart=>exact ⟨x,rfl,hx,rfl,rfl,But.refl _ _,H.out⟩
 case round=>
  obtain ⟨y,rfl,hy,hq,hro,hb,l,hw⟩:=hrel;have Hq:=Lib.hid hq;have HRO:=Lib.hid hro;have HB:=Lib.hid hb;have HW:=Lib.hid hw;clear hq hro hb hw;have c0:=HW.out.b.cell 0;simp only [List.getElem?_toArray,List.getElem?_cons_zero] at c0;have hyl:y<l.length:=by rw [HW.out.ll];exact hy
  have hy':(y:Int)<len:=by omega
  have cy:=HW.out.c.intR (k:=y) hyl;rw [dC HW.out.web hyl] at cy;have hle:=HW.out.web.le y hyl;have HRS:=Lib.hid (JF HW.out.web hyl);have HHA:=Lib.hid (fg HW.out.web hyl);have HFIX:=Lib.hid (show ldr l y=y→ro y=y from fun e=>by rw [←HW.out.root y hy];exact vW e y)
  have HNX:=Lib.hid (show ro (ldr l (ldr l y))=ro y by
   have h2:=HW.out.web.le (ldr l y) (by omega)
   rw [←HW.out.root _ (by omega),JN HW.out.web (by omega),JN HW.out.web hyl,HW.out.root y hy])
  have h2:=HW.out.web.le (ldr l y) (by omega);have hdl:ldr l y<l.length:=by omega
  have c2:=HW.out.c.intR (k:=ldr l y) hdl;rw [dC HW.out.web hdl] at c2;obtain ⟨d,hd⟩:∃d,d=ldr l y:=⟨_,rfl⟩;rw [←hd] at cy hle HRS HFIX HNX h2 c2 HHA;by_cases hdy:d=y
  ·have HF:=Lib.hid (HFIX.out hdy);have hdy':((d:Int) != (y:Int))=false:=by rw [hdy];simp
   have HR2:=Lib.hid (HRO.out);clear hdy hd c2;go_wp2_with fail;go_ret;refine ⟨?_,HB.out,l,HW.out⟩;rw [←HR2.out,HF.out];rfl
  ·have hdy':((d:Int) != (y:Int))=true:=by rw [bne_iff_ne];omega
   obtain ⟨d2,hd2⟩:∃d2,d2=ldr l d:=⟨_,rfl⟩;rw [←hd2] at HNX h2 c2 HHA;have hd':(d:Int)<len:=by omega
   have fy:=HW.out.c.frozen y
   have HS:=Lib.hid (show WebAt (wr.setCell ⟨g,y,none⟩ (.int .i64 (d2:Nat))) gw g len cap F R ro (l.set y (d2:Nat)) from
    ⟨HW.out.b.far HW.out.ne _,HW.out.c.setIntR y _ hyl,by rw [List.length_set];exact HW.out.ll,HHA.out.1,fun z hz=>by rw [HHA.out.2 z (by rw [HW.out.ll];exact hz)];exact HW.out.root z hz,HW.out.ne⟩)
   have HBS:=Lib.hid (HB.out.trans (But.set_ wr (show g∈[g] by simp) y (.int .i64 (d2:Nat))));have hd2y:d2<len:=by omega
   have hlt:d2<y:=by omega
   clear hd hd2 hdy;go_wp2_with fail
   go_region
   have HS5:=Lib.hid (show WebAt (wr.setCell ⟨g,y,none⟩ (.int .i64 (d2:Nat))).drew gw g len cap F R ro (l.set y (d2:Nat)) from ⟨HS.out.b.drew,HS.out.c.drew,HS.out.ll,HS.out.web,HS.out.root,HS.out.ne⟩);have HB5:=Lib.hid (HBS.out.drewN 1);have HB5':=Lib.hid (show But [g] w (wr.setCell ⟨g,y,none⟩ (.int .i64 (d2:Nat))).drew from HB5.out);generalize (wr.setCell ⟨g,y,none⟩ (.int .i64 (d2:Nat))).drew=w5 at *;have c0':=HS5.out.b.cell 0;simp only [List.getElem?_toArray,List.getElem?_cons_zero] at c0';have cy':=HS5.out.c.intR (k:=y) (by rw [List.length_set];exact hyl);rw [xL _ _ _ _ hyl,if_pos rfl] at cy';clear c0 cy c2 fy HS HBS HB5;go_wp2_with fail
   go_roundg d2
   case measure=>rw [Hq.out];omega
   case rel=>exact ⟨d2,rfl,hd2y,rfl,HNX.out.trans HRO.out,HB5'.out,_,HS5.out⟩
theorem xA.keep{w w':World}{gw g len cap F:Nat}{R:Array Value}{ro:Nat→Nat}(h:xA w gw g len cap F R ro){B:Nat}(hb:Below B w w')(hB:w.heap.size≤B):xA w' gw g len cap F R ro:=by
 obtain ⟨l,h⟩:=h;exact ⟨l,h.b.below hb (Nat.lt_of_lt_of_le h.b.lt hB),h.c.below hb (Nat.lt_of_lt_of_le h.c.lt hB),h.ll,h.web,h.root,h.ne⟩
theorem xA.lead{w:World}{gw g len cap F:Nat}{R:Array Value}{ro:Nat→Nat}(h:xA w gw g len cap F R ro){x:Nat}(hx:x<len):ro x≤x∧ro (ro x)=ro x:=by
 obtain ⟨l,h⟩:=h;have h1:=Xc h.web x (by rw [h.ll];exact hx);have h2:=lC h.web (x:=x) (by rw [h.ll];exact hx);rw [h.root x hx] at h1 h2;rw [h.root _ (by omega)] at h2;exact ⟨h1.1,h2⟩
/-- a's part and b's part are one now -/
def yU(ro:Nat→Nat)(a b:Nat)(y:Nat):Nat:=if ro y=max (ro a) (ro b) then min (ro a) (ro b) else ro y
set_option maxRecDepth 20000 in
set_option maxHeartbeats 4000000 in
theorem nY(gw g len cap F a b:Nat)(R:Array Value)(ro:Nat→Nat)(w:World)(h:xA w gw g len cap F R ro)(ha:a<len)(hb:b<len)(hlen:len≤1000) :
  Calls Tryz.prog 86 #[.pointer (some ⟨gw,0,none⟩),.int .i64 a,.int .i64 b] w (fun e w'=>e = .returned (.tuple #[])∧But [g] w w'∧xA w' gw g len cap F R (yU ro a b)):=by
 have H:=Lib.hid h;have hla:=(h.lead ha).1;have hlb:=(h.lead hb).1;have hra:=(h.lead ha).2;have hrb:=(h.lead hb).2;clear h
 go_enter Tryz.func86,Tryz.ntmps86
 go_wp2_with fail;refine (uL gw g len cap F a R ro w H.out ha hlen).mono ?_;rintro e w1 ⟨rfl,hb1,h1⟩;have H1:=Lib.hid h1;have HB1:=Lib.hid hb1;clear hb1 h1;go_wp2_with fail;refine (uL gw g len cap F b R ro w1 H1.out hb hlen).mono ?_;rintro e w2 ⟨rfl,hb2,h2⟩;obtain ⟨l,hw⟩:=h2;have HW:=Lib.hid hw;have HB2:=Lib.hid (HB1.out.trans hb2);have HJ:=Lib.hid (show ∀y,yU ro a b y=if ro y=max (ro a) (ro b) then min (ro a) (ro b) else ro y from fun _=>rfl);clear hb2 hw;obtain ⟨p,hp⟩:∃p,p=ro a:=⟨_,rfl⟩;obtain ⟨q,hq⟩:∃q,q=ro b:=⟨_,rfl⟩;rw [←hp] at HJ hla hra;rw [←hq] at HJ hlb hrb;rw [←hp,←hq];have c0:=HW.out.b.cell 0;simp only [List.getElem?_toArray,List.getElem?_cons_zero] at c0
 have fin:∀m n:Nat,m=max p q→n=min p q→m<len→But [g] w (w2.setCell ⟨g,m,none⟩ (.int .i64 (n:Nat)))∧xA (w2.setCell ⟨g,m,none⟩ (.int .i64 (n:Nat))) gw g len cap F R (yU ro a b):=fun m n hm hn hml=>by
  have hmL:m<l.length:=by rw [HW.out.ll];exact hml
  have hrr:∀z,(z=p∨z=q)→ldr l z=z:=fun z hz=>by
   have e:xF l z=z:=by
    rcases hz with e | e
    ·rw [e,HW.out.root p (by omega),hra]
    ·rw [e,HW.out.root q (by omega),hrb]
   have:=(Xc HW.out.web z (by rw [HW.out.ll];rcases hz with e | e<;>omega)).2;rw [e] at this;exact this
  obtain ⟨k1,k2⟩:=lD HW.out.web hmL (b:=n) (by omega) (hrr m (by omega)) (hrr n (by omega));refine ⟨HB2.out.trans (But.set_ w2 (show g∈[g] by simp) m _),l.set m (n:Nat),HW.out.b.far HW.out.ne _,HW.out.c.setIntR m _ hmL,by rw [List.length_set];exact HW.out.ll,k1,fun y hy=>?_,HW.out.ne⟩;rw [k2 y (by rw [HW.out.ll];exact hy),HW.out.root y hy,HJ.out,hm,hn]
 have HFIN:=Lib.hid fin;clear fin hp hq;have hpl:p<len:=by omega
 have hql:q<len:=by omega
 have hpl':(p:Int)<len:=by omega
 have hql':(q:Int)<len:=by omega
 have cp:=HW.out.c.intR (k:=p) (by rw [HW.out.ll];exact hpl);have cq:=HW.out.c.intR (k:=q) (by rw [HW.out.ll];exact hql);have fp:=HW.out.c.frozen p;have fq:=HW.out.c.frozen q;generalize l.getD p 0=vp at *;generalize l.getD q 0=vq at *;by_cases hpq:p<q
 ·have hpq':(p:Int)<q:=by omega
  have hpq2:¬(q:Int)<p:=by omega
  have HX:=Lib.hid (HFIN.out q p (by omega) (by omega) hql);clear hpq;go_wp2_with fail;refine bodyPost_end (results_none rfl _ _ _) rfl ?_;exact ⟨rfl,HX.out.1,HX.out.2⟩
 ·have hpq':¬(p:Int)<q:=by omega
  have HX:=Lib.hid (HFIN.out p q (by omega) (by omega) hpl);by_cases hqp:q<p
  ·have hqp':(q:Int)<p:=by omega
   clear hpq hqp;go_wp2_with fail;refine bodyPost_end (results_none rfl _ _ _) rfl ?_;exact ⟨rfl,HX.out.1,HX.out.2⟩
  ·have he:p=q:=by omega
   subst he;clear hpq hqp;go_wp2_with fail;refine bodyPost_end (results_none rfl _ _ _) rfl ?_;exact ⟨rfl,HX.out.1,HX.out.2⟩
end Go.Proofs.YtneeknlhlkpnpaaGreat
/-
 angle.Angles: the block in which they lie. (Printed by angs3.py.) Written by an AI agent.
-/
namespace Go.Proofs.YtneeknlhlkpnpaaGreat
open Go.RowKit
def oZ(a:Bool)(Q:List (Nat×Nat×Nat×Nat))(w:World)(e:Ending)(w':World):Prop:=∃A c,e = .returned (.slice A Q.length c)∧Below w.heap.size w w'∧(a=true → ∃g,A=some ⟨g,0,none⟩∧w.heap.size≤g∧Blk w' g 47 (jV Q).toArray∧Q.length≤c)
set_option maxRecDepth 20000 in
set_option maxHeartbeats 4000000 in
theorem GR(n:Int)(A C:Option Addr)(cap ccap:Nat)(es:List (Int×Int))(rs:List (List Int))(w:World)(hes:jr w w.heap.size A (jD es))(hrs:qz w w.heap.size C rs)(hr1:rs.length≤1000)(hr2:∀l∈rs,l.length≤1000) :
  Calls Tryz.prog 16 #[.agg #[.int .i64 n,.slice A es.length cap],.slice C rs.length ccap] w (oZ (xp n es rs) (yl n es rs) w):=by
 have S1:=Lib.hid (SG.start n cap hes hrs);have HR2:=Lib.hid hr2;clear hes hrs hr2
 go_enter Tryz.func16,Tryz.ntmps16
 go_upto_region 1 with fail
 generalize w.alloc (.cells #[.int .i64 n,.slice A es.length cap] 24)=w1 at *;have g0:=S1.out.g0;have g1:=S1.out.g1;go_wp2_with fail;refine (eB n A C cap ccap es rs w1 S1.out.es S1.out.rs hr1 HR2.out).mono ?_;rintro e w2 ⟨rfl,hb2⟩;have S2:=Lib.hid (S1.out.next hb2);have g0:=S2.out.g0;have g1:=S2.out.g1;clear hb2 S1
 cases ha:xp n es rs with
 | false=>
  have HA:=Lib.hid ha;clear ha;go_wp2_with fail;go_ret;unfold yl;rw [HA.out];exact ⟨none,0,rfl,S2.out.below,fun h=>by cases h⟩
 | true=>
  have HP:=Lib.hid (yF ha);have HA:=Lib.hid ha;obtain ⟨hn0,hn1,hn2⟩:=qv HP.out.may;clear ha
  have hmk:∀W,(Instr.makeSlice 25 (.int .i64 (2*(es.length:Int))) (.int .i64 (2*(es.length:Int)))).run Tryz.prog W = .ok (.slice (some ⟨W.heap.size,0,none⟩) (2*es.length) (2*es.length)) (W.alloc (.cells (List.replicate (2*es.length) (Value.int .i64 0)).toArray 3)):=fun W=>by
   have:=zE qY rfl (2*es.length) (by omega) (by omega) W;rw [show ((2*es.length:Nat):Int)=2*(es.length:Int) by omega] at this;exact this
  have hmk4:∀W,(Instr.makeSlice 44 (.int .i64 (2*(es.length:Int))) (.int .i64 (2*(es.length:Int)))).run Tryz.prog W = .ok (.slice (some ⟨W.heap.size,0,none⟩) (2*es.length) (2*es.length)) (W.alloc (.cells (jV (List.replicate (2*es.length) (0,0,0,0))).toArray 47)):=fun W=>by
   have:=WS Tryz.underlying44 eh (2*es.length) (by omega) W;rw [show ((2*es.length:Nat):Int)=2*(es.length:Int) by omega] at this;exact this
  have HMK4:=Lib.hid hmk4;clear hmk4;have bF:=Blk.new w2 3 (Array.replicate (2*es.length) (Value.int .i64 0));have hbF:=(Below.refl w2.heap.size w2).alloc (Nat.le_refl _) (.cells (Array.replicate (2*es.length) (Value.int .i64 0)) 3);have hzF:=World.size_alloc w2 (.cells (Array.replicate (2*es.length) (Value.int .i64 0)) 3)
  go_upto_region 4 with fail
  generalize w2.alloc (.cells (Array.replicate (2*es.length) (Value.int .i64 0)) 3)=w3 at *;have S3:=Lib.hid (S2.out.next hbF);have HBF:=Lib.hid (show Blk w3 w2.heap.size 3 (jf (List.replicate (2*es.length) 0)).toArray by simpa [jf] using bF);have HB23:=Lib.hid hbF;have g0:=S3.out.g0;have g1:=S3.out.g1;clear bF hbF hmk;go_wp2_with fail;refine (Zq n A C cap ccap es rs w3 S3.out.es S3.out.rs hr1 HR2.out).mono ?_;rintro e w4 ⟨A4,c4,rfl,hb4,hhi⟩;obtain ⟨gF,hgF⟩:∃gF,gF=w2.heap.size:=⟨_,rfl⟩;have hb24:Below gF w2 w4:=by rw [hgF];exact HB23.out.trans (hb4.mono (by omega))
  have HB24:=Lib.hid hb24;have HI4:=Lib.hid hhi;have HBF4:=Lib.hid (show Blk w4 gF 3 (jf (List.replicate (2*es.length) 0)).toArray by rw [hgF];exact HBF.out.below hb4 (by omega));have hz4:=hb4.size;have HFN:=Lib.hid (fun f z (h:z∈(jo n es rs).getD f [])=>dU HP.out h);have hFl:=kM HP.out;have HFLEN:=Lib.hid (fun i (hi:i<(jo n es rs).length)=>dV HP.out hi);have HAF:=Lib.hid (show ∀h,jT n es rs h=xT (jo n es rs) (jo n es rs).length ((ot h:Nat):Int) from fun _=>rfl);obtain ⟨F,hF⟩:∃F,F=jo n es rs:=⟨_,rfl⟩;rw [←hF] at HI4 HFN hFl HAF HFLEN;rw [←hF,←hgF];have HGE:=Lib.hid hgF;have hgF3:gF<w3.heap.size:=by omega
  clear hb24 hhi hb4 hF g0 g1 S3 hgF;go_wp2_with fail
  go_loopg [28] F.length (fun k s28 wr=>∃(i:Nat) (fs:List Int),s28 = .int .i64 i∧i≤F.length∧k=F.length-i∧w4.grownBy wr (some gF)∧Blk wr gF 3 (jf fs).toArray∧fs.length=2*es.length ∧ ∀h,h<2*es.length→fs.getD h 0=(xT F i h:Nat))
  case atStart=>exact ⟨0,_,rfl,Nat.zero_le _,rfl,World.grownBy.refl _ _,HBF4.out,by simp,fun h hh=>by simp [hh,xT]⟩
  case round=>
   obtain ⟨i,fs,rfl,hi,hk,hg,hbl,hfl,hfs⟩:=hrel;have Hk:=Lib.hid hk;have HG:=Lib.hid hg;have HBL:=Lib.hid hbl;have HFL:=Lib.hid hfl;have HFS:=Lib.hid hfs;have hzr:=hg.size;clear hk hg hbl hfl hfs;by_cases hil:i<F.length
   ·have hil':(i:Int)<F.length:=by omega
    obtain ⟨b,off,rfl,hb1,hb2,hcc⟩:=HI4.out (by omega);obtain ⟨Ai,ci,zi,hci⟩:=hcc i hil;have zi:wr.cell? ⟨b,off+i,none⟩=some (.slice Ai F[i].length ci):=(World.cell?_of_block (a:=⟨b,off+i,none⟩) (HG.out.block b hb2 (fun e=>by injection e with e;omega))).trans zi;have HCI:=Lib.hid hci;have HFNI:=Lib.hid (fun t (ht:t<F[i].length)=>HFN.out i F[i][t] (by rw [List.getD_eq_getElem?_getD,List.getElem?_eq_getElem hil];exact List.getElem_mem ht));have HGD:=Lib.hid (show F.getD i []=F[i] by rw [List.getD_eq_getElem?_getD,List.getElem?_eq_getElem hil];rfl)
    have hll:F[i].length≤1000:=by
     have hnd:F[i].length≤2*es.length:=HFLEN.out i hil;omega
    generalize F[i]=l at *;clear hcc hci;go_wp2_with fail;clear zi
    go_loopg [35] l.length (fun k s35 wr=>∃(j:Nat) (fs:List Int),s35 = .int .i64 j∧j≤l.length∧k=l.length-j∧w4.grownBy wr (some gF)∧Blk wr gF 3 (jf fs).toArray∧fs.length=2*es.length ∧ ∀h:Nat,h<2*es.length→fs.getD h 0=((if (h:Int)∈l.take j then i else xT F i h:Nat):Int))
    case atStart=>exact ⟨0,fs,rfl,Nat.zero_le _,rfl,HG.out,HBL.out,HFL.out,fun h hh=>by simpa using HFS.out h hh⟩
    case round=>
     obtain ⟨j,fs,rfl,hj,hk2,hg,hbl,hfl,hfs⟩:=hrel;have Hk2:=Lib.hid hk2;have HG:=Lib.hid hg;have HBL:=Lib.hid hbl;have HFL:=Lib.hid hfl;have HFS:=Lib.hid hfs;clear hk2 hg hbl hfl hfs;by_cases hjl:j<l.length
     ·have hjl':(j:Int)<l.length:=by omega
      obtain ⟨bi,oi,rfl,hbi1,hbi2,hcv⟩:=HCI.out (by omega);obtain ⟨h,hh1,hh2⟩:=HFNI.out j hjl;have cx:=(World.cell?_of_block (a:=⟨bi,oi+j,none⟩) (HG.out.block bi hbi2 (fun e=>by injection e with e;omega))).trans (hcv j hjl);rw [hh1] at cx;have hhl:h<fs.length:=by rw [HFL.out];exact hh2
      have zc:wr.cell? ⟨gF,h,none⟩=some (.int .i64 (fs.getD h 0)):=by
       rw [HBL.out.cell h];simp [jf,hhl]
      have fz:=HBL.out.frozen h;have hh':(h:Int)<2*es.length:=by omega
      have HBL2:=Lib.hid (show Blk (wr.setCell ⟨gF,h,none⟩ (.int .i64 i)) gF 3 (jf (fs.set h i)).toArray by
       have:=HBL.out.set_ h (.int .i64 i)
       simpa [jf,List.map_set] using this)
      have HG2:=Lib.hid (zw HG.out (p:=⟨gF,h,none⟩) (.inl rfl) (.int .i64 i))
      have HFS2:=Lib.hid (show ∀h':Nat,h'<2*es.length→(fs.set h (i:Int)).getD h' 0=((if (h':Int)∈l.take (j+1) then i else xT F i h':Nat):Int) from fun h' hh'=>by
       rw [xL _ _ _ _ hhl,List.take_succ_eq_append_getElem hjl,hh1];by_cases e:h'=h
       ·subst e;rw [if_pos rfl,if_pos (by simp)]
       ·rw [if_neg e,HFS.out h' hh']
        have:((h':Int)∈l.take j++[(h:Int)])↔((h':Int)∈l.take j):=by
         simp only [List.mem_append,List.mem_singleton];exact ⟨fun e2=>e2.elim id (fun e2=>absurd (by omega) e),.inl⟩
        simp only [this])
      have hlf:(fs.set h (i:Int)).length=2*es.length:=by simp [HFL.out]
      have HLF:=Lib.hid hlf;generalize fs.getD h 0=old at *;clear hcv hh1 hlf;go_wp2_with fail;clear cx zc fz
      go_roundg (l.length-(j+1))
      case measure=>rw [Hk2.out];omega
      case rel=>exact ⟨j+1,fs.set h i,by go_num,by omega,rfl,HG2.out,HBL2.out,HLF.out,HFS2.out⟩
     ·have hje:j=l.length:=by omega
      have hjl':¬(j:Int)<l.length:=by omega
      have HFS2:=Lib.hid (show ∀h:Nat,h<2*es.length→fs.getD h 0=(xT F (i+1) h:Nat) from fun h hh=>by
       rw [HFS.out h hh,hje,List.take_length,show xT F (i+1) (h:Int)=if (F.getD i []).contains (h:Int) then i else xT F i h from rfl,HGD.out]
       by_cases hm:(h:Int)∈l<;>simp [hm])
      clear hje;go_wp2_with fail
      go_roundg (F.length-(i+1))
      case measure=>rw [Hk.out];omega
      case rel=>exact ⟨i+1,fs,by go_num,by omega,rfl,HG.out,HBL.out,HFL.out,HFS2.out⟩
   ·have hie:i=F.length:=by omega
    have hil':¬(i:Int)<F.length:=by omega
    obtain ⟨w5,rfl⟩:∃y,y=wr:=⟨_,rfl⟩
    have HFF:=Lib.hid (show ∀h,h<2*es.length→fs.getD (ot h) 0=(jT n es rs h:Nat) from fun h hh=>by
     rw [HFS.out (ot h) (vA hh),HAF.out,hie])
    have S5:=Lib.hid (S2.out.next (show Below w2.heap.size w2 w5 by
     have h1:=HB24.out.grown HG.out (show gF≤w4.heap.size by omega) (fun k hk=>by injection hk with hk;omega);rw [←HGE.out]
     exact h1))
    have g0:=S5.out.g0;have g1:=S5.out.g1;have hmk4:=HMK4.out;have bO:=Blk.new w5 47 (jV (List.replicate (2*es.length) (0,0,0,0))).toArray;have hbO:=(Below.refl w5.heap.size w5).alloc (Nat.le_refl _) (.cells (jV (List.replicate (2*es.length) (0,0,0,0))).toArray 47);have hzO:=World.size_alloc w5 (.cells (jV (List.replicate (2*es.length) (0,0,0,0))).toArray 47);clear hie
    go_upto_region 14 with fail
    generalize w5.alloc (.cells (jV (List.replicate (2*es.length) (0,0,0,0))).toArray 47)=w6 at *;have HGF5:=Lib.hid HBL.out.lt;obtain ⟨gO,hgO⟩:∃gO,gO=w5.heap.size:=⟨_,rfl⟩;have HBO:=Lib.hid (show Blk w6 gO 47 (jV (List.replicate (2*es.length) (0,0,0,0))).toArray by rw [hgO];exact bO);have HB56:=Lib.hid (show Below gO w5 w6 by rw [hgO];exact hbO);have HGO:=Lib.hid hgO;rw [←hgO];clear bO hbO hmk4 g0 g1 hgO;go_wp2_with fail
    go_loopg [52] rs.length (fun k s52 wr=>∃(x:Nat) (Q:List (Nat×Nat×Nat×Nat)),s52 = .int .i64 x∧x≤rs.length∧k=rs.length-x∧Below gO w5 wr∧Blk wr gO 47 (jV Q).toArray∧Q.length=2*es.length ∧ ∀h,h<2*es.length→vtx es h<x→Q.getD h (0,0,0,0)=QL n es rs h)
    case atStart=>exact ⟨0,_,rfl,Nat.zero_le _,rfl,HB56.out,HBO.out,by simp,fun h _ hx=>absurd hx (Nat.not_lt_zero _)⟩
    case round=>
     obtain ⟨x,Q,rfl,hx,hk,hb,hbo,hql,hqd⟩:=hrel;have Hk:=Lib.hid hk;have HB:=Lib.hid hb;have HBO:=Lib.hid hbo;have HQL:=Lib.hid hql;have HQD:=Lib.hid hqd;have hzr:=hb.size;clear hk hb hbo hql hqd;by_cases hxl:x<rs.length
     ·have hxl':(x:Int)<rs.length:=by omega
      obtain ⟨b,off,rfl,hbb,hcc⟩:=S5.out.rs (by omega);obtain ⟨Ai,ci,zi,hCi⟩:=hcc x hxl;have zi:wr.cell? ⟨b,off+x,none⟩=some (.slice Ai rs[x].length ci):=(HB.out.cell (p:=⟨b,off+x,none⟩) (by rw [HGO.out];exact hbb)).trans zi;have HCI:=Lib.hid hCi;have HNT:=Lib.hid (fun t (ht:t<rs[x].length)=>HP.out.nat hxl ht)
      have HSG:=Lib.hid (fun t (ht:t<rs[x].length) (d:Nat) (hd:rs[x][t]=(d:Int))=>(by
       rw [UX HP.out hxl ht hd,List.getD_eq_getElem?_getD,List.getElem?_eq_getElem (Nat.mod_lt _ (by omega))]
       rfl:sig es rs d=(rs[x].getD ((t+1)%rs[x].length) 0).toNat))
      have HCOV:=Lib.hid (fun h (hh:h<2*es.length) (hv:vtx es h=x)=>(by
       obtain ⟨x',t,hx',ht,e,hv'⟩:=HP.out.pos hh;have:x'=x:=by omega
       subst this
       exact ⟨t,ht,e⟩:∃t,∃ht:t<rs[x].length,rs[x][t]=(h:Int)))
      have hll:rs[x].length≤1000:=HR2.out _ (List.getElem_mem hxl);generalize rs[x]=l at *;clear hcc hCi;go_wp2_with fail;clear zi
      go_loopg [59] l.length (fun k s59 wr=>∃(i:Nat) (Q:List (Nat×Nat×Nat×Nat)),s59 = .int .i64 i∧i≤l.length∧k=l.length-i∧Below gO w5 wr∧Blk wr gO 47 (jV Q).toArray∧Q.length=2*es.length ∧ ∀h,h<2*es.length→(vtx es h<x ∨ ∃t,∃ht:t<l.length,t<i∧l[t]=(h:Int))→Q.getD h (0,0,0,0)=QL n es rs h)
      case atStart=>exact ⟨0,Q,rfl,Nat.zero_le _,rfl,HB.out,HBO.out,HQL.out,fun h hh hd=>HQD.out h hh (hd.resolve_right (fun ⟨t,_,ht,_⟩=>absurd ht (Nat.not_lt_zero _)))⟩
      case round=>
       obtain ⟨i,Q,rfl,hi,hk2,hb,hbo,hql,hqd⟩:=hrel;have Hk2:=Lib.hid hk2;have HB:=Lib.hid hb;have HBO:=Lib.hid hbo;have HQL:=Lib.hid hql;have HQD:=Lib.hid hqd;have hzr2:=hb.size;clear hk2 hb hbo hql hqd;by_cases hil:i<l.length
       ·have hil':(i:Int)<l.length:=by omega
        obtain ⟨bi,oi,rfl,hbi,hcv⟩:=HCI.out.ints (by omega);have hml:(i+1)%l.length<l.length:=Nat.mod_lt _ (by omega);obtain ⟨h,hh1,hh2,hh3⟩:=HNT.out i hil;obtain ⟨y,hy1,_,_⟩:=HNT.out ((i+1)%l.length) hml;have hsg:=HSG.out i hil h hh1;rw [List.getD_eq_getElem?_getD,List.getElem?_eq_getElem hml,Option.getD_some,hy1,Int.toNat_natCast] at hsg;have cx:=(HB.out.cell (p:=⟨bi,oi+i,none⟩) (by rw [HGO.out];exact hbi)).trans (hcv i hil);have cy:=(HB.out.cell (p:=⟨bi,oi+(i+1)%l.length,none⟩) (by rw [HGO.out];exact hbi)).trans (hcv _ hml);rw [hh1] at cx;rw [hy1] at cy
        have HMD:=Lib.hid (show Int.tmod ((i:Int)+1) (l.length:Int)=(((i+1)%l.length:Nat):Int) by
         rw [Int.tmod_eq_emod_of_nonneg (by omega)];simp)
        have HML:=Lib.hid (show ((((i+1)%l.length:Nat)):Int)<l.length by omega);have HL0:=Lib.hid (show ¬(l.length:Int)=0 by omega);generalize (i+1)%l.length=m at *;have HFV:=Lib.hid (HFF.out h hh2)
        have HCF:=Lib.hid (show wr.cell? ⟨gF,ot h,none⟩=some (.int .i64 (jT n es rs h:Nat)) by
         rw [HB.out.cell (p:=⟨gF,ot h,none⟩) (by rw [HGO.out];exact HGF5.out),HBL.out.cell (ot h),←HFV.out];have:ot h<fs.length:=by rw [HFL.out];exact vA hh2
         simp [jf,this])
        have HCY:=Lib.hid cy;have HGF:=Lib.hid (show gF<wr.heap.size by have:=HGF5.out;omega);have HBI:=Lib.hid (show bi<wr.heap.size by omega);have HOM:=Lib.hid (show ((ot h:Nat):Int)<2*(es.length:Int) by have:=vA hh2;omega);have HHM:=Lib.hid (show (h:Int)<2*(es.length:Int) by omega);have HHQ:=Lib.hid (show h<Q.length by rw [HQL.out];exact hh2);have HKD:=Lib.hid (fun wv=>dE h y wv);have HAQ:=Lib.hid (show QL n es rs h=(h,x,jT n es rs h,Qq h y) by unfold QL zt;rw [hsg,hh3]);have HHT:=Lib.hid hh1;have hh256:h<256:=by omega
        obtain ⟨fv,hfv⟩:∃fv,fv=jT n es rs h:=⟨_,rfl⟩;obtain ⟨kd,hkd⟩:∃kd,kd=Qq h y:=⟨_,rfl⟩;rw [←hfv] at HCF HAQ;rw [←hkd] at HKD HAQ;clear hcv hh1 hy1 hsg cy hfv hkd
        go_upto_region 20 with fail
        clear cx
        refine R3.wp_region_i gO [[],[47]] [0,0,0,0,0,0,0,0,0,0,0,0,0,0,0,0,0,0,0,0,0,1]
         [([],.val (.slice (some ⟨gO,0,none⟩) (2*es.length) (2*es.length))),([],.val (.int .i64 h)),([],.val (.int .i64 h)),([],.val (.int .i64 x)),([],.val (.slice (some ⟨gF,0,none⟩) (2*es.length) (2*es.length))),([],.val (.int .i64 h)),([5],.val (.int .i64 (ot h:Nat))),([4,6],.val (.pointer (some ⟨gF,ot h,none⟩))),([7],.val (.int .i64 (fv:Nat))),([],.val (.int .i64 h)),([],.val (.slice (some ⟨bi,oi,none⟩) l.length ci)),([],.val (.int .i64 i)),([11],.val (.int .i64 ((i:Int)+1))),([],.val (.slice (some ⟨bi,oi,none⟩) l.length ci)),([13],.val (.int .i64 l.length)),([12,14],.val (.int .i64 (m:Nat))),([10,15],.val (.pointer (some ⟨bi,oi+m,none⟩))),([16],.val (.int .i64 (y:Nat))),([9,17],.val (.int .i64 (kd:Nat))),([2,3,8,18],.val (.agg #[.int .i64 h,.int .i64 x,.int .i64 fv,.int .i64 kd])),([0,1],.val (.pointer (some ⟨gO,h*4,none⟩))),([20,19],pfB gO 47 (jV (Q.set h (h,x,fv,kd))).toArray)] [21] (by kernel_rfl) (by kernel_rfl) (fun us=>?_) ?_
        ·refine R3.pgo_pure _ rfl rfl (fun wv hw hu=>⟨.slice (some ⟨gO,0,none⟩) (2*es.length) (2*es.length),?_,rfl⟩) ?_
         ·have tok:=True.intro;clear hw hu;go_simp
         refine R3.pgo_pure _ rfl rfl (fun wv hw hu=>⟨.int .i64 h,?_,rfl⟩) ?_
         ·have tok:=True.intro;clear hw hu;go_simp
         refine R3.pgo_pure _ rfl rfl (fun wv hw hu=>⟨.int .i64 h,?_,rfl⟩) ?_
         ·have tok:=True.intro;clear hw hu;go_simp
         refine R3.pgo_pure _ rfl rfl (fun wv hw hu=>⟨.int .i64 x,?_,rfl⟩) ?_
         ·have tok:=True.intro;clear hw hu;go_simp
         refine R3.pgo_pure _ rfl rfl (fun wv hw hu=>⟨.slice (some ⟨gF,0,none⟩) (2*es.length) (2*es.length),?_,rfl⟩) ?_
         ·have tok:=True.intro;clear hw hu;go_simp
         refine R3.pgo_pure _ rfl rfl (fun wv hw hu=>⟨.int .i64 h,?_,rfl⟩) ?_
         ·have tok:=True.intro;clear hw hu;go_simp
         refine R3.pgo_pure _ rfl rfl (fun wv hw hu=>⟨.int .i64 (ot h:Nat),?_,rfl⟩) ?_
         ·have tok:=True.intro;have h5:us 5 = .int .i64 h:=hu.1;have hx1:=XD (h:=h) (by omega);clear hw hu;go_simp
         refine R3.pgo_pure _ rfl rfl (fun wv hw hu=>⟨.pointer (some ⟨gF,ot h,none⟩),?_,rfl⟩) ?_
         ·have tok:=True.intro;have h4:us 4 = .slice (some ⟨gF,0,none⟩) (2*es.length) (2*es.length):=hu.1;have h6:us 6 = .int .i64 (ot h:Nat):=hu.2.1;have hoM:=HOM.out;clear hw hu;go_simp
         refine R3.pgo_pure _ rfl rfl (fun wv hw hu=>⟨.int .i64 (fv:Nat),?_,rfl⟩) ?_
         ·have tok:=True.intro;have h7:us 7 = .pointer (some ⟨gF,ot h,none⟩):=hu.1;have zy:wv.cell? ⟨gF,ot h,none⟩=some (.int .i64 (fv:Nat)):=((zS (by kernel_rfl) hw).cell (p:=⟨gF,ot h,none⟩) HGF.out).trans HCF.out;clear hw hu;go_simp
         refine R3.pgo_pure _ rfl rfl (fun wv hw hu=>⟨.int .i64 h,?_,rfl⟩) ?_
         ·have tok:=True.intro;clear hw hu;go_simp
         refine R3.pgo_pure _ rfl rfl (fun wv hw hu=>⟨.slice (some ⟨bi,oi,none⟩) l.length ci,?_,rfl⟩) ?_
         ·have tok:=True.intro;clear hw hu;go_simp
         refine R3.pgo_pure _ rfl rfl (fun wv hw hu=>⟨.int .i64 i,?_,rfl⟩) ?_
         ·have tok:=True.intro;clear hw hu;go_simp
         refine R3.pgo_pure _ rfl rfl (fun wv hw hu=>⟨.int .i64 ((i:Int)+1),?_,rfl⟩) ?_
         ·have tok:=True.intro;have h11:us 11 = .int .i64 i:=hu.1;have hw1:IntKind.i64.wrap ((i:Int)+1)=(i:Int)+1:=by rw [IntKind.wrap_i64];omega
          clear hw hu;go_simp
         refine R3.pgo_pure _ rfl rfl (fun wv hw hu=>⟨.slice (some ⟨bi,oi,none⟩) l.length ci,?_,rfl⟩) ?_
         ·have tok:=True.intro;clear hw hu;go_simp
         refine R3.pgo_pure _ rfl rfl (fun wv hw hu=>⟨.int .i64 l.length,?_,rfl⟩) ?_
         ·have tok:=True.intro;have h13:us 13 = .slice (some ⟨bi,oi,none⟩) l.length ci:=hu.1;clear hw hu;go_simp
         refine R3.pgo_pure _ rfl rfl (fun wv hw hu=>⟨.int .i64 (m:Nat),?_,rfl⟩) ?_
         ·have tok:=True.intro;have h12:us 12 = .int .i64 ((i:Int)+1):=hu.1;have h14:us 14 = .int .i64 l.length:=hu.2.1;have hmd:=HMD.out;have hl0:=HL0.out;clear hw hu;go_simp;exact fun e=>by rw [e] at hil;simp at hil
         refine R3.pgo_pure _ rfl rfl (fun wv hw hu=>⟨.pointer (some ⟨bi,oi+m,none⟩),?_,rfl⟩) ?_
         ·have tok:=True.intro;have h10:us 10 = .slice (some ⟨bi,oi,none⟩) l.length ci:=hu.1;have h15:us 15 = .int .i64 (m:Nat):=hu.2.1;have hml:=HML.out;clear hw hu;go_simp
         refine R3.pgo_pure _ rfl rfl (fun wv hw hu=>⟨.int .i64 (y:Nat),?_,rfl⟩) ?_
         ·have tok:=True.intro;have h16:us 16 = .pointer (some ⟨bi,oi+m,none⟩):=hu.1;have zy:wv.cell? ⟨bi,oi+m,none⟩=some (.int .i64 (y:Nat)):=((zS (by kernel_rfl) hw).cell (p:=⟨bi,oi+m,none⟩) HBI.out).trans HCY.out;clear hw hu;go_simp
         refine R3.pgo_op _ rfl rfl (fun K wv hw hu hK=>?_) ?_
         ·have tok:=True.intro;have h9:us 9 = .int .i64 h:=hu.1;have h17:us 17 = .int .i64 (y:Nat):=hu.2.1;refine zL (f:=51) (args:=#[.int .i64 h,.int .i64 y]) ?_ ((HKD.out wv).mono ?_)
          ·clear hK hw hu;go_simp
          rintro e w' ⟨rfl,rfl⟩;exact ⟨_,rfl,hK _ _ (Evo.refl _ _ _) rfl⟩
         refine R3.pgo_pure _ rfl rfl (fun wv hw hu=>⟨.agg #[.int .i64 h,.int .i64 x,.int .i64 fv,.int .i64 kd],?_,rfl⟩) ?_
         ·have tok:=True.intro;have h2:us 2 = .int .i64 h:=hu.1;have h3:us 3 = .int .i64 x:=hu.2.1;have h8:us 8 = .int .i64 (fv:Nat):=hu.2.2.1;have h18:us 18 = .int .i64 (kd:Nat):=hu.2.2.2.1;clear hw hu;go_simp
         refine R3.pgo_pure _ rfl rfl (fun wv hw hu=>⟨.pointer (some ⟨gO,h*4,none⟩),?_,rfl⟩) ?_
         ·have tok:=True.intro;have h0:us 0 = .slice (some ⟨gO,0,none⟩) (2*es.length) (2*es.length):=hu.1;have h1:us 1 = .int .i64 h:=hu.2.1;have hhM:=HHM.out;clear hw hu;go_simp
         refine R3.pgo_skip _ rfl rfl (fun wv hw hu=>?_) ?_
         ·have tok:=True.intro;have h20:us 20 = .pointer (some ⟨gO,h*4,none⟩):=hu.1;have h19:us 19 = .agg #[.int .i64 h,.int .i64 x,.int .i64 fv,.int .i64 kd]:=hu.2.1;have hbv:Blk wv gO 47 (jV Q).toArray:=(show Blk wr.drew gO 47 (jV Q).toArray from HBO.out).below (zS (by kernel_rfl) hw) HBO.out.lt;obtain ⟨⟨z0,f0⟩,⟨z1,f1⟩,⟨z2,f2⟩,⟨z3,f3⟩,hfin⟩:=gD hbv HHQ.out (h,x,fv,kd);refine ⟨(((wv.setCell ⟨gO,h*4,none⟩ (.int .i64 h)).setCell ⟨gO,h*4+1,none⟩ (.int .i64 x)).setCell ⟨gO,h*4+2,none⟩ (.int .i64 fv)).setCell ⟨gO,h*4+3,none⟩ (.int .i64 kd),?_,(((Evo.set_ hbv (by simp) (Nat.le_refl _) (h*4) _).trans (Evo.set_ (hbv.set_ _ _) (by simp) (Nat.le_refl _) (h*4+1) _)).trans (Evo.set_ ((hbv.set_ _ _).set_ _ _) (by simp) (Nat.le_refl _) (h*4+2) _)).trans (Evo.set_ (((hbv.set_ _ _).set_ _ _).set_ _ _) (by simp) (Nat.le_refl _) (h*4+3) _),hfin⟩;clear hw hu;clear hbv hfin;go_simp
         trivial
        ·intro us w7 hw hu;have HBO7:=Lib.hid (show Blk w7 gO 47 (jV (Q.set h (h,x,fv,kd))).toArray from hu.1);have HB7:=Lib.hid (HB.out.trans (Jm (hw.below (show gO≤wr.drew.heap.size from by have:=HBO.out.lt;exact Nat.le_of_lt this))))
         have HQD7:=Lib.hid (show ∀h',h'<2*es.length→(vtx es h'<x ∨ ∃t,∃ht:t<l.length,t<i+1∧l[t]=(h':Int))→(Q.set h (h,x,fv,kd)).getD h' (0,0,0,0)=QL n es rs h' from fun h' hh' hd=>by
          rw [List.getD_eq_getElem?_getD,List.getElem?_set];by_cases e:h=h'
          ·subst e;rw [if_pos rfl,if_pos HHQ.out,HAQ.out];rfl
          ·rw [if_neg e,←List.getD_eq_getElem?_getD];refine HQD.out h' hh' (hd.imp id fun ⟨t,ht,hti,hte⟩=>⟨t,ht,?_,hte⟩);by_cases e2:t=i
           ·subst e2;rw [HHT.out] at hte;omega
           ·omega)
         have HQL7:=Lib.hid (show (Q.set h (h,x,fv,kd)).length=2*es.length by rw [List.length_set];exact HQL.out);clear hw hu;simp only [Jw];go_simp;go_wp2_with fail
         go_roundg (l.length-(i+1))
         case measure=>rw [Hk2.out];omega
         case rel=>exact ⟨i+1,Q.set h (h,x,fv,kd),by go_num,by omega,rfl,HB7.out,HBO7.out,HQL7.out,HQD7.out⟩
       ·have hie:i=l.length:=by omega
        have hil':¬(i:Int)<l.length:=by omega
        have HQD2:=Lib.hid (show ∀h,h<2*es.length→vtx es h<x+1→Q.getD h (0,0,0,0)=QL n es rs h from fun h hh hv=>HQD.out h hh (by
         by_cases e:vtx es h=x
         ·obtain ⟨t,ht,e2⟩:=HCOV.out h hh e;exact .inr ⟨t,ht,by omega,e2⟩
         ·exact .inl (by omega)))
        clear hie;go_wp2_with fail
        go_roundg (rs.length-(x+1))
        case measure=>rw [Hk.out];omega
        case rel=>exact ⟨x+1,Q,by go_num,by omega,rfl,HB.out,HBO.out,HQL.out,HQD2.out⟩
     ·have hxe:x=rs.length:=by omega
      have hxl':¬(x:Int)<rs.length:=by omega
      have HQE:=Lib.hid (show Q=VV n es rs by
       apply List.ext_getElem
       ·rw [HQL.out];simp [VV]
       ·intro h h1 h2;have hh:h<2*es.length:=by rw [←HQL.out];exact h1
        have hv:=xc (ya HP.out) hh;have:=HQD.out h hh (by omega);rw [List.getD_eq_getElem?_getD,List.getElem?_eq_getElem h1,Option.getD_some] at this;rw [this]
        simp [VV])
      have HF:=Lib.hid (S5.out.next (by rw [←HGO.out];exact HB.out));clear hxe;go_wp2_with fail;go_ret;have e:yl n es rs=Q:=by unfold yl;rw [HA.out,if_pos rfl,HQE.out]
      rw [e];refine ⟨some ⟨gO,0,none⟩,2*es.length,?_,HF.out.below,fun _=>⟨gO,rfl,by have h1:=S5.out.lt;have h2:=HGO.out;omega,HBO.out,Nat.le_of_eq HQL.out⟩⟩;rw [HQL.out];rfl
end Go.Proofs.YtneeknlhlkpnpaaGreat
/-
 slices.DeleteFunc over angles: those that are High, to the front. Written by an AI agent.
-/
namespace Go.Proofs.YtneeknlhlkpnpaaGreat
open Go.RowKit
abbrev zu:=Nat×Nat×Nat×Nat
def hiQ(q:zu):Bool:=decide (q.2.2.2=2)
theorem dq(a b c d:Int)(w:World):Calls Tryz.prog 85 #[.agg #[.int .i64 a,.int .i64 b,.int .i64 c,.int .i64 d]] w fun e w'=>e = .returned (.bool (d != 2))∧Below w.heap.size w w':=by
 go_enter Tryz.func85,Tryz.ntmps85
 go_wp2_with fail;go_ret;exact ⟨rfl,(Below.refl _ _).alloc (Nat.le_refl _) _⟩
theorem Zf(u:World)(args:Array Value):(callFunc 85 args).run Tryz.prog u = .ok (.enter 85 args) u:=by
 go_simp
theorem iw(q:zu):((q.2.2.2:Int) != 2) = !hiQ q:=by
 unfold hiQ;rw [Bool.eq_iff_iff];simp;omega
/-- the first angle that is none of them -/
def tS(Q:List zu)(w:World)(e:Ending)(w':World):Prop:=∃r:Int,e = .returned (.int .i64 r)∧Below w.heap.size w w'∧(r = -1∧(∀i (h:i<Q.length),hiQ Q[i]=true) ∨ ∃k:Nat,∃hk:k<Q.length,r=k∧hiQ Q[k]=false ∧ ∀i (h:i<Q.length),i<k→hiQ Q[i]=true)
set_option maxHeartbeats 1000000 in
theorem nZ(g cap:Nat)(Q:List zu)(w:World)(hb:Blk w g 47 (jV Q).toArray)(hl:Q.length≤1000) :
  Calls Tryz.prog 126 #[.slice (some ⟨g,0,none⟩) Q.length cap,.func (.func 85) #[] #[]] w (tS Q w):=by
 have HB:=Lib.hid hb;have hcf:=Zf;clear hb
 go_enter Tryz.func126,Tryz.ntmps126
 go_wp2_with fail
 go_loopg [8] Q.length (fun m s8 wr=>∃i:Nat,s8 = .int .i64 i∧i≤Q.length∧m=Q.length-i∧Below w.heap.size w wr ∧ ∀j (h:j<Q.length),j<i→hiQ Q[j]=true)
 case atStart=>exact ⟨0,rfl,Nat.zero_le _,rfl,Below.refl _ _,fun j _ hj=>absurd hj (Nat.not_lt_zero _)⟩
 case round=>
  obtain ⟨i,rfl,hi,hm,hbw,hf⟩:=hrel;have Hm:=Lib.hid hm;have HW:=Lib.hid hbw;have HF:=Lib.hid hf;clear hm hbw hf;by_cases hil:i<Q.length
  ·have hil':(i:Int)<Q.length:=by omega
   have hG:=HB.out.below HW.out HB.out.lt;obtain ⟨be,oe,e1,_,hc⟩:=(jr.of_blk (xs:=jV Q) (R:=#[]) (by simpa using hG)).quads (by omega);injection e1 with e1;injection e1 with e2 e3 _;subst e2 e3;obtain ⟨d0,d1,d2,d3⟩:=hc i hil;simp only [Nat.zero_add] at d0 d1 d2 d3;have HV:=Lib.hid (iw Q[i])
   have HN:=Lib.hid (show hiQ Q[i]=true → ∀j (h:j<Q.length),j<i+1→hiQ Q[j]=true from fun h j hj hji=>by
    by_cases e:j=i
    ·subst e;exact h
    ·exact HF.out j hj (by omega))
   have HY:=Lib.hid (show hiQ Q[i]=false → ∃k:Nat,∃hk:k<Q.length,(i:Int)=k∧hiQ Q[k]=false ∧ ∀j (h:j<Q.length),j<k→hiQ Q[j]=true from fun h=>⟨i,hil,rfl,h,HF.out⟩);obtain ⟨b,hb⟩:∃b,b=hiQ Q[i]:=⟨_,rfl⟩;rw [←hb] at HV HN HY;generalize Q[i].1=q0 at *;generalize Q[i].2.1=q1 at *;generalize Q[i].2.2.1=q2 at *;generalize Q[i].2.2.2=q3 at *;clear hc hG hb;go_wp2_with fail;refine (dq q0 q1 q2 q3 wr).mono ?_;rintro e w5 ⟨rfl,hb5⟩;rw [HV.out];have HW5:=Lib.hid (HW.out.trans (hb5.mono HW.out.size));clear hb5 d0 d1 d2 d3
   cases b with
   | false=>
    go_wp2_with fail;go_ret;exact ⟨_,rfl,HW5.out,.inr (HY.out (by trivial))⟩
   | true=>
    have HN2:=Lib.hid (HN.out rfl);go_wp2_with fail
    go_roundg (Q.length-(i+1))
    case measure=>rw [Hm.out];omega
    case rel=>exact ⟨i+1,by go_num,by omega,rfl,HW5.out,HN2.out⟩
  ·have hil':¬(i:Int)<Q.length:=by omega
   go_wp2_with fail;go_ret;exact ⟨_,rfl,HW.out,.inl ⟨rfl,fun j hj=>HF.out j hj (by omega)⟩⟩
/-- cells are stored one behind the other in a block that is known -/
theorem JX{g:Nat}{t:TypeId}:∀(vs:List Value) (o:Nat) (w:World) (cs:Array Value),Blk w g t cs→But [g] w (w.setCells g o vs) ∧ ∃cs':Array Value,Blk (w.setCells g o vs) g t cs'∧cs'.size=cs.size ∧ ∀j,j<o→cs'[j]? = cs[j]?
 | [],o,w,cs,h=>⟨But.refl _ _,cs,h,rfl,fun _ _=>rfl⟩
 | v::r,o,w,cs,h=>by
  obtain ⟨h1,cs',h2,h3,h4⟩:=JX r (o+1) (w.setCell ⟨g,o,none⟩ v) _ (h.set_ o v);refine ⟨(But.set_ w (show g∈[g] by simp) o v).trans h1,cs',h2,by rw [h3];simp,fun j hj=>?_⟩;rw [h4 j (by omega),Array.getElem?_setIfInBounds];rw [if_neg (by omega)]
theorem fe{w:World}{g:Nat}{cs:Array Value}(hb:Blk w g 47 cs)(o n c:Nat)(ho:o+n*4≤cs.size) :
  ∃w',(∀ty,(Builtin.clear_ #[44] ty #[.slice (some ⟨g,o,none⟩) n c]).run Tryz.prog w = .ok (.tuple #[]) w')∧But [g] w w' ∧ ∃cs':Array Value,Blk w' g 47 cs'∧cs'.size=cs.size ∧ ∀j,j<o→cs'[j]? = cs[j]? :=by
 rcases n with _ | m
 ·refine ⟨w,fun ty=>?_,But.refl _ _,cs,hb,rfl,fun _ _=>rfl⟩;simp [Builtin.clear_,run_underlying Tryz.underlying44]
 ·obtain ⟨zs,hzs⟩:∃zs,zs=(Builtin.zeroCells (Value.agg #[.int .i64 0,.int .i64 0,.int .i64 0,.int .i64 0]).cells (m+1)).toList:=⟨_,rfl⟩;have hzl:zs.length=(m+1)*4:=by rw [hzs];simp [Builtin.zeroCells,Value.cells]
  have hz1:∀v∈zs,v.oneCell'=true:=by
   intro v hv;rw [hzs] at hv;simp [Builtin.zeroCells,Value.cells] at hv;obtain ⟨i,_,rfl⟩:=hv;have:i%4<4:=Nat.mod_lt _ (by omega);generalize i%4=r at *
   match r,this with
   | 0,_=>rfl
   | 1,_=>rfl
   | 2,_=>rfl
   | 3,_=>rfl
  have hst:=run_storeCells_cells (P:=Tryz.prog) g o zs 0 w (fun j hj=>by
   rw [hb.cell,Array.getElem?_eq_getElem (by omega)];rfl) (fun j hj=>hb.frozen _) hz1
  simp only [Nat.add_zero] at hst;obtain ⟨h1,h2⟩:=JX zs o w cs hb;refine ⟨w.setCells g o zs,fun ty=>?_,h1,h2⟩;simp [Builtin.clear_,run_underlying Tryz.underlying44,←hzs,hst]
end Go.Proofs.YtneeknlhlkpnpaaGreat
/-
 The web's parts: who leads whom behind all joins (plain law). Written by an AI agent.
-/
namespace Go.Proofs.YtneeknlhlkpnpaaGreat
open Go.RowKit
/-- each thing has a leader that is no greater, and leads itself -/
structure LeadP(L:Nat)(ro:Nat→Nat):Prop where
 le:∀y,y<L→ro y≤y
 fix:∀y,y<L→ro (ro y)=ro y
theorem LeadP.id(L:Nat):LeadP L id:=⟨fun _ _=>Nat.le_refl _,fun _ _=>rfl⟩
section
variable {L:Nat}{ro:Nat→Nat}{a b:Nat}
theorem LeadP.join(h:LeadP L ro)(ha:a<L)(hb:b<L):LeadP L (yU ro a b):=by
 have h1:=h.le a ha;have h2:=h.le b hb;have h3:=h.fix a ha;have h4:=h.fix b hb;refine ⟨fun y hy=>?_,fun y hy=>?_⟩
 ·have h5:=h.le y hy;unfold yU
  split<;>omega
 ·have h5:=h.le y hy;have h6:=h.fix y hy;unfold yU;by_cases e:ro y=max (ro a) (ro b)
  ·rw [if_pos e];by_cases e2:ro (min (ro a) (ro b))=max (ro a) (ro b)
   ·rw [if_pos e2]
   ·rw [if_neg e2];rcases Nat.le_total (ro a) (ro b) with hh | hh
    ·rw [Nat.min_eq_left hh];exact h3
    ·rw [Nat.min_eq_right hh];exact h4
  ·rw [if_neg e,h6,if_neg e]
/-- to have one leader, behind a join -/
theorem Vr{x y:Nat}:yU ro a b x=yU ro a b y↔xx (fun x y=>ro x=ro y) a b x y:=by
 unfold yU xx;by_cases hx:ro x=max (ro a) (ro b)
 ·rw [if_pos hx];by_cases hy:ro y=max (ro a) (ro b)
  ·rw [if_pos hy];exact ⟨fun _=>.inl (hx.trans hy.symm),fun _=>rfl⟩
  ·rw [if_neg hy];constructor
   ·intro e;omega
   ·intro h;omega
 ·rw [if_neg hx];by_cases hy:ro y=max (ro a) (ro b)
  ·rw [if_pos hy];constructor
   ·intro e;omega
   ·intro h;omega
  ·rw [if_neg hy];constructor
   ·intro e;exact .inl e
   ·intro h;omega
theorem pm(L:Nat)(ro:Nat→Nat):Equ L (fun x y=>ro x=ro y):=⟨fun _ _=>rfl,fun _ _ _ _ h=>h.symm,fun _ _ _ _ _ _ h k=>h.trans k⟩
/-- who leads itself, counted -/
theorem dB(h:LeadP L ro):(List.range L).countP (fun y=>decide (ro y=y))=cls (fun x y=>ro x=ro y) L:=by
 unfold cls;refine jP fun y hy=>?_;rw [Bool.eq_iff_iff,decide_eq_true_eq,jt];constructor
 ·intro e k hk hr;have:=h.le k (by omega);omega
 ·intro hn;have h1:=h.le y hy;rcases Nat.lt_or_eq_of_le h1 with h2 | h2
  ·exact absurd (h.fix y hy) (hn _ h2)
  ·exact h2
theorem dG(h:LeadP L ro)(ha:a<L)(hb:b<L):(List.range L).countP (fun y=>decide (ro y=y))=(List.range L).countP (fun y=>decide (yU ro a b y=y))+if ro a=ro b then 0 else 1:=by
 rw [dB h,dB (h.join ha hb),xO (S:=xx (fun x y=>ro x=ro y) a b) (fun x y _ _=>Vr)];by_cases e:ro a=ro b
 ·rw [if_pos e,Yk (pm L ro) ha hb e];rfl
 ·rw [if_neg e];exact JJ (pm L ro) ha hb e
end
/-- all High angles joined, one behind the other -/
def roH(F:Nat)(H:List zu):Nat→Nat:=H.foldl (fun ro q=>yU ro q.2.2.1 (F+q.2.1)) id
theorem Yc(F:Nat)(H:List zu)(q:zu):roH F (H++[q])=yU (roH F H) q.2.2.1 (F+q.2.1):=by
 unfold roH;rw [List.foldl_append];rfl
def InH(F N:Nat)(H:List zu):Prop:=∀q∈H,q.2.2.1<F∧q.2.1<N
section
variable {F N:Nat}{H:List zu}
theorem dh:∀(K:List zu),InH F N K → ∀ {ro:Nat→Nat},LeadP (F+N) ro→LeadP (F+N) (K.foldl (fun ro q=>yU ro q.2.2.1 (F+q.2.1)) ro)
 | [],_,_,h=>h
 | q::K,hK,_,h=>by
  obtain ⟨h1,h2⟩:=hK q (by simp);exact dh K (fun q hq=>hK q (by simp [hq])) (h.join (by omega) (by omega))
theorem uQ(hH:InH F N H):LeadP (F+N) (roH F H):=dh H hH (LeadP.id _)
/-- a join lets nothing come apart -/
theorem mo{ro:Nat→Nat}{a b x y:Nat}(h:ro x=ro y):yU ro a b x=yU ro a b y:=Vr.2 (.inl h)
theorem GB:∀(K:List zu) {ro:Nat→Nat} {x y:Nat},ro x=ro y→K.foldl (fun ro q=>yU ro q.2.2.1 (F+q.2.1)) ro x=K.foldl (fun ro q=>yU ro q.2.2.1 (F+q.2.1)) ro y
 | [],_,_,_,h=>h
 | _::K,_,_,_,h=>GB K (mo h)
theorem dR:∀(K:List zu) {ro:Nat→Nat} {q:zu},q∈K→K.foldl (fun ro q=>yU ro q.2.2.1 (F+q.2.1)) ro q.2.2.1=K.foldl (fun ro q=>yU ro q.2.2.1 (F+q.2.1)) ro (F+q.2.1)
 | p::K,ro,q,h=>by
  rcases List.mem_cons.1 h with e | e
  ·subst e;exact GB K (Vr.2 (.inr (.inl ⟨rfl,rfl⟩)))
  ·exact dR K e
/-- an angle's face and its vertex are in one part -/
theorem aK{q:zu}(h:q∈H):roH F H q.2.2.1=roH F H (F+q.2.1):=dR H h
/-- a vertex without angles leads itself; one with an angle is led by a face -/
theorem nw(hH:InH F N H){q:zu}(h:q∈H):roH F H (F+q.2.1)<F:=by
 have h1:=(uQ hH).le q.2.2.1 (by have:=(hH q h).1;omega);rw [←aK h];have:=(hH q h).1;omega
theorem UG{x:Nat}(hx:∀q∈H,q.2.1≠x)(hH:InH F N H):roH F H (F+x)=F+x:=by
 have key:∀(K:List zu) {ro:Nat→Nat},(∀q∈K,q.2.1≠x∧q.2.2.1<F)→(∀y,ro y=ro (F+x)↔y=F+x)→ro (F+x)=F+x→K.foldl (fun ro q=>yU ro q.2.2.1 (F+q.2.1)) ro (F+x)=F+x:=by
  intro K
  induction K with
  | nil=>intro ro _ _ h;exact h
  | cons q K ih=>
   intro ro hK h1 h2;obtain ⟨hq1,hq2⟩:=hK q (by simp);have n1:ro q.2.2.1≠ro (F+x):=fun e=>by have:=(h1 _).1 e;omega
   have n2:ro (F+q.2.1)≠ro (F+x):=fun e=>by have:=(h1 _).1 e;omega
   refine ih (fun p hp=>hK p (by simp [hp])) (fun y=>?_) ?_
   ·rw [Vr];unfold xx;constructor
    ·rintro (e | ⟨_,e⟩ | ⟨_,e⟩)
     ·exact (h1 y).1 e
     ·exact absurd e n2
     ·exact absurd e n1
    ·intro e;exact .inl ((h1 y).2 e)
   ·show yU ro q.2.2.1 (F+q.2.1) (F+x)=F+x
    unfold yU;rw [if_neg (by omega)];exact h2
 exact key H (fun q hq=>⟨hx q hq,(hH q hq).1⟩) (fun y=>Iff.rfl) rfl
theorem uX(hH:InH F N H){f:Nat}(hf:f<F):roH F H f<F:=by
 have:=(uQ hH).le f (by omega);omega
/-- a part: its faces, its vertices, how many angles -/
def kH(ro:Nat→Nat)(F f:Nat):List Nat:=(List.range F).filter fun k=>decide (ro k=f)
def km(ro:Nat→Nat)(F N f:Nat):List Nat:=(List.range N).filter fun x=>decide (ro (F+x)=f)
def uC(ro:Nat→Nat)(H:List zu)(f:Nat):Nat:=H.countP fun q=>decide (ro q.2.2.1=f)
def Qp(ro:Nat→Nat)(F:Nat):List Nat:=(List.range F).filter fun f=>decide (ro f=f)
end
end Go.Proofs.YtneeknlhlkpnpaaGreat
/-
 slices.DeleteFunc over angles: what it comes to. Written by an AI agent.
-/
namespace Go.Proofs.YtneeknlhlkpnpaaGreat
open Go.RowKit
theorem ki{Q:List zu}{j:Nat}(hj:j<Q.length):(Q.take (j+1)).filter hiQ=(Q.take j).filter hiQ++if hiQ Q[j]=true then [Q[j]] else []:=by
 rw [List.take_succ_eq_append_getElem hj,List.filter_append];congr 1;by_cases h:hiQ Q[j]=true
 ·rw [if_pos h];simp [h]
 ·rw [if_neg h];simp [h]
/-- the angles that are High stand at the front of the first k of P, and behind j all is as it was -/
structure DelP(Q P:List zu)(k j:Nat):Prop where
 len:P.length=Q.length
 kj:k<j
 front:P.take k=(Q.take j).filter hiQ
 back:∀i,j≤i→P[i]? = Q[i]?
theorem DelP.skip{Q P:List zu}{k j:Nat}(h:DelP Q P k j)(hj:j<Q.length)(hq:hiQ Q[j]=false):DelP Q P k (j+1):=
 ⟨h.len,by have:=h.kj;omega,by rw [ki hj,if_neg (by rw [hq];simp),List.append_nil];exact h.front,fun i hi=>h.back i (by omega)⟩
theorem DelP.take_{Q P:List zu}{k j:Nat}(h:DelP Q P k j)(hj:j<Q.length)(hq:hiQ Q[j]=true):DelP Q (P.set k Q[j]) (k+1) (j+1):=by
 have hk:=h.kj;have hl:=h.len;refine ⟨by rw [List.length_set];exact hl,by omega,?_,fun i hi=>?_⟩
 ·rw [ki hj,if_pos hq,←h.front,List.take_succ_eq_append_getElem (by rw [List.length_set];omega),List.take_set_of_le (Nat.le_refl k)];simp
 ·rw [List.getElem?_set_ne (by omega)];exact h.back i (by omega)
theorem DelP.start{Q:List zu}{k:Nat}(hk:k<Q.length)(hq:hiQ Q[k]=false)(hb:∀i (h:i<Q.length),i<k→hiQ Q[i]=true):DelP Q Q k (k+1):=by
 refine ⟨rfl,by omega,?_,fun _ _=>rfl⟩;rw [ki hk,if_neg (by rw [hq];simp),List.append_nil];symm;rw [List.filter_eq_self];intro q hqm;obtain ⟨i,hi,rfl⟩:=List.getElem_of_mem hqm;rw [List.getElem_take];have:i<k:=by simp at hi;omega
 exact hb i (by omega) this
def aV(g:Nat)(Q:List zu)(w:World)(e:Ending)(w':World):Prop:=∃c,e = .returned (.slice (some ⟨g,0,none⟩) (Q.filter hiQ).length c)∧But [g] w w'∧jr w' w'.heap.size (some ⟨g,0,none⟩) (jV (Q.filter hiQ))
theorem jr.front{w:World}{g:Nat}{t:TypeId}{cs:Array Value}{xs ys:List Value}(h:Blk w g t cs)(hc:∀j,j<xs.length→cs[j]? = ys[j]?)(he:∀j,j<xs.length→ys[j]? = xs[j]?):jr w w.heap.size (some ⟨g,0,none⟩) xs:=fun _=>by
 refine ⟨g,0,rfl,h.lt,fun j u hj=>?_⟩
 have hj2:j<xs.length:=by
  rcases Nat.lt_or_ge j xs.length with h | h
  ·exact h
  ·rw [List.getElem?_eq_none h] at hj;cases hj
 rw [Nat.zero_add,h.cell,hc j hj2,he j hj2,hj]
theorem bY(P:List zu)(k:Nat)(j:Nat)(hj:j<(jV (P.take k)).length):(jV P)[j]? = (jV (P.take k))[j]? :=by
 have:jV P=jV (P.take k)++jV (P.drop k):=by
  unfold jV;rw [←List.flatMap_append,List.take_append_drop]
 rw [this,List.getElem?_append_left hj]
set_option maxRecDepth 20000 in
set_option maxHeartbeats 2000000 in
theorem oE(g cap:Nat)(Q:List zu)(w:World)(hb:Blk w g 47 (jV Q).toArray)(hl:Q.length≤1000)(hcap:Q.length≤cap) :
  Calls Tryz.prog 84 #[.slice (some ⟨g,0,none⟩) Q.length cap,.func (.func 85) #[] #[]] w (aV g Q w):=by
 have HB:=Lib.hid hb;have hcf:=Zf;clear hb
 go_enter Tryz.func84,Tryz.ntmps84
 go_wp2_with fail;refine (nZ g cap Q w HB.out hl).mono ?_;rintro e w1 ⟨r,rfl,hb1,hr⟩;have HB1:=Lib.hid (HB.out.below hb1 HB.out.lt);have HW1:=Lib.hid (But.of_below [g] hb1 (Nat.le_refl _));clear hb1;rcases hr with ⟨rfl,hall⟩ | ⟨k,hk,rfl,hq,hpre⟩
 ·have HF:=Lib.hid (show Q.filter hiQ=Q by
   rw [List.filter_eq_self];intro q hqm;obtain ⟨i,hi,rfl⟩:=List.getElem_of_mem hqm
   exact hall i hi)
  clear hall;go_wp2_with fail;go_ret;unfold aV;rw [HF.out];exact ⟨_,rfl,HW1.out,(jr.of_blk (xs:=jV Q) (R:=#[]) (by simpa using HB1.out)).more HB1.out.lt⟩
 ·have HD0:=Lib.hid (DelP.start hk hq hpre);have hkn:((k:Int) == -1)=false:=by rw [beq_eq_false_iff_ne];omega
  have hk':(k:Int)<Q.length:=by omega
  clear hq hpre
  go_upto_region 4 with fail
  go_wp2_with fail
  go_loopg [5,6] (Q.length-(k+1)) (fun m s5 s6 wr=>∃(i j:Nat) (P:List zu),s5 = .int .i64 i∧s6 = .int .i64 j∧j≤Q.length∧m=Q.length-j∧DelP Q P i j∧But [g] w wr∧Blk wr g 47 (jV P).toArray)
  case atStart=>exact ⟨k,k+1,Q,rfl,by go_num,by omega,rfl,HD0.out,HW1.out,HB1.out⟩
  case round=>
   obtain ⟨i,j,P,rfl,rfl,hj,hm,hd,hbw,hbl⟩:=hrel;have Hm:=Lib.hid hm;have HD:=Lib.hid hd;have HW:=Lib.hid hbw;have HBL:=Lib.hid hbl;have hPl:=hd.len;have hij:=hd.kj;clear hm hd hbw hbl;by_cases hjl:j<Q.length
   ·have hjl':(j:Int)<Q.length:=by omega
    have hjP:j<P.length:=by omega
    have hiP:i<P.length:=by omega
    have hiQ':(i:Int)<Q.length:=by omega
    have hPQ:P[j]=Q[j]:=by
     have:=HD.out.back j (Nat.le_refl _);rw [List.getElem?_eq_getElem hjP,List.getElem?_eq_getElem hjl] at this;injection this
    obtain ⟨be,oe,e1,_,hc⟩:=(jr.of_blk (xs:=jV P) (R:=#[]) (by simpa using HBL.out)).quads (by omega);injection e1 with e1;injection e1 with e2 e3 _;subst e2 e3;obtain ⟨d0,d1,d2,d3⟩:=hc j hjP;simp only [Nat.zero_add] at d0 d1 d2 d3;rw [hPQ] at d0 d1 d2 d3;have HV:=Lib.hid (iw Q[j]);have HSK:=Lib.hid (fun h=>HD.out.skip hjl h);have HTK:=Lib.hid (fun h=>HD.out.take_ hjl h);obtain ⟨q,hq⟩:∃q,q=Q[j]:=⟨_,rfl⟩;rw [←hq] at d0 d1 d2 d3 HV HSK HTK;obtain ⟨b,hbq⟩:∃b,b=hiQ q:=⟨_,rfl⟩;rw [←hbq] at HV HSK HTK;obtain ⟨q0,q1,q2,q3⟩:=q;simp only at d0 d1 d2 d3 HV;have HA5:=Lib.hid (Blk.new wr 47 #[.int .i64 (q0:Nat),.int .i64 (q1:Nat),.int .i64 (q2:Nat),.int .i64 (q3:Nat)]);have hb5:=(Below.refl wr.heap.size wr).alloc (Nat.le_refl _) (.cells #[.int .i64 (q0:Nat),.int .i64 (q1:Nat),.int .i64 (q2:Nat),.int .i64 (q3:Nat)] 47);have HW5:=Lib.hid (HW.out.trans (But.of_below [g] hb5 (Nat.le_refl _)));have HBL5:=Lib.hid (HBL.out.below hb5 HBL.out.lt);have hgl:=HBL.out.lt;clear hb5 hc hPQ hq hbq
    go_upto_region 8 with fail
    obtain ⟨gA,hgA⟩:∃gA,gA=wr.heap.size:=⟨_,rfl⟩;rw [←hgA] at HA5 hgl;rw [←hgA];generalize wr.alloc (.cells #[.int .i64 (q0:Nat),.int .i64 (q1:Nat),.int .i64 (q2:Nat),.int .i64 (q3:Nat)] 47)=w5 at *;have a0:=HA5.out.cell 0;have a1:=HA5.out.cell 1;have a2:=HA5.out.cell 2;have a3:=HA5.out.cell 3;simp only [List.getElem?_toArray,List.getElem?_cons_zero,List.getElem?_cons_succ] at a0 a1 a2 a3;clear d0 d1 d2 d3 hgA;go_wp2_with fail;refine (dq q0 q1 q2 q3 w5).mono ?_;rintro e w6 ⟨rfl,hb6⟩;rw [HV.out];have HW6:=Lib.hid (HW5.out.trans (But.of_below [g] hb6 (Nat.le_refl _)));have HBL6:=Lib.hid (HBL5.out.below hb6 HBL5.out.lt);have HA6:=Lib.hid (HA5.out.below hb6 HA5.out.lt);clear hb6 a0 a1 a2 a3
    cases b with
    | false=>
     have HD2:=Lib.hid (HSK.out (by trivial));go_wp2_with fail
     go_roundg (Q.length-(j+1))
     case measure=>rw [Hm.out];omega
     case rel=>exact ⟨i,j+1,P,rfl,by go_num,by omega,rfl,HD2.out,HW6.out,HBL6.out⟩
    | true=>
     have HD2:=Lib.hid (HTK.out (by trivial));have a0:=HA6.out.cell 0;have a1:=HA6.out.cell 1;have a2:=HA6.out.cell 2;have a3:=HA6.out.cell 3;simp only [List.getElem?_toArray,List.getElem?_cons_zero,List.getElem?_cons_succ] at a0 a1 a2 a3;obtain ⟨⟨s0,f0⟩,⟨s1,f1⟩,⟨s2,f2⟩,⟨s3,f3⟩,s4⟩:=gD HBL6.out hiP (q0,q1,q2,q3);simp only at s0 f0 s1 f1 s2 f2 s3 f3 s4;have HS4:=Lib.hid s4;have HW7:=Lib.hid ((((HW6.out.trans (But.set_ w6 (show g∈[g] by simp) (i*4) (.int .i64 (q0:Nat)))).trans (But.set_ _ (show g∈[g] by simp) (i*4+1) (.int .i64 (q1:Nat)))).trans (But.set_ _ (show g∈[g] by simp) (i*4+2) (.int .i64 (q2:Nat)))).trans (But.set_ _ (show g∈[g] by simp) (i*4+3) (.int .i64 (q3:Nat))));clear s4;go_wp2_with fail
     go_roundg (Q.length-(j+1))
     case measure=>rw [Hm.out];omega
     case rel=>exact ⟨i+1,j+1,P.set i (q0,q1,q2,q3),by go_num,by go_num,by omega,rfl,HD2.out,HW7.out,HS4.out⟩
   ·have hje:j=Q.length:=by omega
    subst hje;have hjl':¬(Q.length:Int)<Q.length:=by omega
    have HFR:=Lib.hid (show P.take i=Q.filter hiQ by
     have:=HD.out.front;rw [List.take_length] at this
     exact this)
    have HFL:=Lib.hid (show (Q.filter hiQ).length=i by rw [←HFR.out,List.length_take];omega);obtain ⟨w7,hrun,hbt,cs,hcs,hsz,hfr⟩:=fe HBL.out (i*4) (Q.length-i) (cap-i) (by simp [xy];omega);have hii:(i:Int)≤Q.length:=by omega
    have hi0:(0:Int)≤i:=Int.natCast_nonneg i;have hic:(i:Int)≤cap:=by omega
    have HW7:=Lib.hid (HW.out.trans hbt);have HCS:=Lib.hid (And.intro hcs hfr);clear hbt hcs hsz hfr hjl
    go_upto_region 11 with fail
    go_wp2_with fail;go_ret;unfold aV;rw [HFL.out];refine ⟨_,rfl,HW7.out,jr.front (ys:=jV P) HCS.out.1 (fun j hj=>?_) (fun j hj=>?_)⟩
    ·rw [HCS.out.2 j (by rw [xy,HFL.out] at hj;exact hj)];simp
    ·rw [←HFR.out] at hj ⊢;exact bY P i j hj
end Go.Proofs.YtneeknlhlkpnpaaGreat
