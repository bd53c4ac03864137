import Derived.Test.YtneeknlhlkpnpaaGreatZRPlain
import Derived.Test.YtneeknlhlkpnpaaGreatZVw
import Derived.Test.YtneeknlhlkpnpaaGreatZChks
import Derived.Test.YtneeknlhlkpnpaaGreatZRRf9
/-
 Plain law: what a plan is, as the reference asks it. Written by an AI agent.
-/
namespace Go.Proofs.YtneeknlhlkpnpaaGreat
open Go.RowKit
def Yo(l:List Int)(i:Nat):Bool:=(List.range i).all fun x:Nat=>decide (xX l (x:Int)≥0)
def JO(l:List Int)(n:Nat):Bool:=decide (l.length=n)&&Yo l n
theorem dC(l:List Int)(i:Nat):Yo l (i+1)=(Yo l i&&decide (xX l (i:Int)≥0)):=by
 unfold Yo;rw [List.range_succ,List.all_append];simp
theorem dD{l:List Int}{i j:Nat}(h:Yo l i=false)(hj:i≤j):Yo l j=false:=by
 unfold Yo at h ⊢;rw [List.all_eq_false] at h ⊢;obtain ⟨k,hk,h2⟩:=h;exact ⟨k,List.mem_range.2 (by have:=List.mem_range.1 hk;omega),h2⟩
def uW(es:List (Int×Int))(x:Nat)(st:Option (List Int))(i:Int):Option (List Int):=
 match st with
 | none=>none
 | some c=>if i<0∨(es.length:Int)≤i∨(es.getD i.toNat (0,0)).1≠(x:Int)∨c.getD i.toNat 0>0 then none else some (c.set i.toNat 1)
def xJ(es:List (Int×Int))(x:Nat)(l:List Int)(st:Option (List Int)):Option (List Int):=l.foldl (uW es x) st
def uZ(es:List (Int×Int))(outs:List (List Int))(k:Nat):Option (List Int):=(List.range k).foldl (fun st x=>xJ es x (outs.getD x []) st) (some (List.replicate es.length 0))
theorem ud{es:List (Int×Int)}{outs:List (List Int)}{k:Nat}:uZ es outs (k+1)=xJ es k (outs.getD k []) (uZ es outs k):=by
 unfold uZ;rw [List.range_succ,List.foldl_append];rfl
theorem JC{es:List (Int×Int)}{x:Nat}(l:List Int):xJ es x l none=none:=by
 induction l with
 | nil=>rfl
 | cons a l ih=>exact ih
theorem cT{es:List (Int×Int)}{x j:Nat}{l:List Int}{st:Option (List Int)}(h:j<l.length):xJ es x (l.take (j+1)) st=uW es x (xJ es x (l.take j) st) l[j]:=by
 unfold xJ;rw [List.take_succ_eq_append_getElem h,List.foldl_append];rfl
theorem cU{es:List (Int×Int)}{x j:Nat}{l:List Int}{st:Option (List Int)}(h:xJ es x (l.take j) st=none):xJ es x l st=none:=by
 have:xJ es x l st=xJ es x (l.drop j) (xJ es x (l.take j) st):=by
  unfold xJ;rw [←List.foldl_append,List.take_append_drop]
 rw [this,h,JC]
theorem cV{es:List (Int×Int)}{outs:List (List Int)}{k:Nat}(h:uZ es outs k=none){j:Nat}(hj:k≤j):uZ es outs j=none:=by
 induction j with
 | zero=>rw [show 0=k by omega];exact h
 | succ j ih=>
  by_cases e:k=j+1
  ·rw [←e];exact h
  ·rw [ud,ih (by omega),JC]
def Ya(es:List (Int×Int))(outs:List (List Int)):Bool:=match uZ es outs outs.length with
 | none=>false
 | some c=>c.all fun z=>decide (z≠0)
structure OfI(es:List (Int×Int))(D:Nat→Prop)(c:List Int):Prop where
 len:c.length=es.length
 one:∀i,i<es.length→(c.getD i 0=1∧D i)∨(c.getD i 0=0 ∧ ¬D i)
theorem OfI.start(es:List (Int×Int)):OfI es (fun _=>False) (List.replicate es.length 0):=⟨by simp,fun i hi=>.inr ⟨by simp [List.getD_eq_getElem?_getD,hi],id⟩⟩
theorem aV{es:List (Int×Int)}{x:Nat}:∀(l:List Int) (c c':List Int) (D:Nat→Prop),OfI es D c→xJ es x l (some c)=some c' →
  l.Nodup∧(∀a∈l,0≤a∧a<(es.length:Int)∧(es.getD a.toNat (0,0)).1=(x:Int) ∧ ¬D a.toNat)∧OfI es (fun i=>D i∨(i:Int)∈l) c'
 | [],c,c',D,h,e=>by
  injection e with e;subst e;exact ⟨List.nodup_nil,fun a ha=>absurd ha (by simp),h.len,fun i hi=>(h.one i hi).imp (fun ⟨a,b⟩=>⟨a,.inl b⟩) (fun ⟨a,b⟩=>⟨a,by simpa using b⟩)⟩
 | a::l,c,c',D,h,e=>by
  have e':xJ es x l (uW es x (some c) a)=some c':=e
  cases hq:uW es x (some c) a with
  | none=>rw [hq,JC] at e';cases e'
  | some c1=>
   rw [hq] at e';unfold uW at hq;simp only at hq
   split at hq
   ·cases hq
   ·rename_i hno;rw [not_or,not_or,not_or] at hno;obtain ⟨h1,h2,h3,h4⟩:=hno;injection hq with hq;subst hq;have h3:=Classical.not_not.1 h3
    have hD:¬D a.toNat:=fun hd=>by
     rcases h.one a.toNat (by omega) with ⟨h5,_⟩ | ⟨_,h5⟩
     ·rw [h5] at h4;omega
     ·exact h5 hd
    have h1':OfI es (fun i=>D i∨(i:Int)=a) (c.set a.toNat 1):=⟨by rw [List.length_set];exact h.len,fun i hi=>by
     rw [List.getD_eq_getElem?_getD,List.getElem?_set];by_cases e2:a.toNat=i
     ·rw [if_pos e2,if_pos (by rw [h.len];omega)];exact .inl ⟨rfl,.inr (by omega)⟩
     ·rw [if_neg e2,←List.getD_eq_getElem?_getD];rcases h.one i hi with ⟨h5,h6⟩ | ⟨h5,h6⟩
      ·exact .inl ⟨h5,.inl h6⟩
      ·exact .inr ⟨h5,fun h7=>by rcases h7 with h7 | h7;exact h6 h7;omega⟩⟩
    obtain ⟨i1,i2,i3⟩:=aV l _ _ _ h1' e';refine ⟨List.nodup_cons.2 ⟨fun hm=>(i2 a hm).2.2.2 (.inr (by omega)),i1⟩,fun b hb=>?_,i3.len,fun i hi=>?_⟩
    ·rcases List.mem_cons.1 hb with rfl | hb
     ·exact ⟨by omega,by omega,h3,hD⟩
     ·obtain ⟨j1,j2,j3,j4⟩:=i2 b hb;exact ⟨j1,j2,j3,fun hd=>j4 (.inl hd)⟩
    ·rcases i3.one i hi with ⟨h5,h6⟩ | ⟨h5,h6⟩
     ·refine .inl ⟨h5,?_⟩;rcases h6 with (h6 | h6) | h6
      ·exact .inl h6
      ·exact .inr (by rw [h6];simp)
      ·exact .inr (List.mem_cons_of_mem _ h6)
     ·refine .inr ⟨h5,fun h7=>h6 ?_⟩;rcases h7 with h7 | h7
      ·exact .inl (.inl h7)
      ·rcases List.mem_cons.1 h7 with h7 | h7
       ·exact .inl (.inr h7)
       ·exact .inr h7
theorem UM{es:List (Int×Int)}{x:Nat}:∀(l:List Int) (c:List Int) (D:Nat→Prop),OfI es D c→l.Nodup→(∀a∈l,0≤a∧a<(es.length:Int)∧(es.getD a.toNat (0,0)).1=(x:Int) ∧ ¬D a.toNat) → ∃c',xJ es x l (some c)=some c'
 | [],c,_,_,_,_=>⟨c,rfl⟩
 | a::l,c,D,h,hn,ha=>by
  have h0:=ha a (List.mem_cons_self ..);have hn:=List.nodup_cons.1 hn
  have hs:uW es x (some c) a=some (c.set a.toNat 1):=by
   unfold uW;simp only;rw [if_neg];rw [not_or,not_or,not_or];refine ⟨by omega,by omega,fun h=>h h0.2.2.1,fun h4=>?_⟩;rcases h.one a.toNat (by omega) with ⟨_,h5⟩ | ⟨h5,_⟩
   ·exact h0.2.2.2 h5
   ·omega
  have h1':OfI es (fun i=>D i∨(i:Int)=a) (c.set a.toNat 1):=⟨by rw [List.length_set];exact h.len,fun i hi=>by
   rw [List.getD_eq_getElem?_getD,List.getElem?_set];by_cases e2:a.toNat=i
   ·rw [if_pos e2,if_pos (by rw [h.len];omega)];exact .inl ⟨rfl,.inr (by omega)⟩
   ·rw [if_neg e2,←List.getD_eq_getElem?_getD];rcases h.one i hi with ⟨h5,h6⟩ | ⟨h5,h6⟩
    ·exact .inl ⟨h5,.inl h6⟩
    ·exact .inr ⟨h5,fun h7=>by rcases h7 with h7 | h7;exact h6 h7;omega⟩⟩
  show ∃c',xJ es x l (uW es x (some c) a)=some c'
  rw [hs];refine UM l _ _ h1' hn.2 (fun b hb=>?_);obtain ⟨j1,j2,j3,j4⟩:=ha b (List.mem_cons_of_mem _ hb)
  exact ⟨j1,j2,j3,fun h7=>by
   rcases h7 with h7 | h7
   ·exact j4 h7
   ·exact hn.1 (by rw [show a=b by omega];exact hb)⟩
theorem WM{l l':List Int}(h1:l.Nodup)(h2:l'.Nodup)(h:∀a,a∈l↔a∈l'):l.Perm l':=(List.perm_ext_iff_of_nodup h1 h2).2 h
theorem XV{es:List (Int×Int)}{outs:List (List Int)}(hin:∀i,i<es.length → ∃t:Nat,(es.getD i (0,0)).1=(t:Int)∧t<outs.length):Ya es outs=true↔zO outs.length es outs:=by
 have key:∀k,k≤outs.length → ∀c,uZ es outs k=some c→OfI es (fun i=>∃x,x<k∧(i:Int)∈outs.getD x []) c ∧ ∀x,x<k→(outs.getD x []).Nodup ∧ ∀a∈outs.getD x [],0≤a∧a<(es.length:Int)∧(es.getD a.toNat (0,0)).1=(x:Int):=by
  intro k
  induction k with
  | zero=>
   intro _ c h;injection h with h;subst h;obtain ⟨h1,h2⟩:=OfI.start es;exact ⟨⟨h1,fun i hi=>(h2 i hi).imp (fun ⟨_,b⟩=>absurd b id) (fun ⟨a,_⟩=>⟨a,fun ⟨x,hx,_⟩=>absurd hx (Nat.not_lt_zero _)⟩)⟩,fun x hx=>absurd hx (Nat.not_lt_zero _)⟩
  | succ k ih=>
   intro hk c h;rw [ud] at h
   cases hq:uZ es outs k with
   | none=>rw [hq,JC] at h;cases h
   | some c0=>
    rw [hq] at h;obtain ⟨i1,i2⟩:=ih (by omega) c0 hq;obtain ⟨j1,j2,j3⟩:=aV _ _ _ _ i1 h;refine ⟨⟨j3.len,fun i hi=>?_⟩,fun x hx=>?_⟩
    ·refine (j3.one i hi).imp (fun ⟨a,b⟩=>⟨a,?_⟩) (fun ⟨a,b⟩=>⟨a,fun ⟨x,hx,hm⟩=>b ?_⟩)
     ·rcases b with ⟨x,hx,hm⟩ | b
      ·exact ⟨x,by omega,hm⟩
      ·exact ⟨k,by omega,b⟩
     ·by_cases e:x=k
      ·subst e;exact .inr hm
      ·exact .inl ⟨x,by omega,hm⟩
    ·by_cases e:x=k
     ·subst e;exact ⟨j1,fun a ha=>⟨(j2 a ha).1,(j2 a ha).2.1,(j2 a ha).2.2.1⟩⟩
     ·exact i2 x (by omega)
 constructor
 ·intro h;unfold Ya at h
  cases hq:uZ es outs outs.length with
  | none=>rw [hq] at h;cases h
  | some c=>
   rw [hq] at h;obtain ⟨i1,i2⟩:=key _ (Nat.le_refl _) c hq;intro x hx;refine WM (i2 x hx).1 (vq _ _ _ _) (fun a=>?_);rw [ql];constructor
   ·intro ha;obtain ⟨h1,h2,h3⟩:=(i2 x hx).2 a ha;exact ⟨a.toNat,by omega,by omega,h3⟩
   ·rintro ⟨i,rfl,hi,ht⟩;rcases i1.one i hi with ⟨_,y,hy,hm⟩ | ⟨h0,_⟩
    ·have:=((i2 y hy).2 _ hm).2.2;rw [Int.toNat_natCast,ht] at this;rw [show x=y by omega];exact hm
    ·exfalso;have hil:i<c.length:=by rw [i1.len];exact hi
     have:=List.all_eq_true.1 h c[i] (List.getElem_mem hil);rw [List.getD_eq_getElem?_getD,List.getElem?_eq_getElem hil] at h0;simp at this;exact this h0
 ·intro h
  have can:∀k,k≤outs.length → ∃c,uZ es outs k=some c:=by
   intro k
   induction k with
   | zero=>intro _;exact ⟨_,rfl⟩
   | succ k ih=>
    intro hk;obtain ⟨c0,hq⟩:=ih (by omega);obtain ⟨i1,i2⟩:=key k (by omega) c0 hq;rw [ud,hq];have hp:=h k (by omega);refine UM _ _ _ i1 (hp.nodup_iff.2 (vq _ _ _ _)) (fun a ha=>?_);obtain ⟨i,rfl,hi,ht⟩:=ql.1 (hp.mem_iff.1 ha);refine ⟨by omega,by omega,by rw [Int.toNat_natCast];exact ht,fun ⟨y,hy,hm⟩=>?_⟩;have:=((i2 y hy).2 _ hm).2.2;rw [Int.toNat_natCast,Int.toNat_natCast,ht] at this;omega
  obtain ⟨c,hq⟩:=can _ (Nat.le_refl _);obtain ⟨i1,_⟩:=key _ (Nat.le_refl _) c hq;unfold Ya;rw [hq];refine List.all_eq_true.2 fun z hz=>?_;obtain ⟨i,hi,rfl⟩:=List.mem_iff_getElem.1 hz;have hil:i<es.length:=by rw [←i1.len];exact hi
  rcases i1.one i hil with ⟨h1,_⟩ | ⟨_,h1⟩
  ·rw [List.getD_eq_getElem?_getD,List.getElem?_eq_getElem hi,Option.getD_some] at h1;rw [h1];rfl
  ·exfalso;obtain ⟨t,ht,htl⟩:=hin i hil;exact h1 ⟨t,htl,(h t htl).mem_iff.2 (ql.2 ⟨i,rfl,hil,ht⟩)⟩
end Go.Proofs.YtneeknlhlkpnpaaGreat
namespace Go.Proofs.YtneeknlhlkpnpaaGreat
open Go.RowKit
set_option maxRecDepth 20000 in
set_option maxHeartbeats 2000000 in
theorem gJ(A:Option Addr)(c:Nat)(l:List Int)(n:Nat)(w:World)(h:jr w w.heap.size A (jf l))(hl:l.length≤10000)(hn:n≤10000) :
  Calls Tryz.prog 154 #[.slice A l.length c,.int .i64 n] w (fun e w'=>e = .returned (.bool (JO l n))∧w=w'):=by
 have H:=Lib.hid h;clear h
 go_enter Tryz.func154,Tryz.ntmps154
 by_cases he:l.length=n
 case neg=>
  have he':((l.length:Int) != (n:Int))=true:=by rw [bne_iff_ne];omega
  have HR:=Lib.hid (show JO l n=false by unfold JO;rw [decide_eq_false he,Bool.false_and]);clear he;go_wp2_with fail;go_ret;exact ⟨jx HR.out.symm,rfl⟩
 have he':((l.length:Int) != (n:Int))=false:=by rw [he];simp
 have HR:=Lib.hid (show JO l n=Yo l n by unfold JO;rw [decide_eq_true he,Bool.true_and]);have HE:=Lib.hid he;clear he;go_wp2_with fail;clear he'
 go_loopg [5] n (fun k s5 wr=>∃i:Nat,s5 = .int .i64 i∧i≤n∧k=n-i∧w=wr∧Yo l i=true)
 case atStart=>exact ⟨0,rfl,Nat.zero_le _,rfl,rfl,rfl⟩
 case round=>
  obtain ⟨i,rfl,hi,hk,rfl,ht⟩:=hrel;have Hk:=Lib.hid hk;have HT:=Lib.hid ht;clear hk ht;by_cases hlt:i<n
  ·have hlt':(i:Int)<n:=by omega
   have hx:=ZC (l:=l) (v:=(i:Int));have HS:=Lib.hid (dC l i);have HH:=Lib.hid (eY A c l (i:Int) w H.out (by omega));obtain ⟨q,hq⟩:∃q,q=xX l (i:Int):=⟨_,rfl⟩;rw [←hq] at HH HS hx;obtain ⟨_,hx1,hx2⟩:=hx;clear hq;go_wp2_with fail;refine HH.out.mono ?_;rintro e w2 ⟨rfl,rfl⟩;clear HH;by_cases h0:0≤q
   ·have h0':¬q<0:=by omega
    have HN:=Lib.hid (show Yo l (i+1)=true by rw [HS.out,HT.out,Bool.true_and];exact decide_eq_true h0);clear h0;go_wp2_with fail
    go_roundg (n-(i+1))
    case measure=>rw [Hk.out];omega
    case rel=>exact ⟨i+1,by go_num,by omega,rfl,rfl,HN.out⟩
   ·have h0':q<0:=by omega
    have HN:=Lib.hid (show JO l n=false by
     rw [HR.out]
     exact dD (i:=i+1) (by rw [HS.out,HT.out,Bool.true_and];exact decide_eq_false h0) (by omega))
    clear h0;go_wp2_with fail;go_ret;exact ⟨jx HN.out.symm,rfl⟩
  ·have hlt':¬(i:Int)<n:=by omega
   have HN:=Lib.hid (show JO l n=true by rw [HR.out,show n=i by omega];exact HT.out);go_wp2_with fail;go_ret;exact ⟨jx HN.out.symm,rfl⟩
noncomputable def xT(n:Int)(es:List (Int×Int))(ord:List Int)(outs:List (List Int)):Bool:=
 xz n es&&(JO ord n.toNat&&(decide ((outs.length:Int)=n)&&Ya es outs))
set_option maxRecDepth 20000 in
set_option maxHeartbeats 8000000 in
theorem gz(n:Int)(A O U:Option Addr)(cap co cu:Nat)(es:List (Int×Int))(ord:List Int)(outs:List (List Int))(w:World)(hes:jr w w.heap.size A (jA es))(hO:jr w w.heap.size O (jf ord))(hU:qm w w.heap.size U outs)(hl:es.length≤500)(hol:∀l∈outs,l.length≤1000)(hord:ord.length≤1000) :
  Calls Tryz.prog 116 #[.agg #[.int .i64 n,.slice A es.length cap],.agg #[.slice O ord.length co,.slice U outs.length cu]] w (fun e w'=>e = .returned (.bool (xT n es ord outs))∧Below w.heap.size w w'):=by
 obtain ⟨wb,hwb⟩:∃wb,wb=w.alloc (.cells #[.int .i64 n,.slice A es.length cap] 24):=⟨_,rfl⟩;have hb0:Below w.heap.size w wb:=by rw [hwb];exact (Below.refl _ _).alloc (Nat.le_refl _) _
 have hz0:wb.heap.size=w.heap.size+1:=by rw [hwb];simp
 have hGB:Blk wb w.heap.size 24 #[.int .i64 n,.slice A es.length cap]:=by rw [hwb];exact Blk.new _ _ _
 have S1:=Lib.hid (PlanS.start (w:=wb) co cu ((hO.below hb0).more hb0.size) ((hU.below hb0).more hb0.size));have HES0:=Lib.hid ((hes.below hb0).more hb0.size);have HGB0:=Lib.hid hGB;have HB0:=Lib.hid hb0;have HOL:=Lib.hid hol;have HF0:=Lib.hid (show xT n es ord outs=(xz n es&&(JO ord n.toNat&&(decide ((outs.length:Int)=n)&&Ya es outs))) from rfl);clear hes hO hU hol hGB hb0
 go_enter Tryz.func116,Tryz.ntmps116
 go_upto_region 1 with fail
 rw [←hwb];obtain ⟨gG,hgG⟩:∃g,g=w.heap.size:=⟨_,rfl⟩;obtain ⟨gP,hgP⟩:∃g,g=wb.heap.size:=⟨_,rfl⟩;rw [←hgP] at S1;rw [←hgG] at HGB0;have hb1:=S1.out.bel;have HGB1:=Lib.hid (HGB0.out.below hb1 HGB0.out.lt);have HES1:=Lib.hid ((HES0.out.below hb1).more hb1.size)
 try rw [show w.heap.size+1=gP by omega]
 try rw [←hgP]
 rw [←hgG];obtain ⟨w1,hw1⟩:∃w1,w1=wb.alloc (.cells #[.slice O ord.length co,.slice U outs.length cu] 28):=⟨_,rfl⟩;rw [←hw1] at S1 HGB1 HES1 hb1 ⊢;have HB1:=Lib.hid (HB0.out.trans (hb1.mono HB0.out.size));have hgw1:gG<w1.heap.size:=HGB1.out.lt;clear hw1 hwb hgG hgP hz0 hb1;have g0:=HGB1.out.cell 0;have g1:=HGB1.out.cell 1;simp only [List.getElem?_toArray,List.getElem?_cons_zero,List.getElem?_cons_succ] at g0 g1;go_wp2_with fail;refine (ZE n A cap es w1 HES1.out).mono ?_;rintro e w2 ⟨rfl,hb2⟩;have SP2:=Lib.hid (S1.out.next hb2);have HGB2:=Lib.hid (HGB1.out.below hb2 hgw1);have HES2:=Lib.hid ((HES1.out.below hb2).more hb2.size);have HB2:=Lib.hid (HB1.out.trans (hb2.mono HB1.out.size));clear hb2 g0 g1 hgw1;have g0:=HGB2.out.cell 0;have g1:=HGB2.out.cell 1;have p0:=SP2.out.p0;have p1:=SP2.out.p1;have hgl2:=SP2.out.b.lt;simp only [List.getElem?_toArray,List.getElem?_cons_zero,List.getElem?_cons_succ] at g0 g1
 cases hg:xz n es with
 | false=>
  have HFX:=Lib.hid (show xT n es ord outs=false by rw [HF0.out,hg,Bool.false_and]);clear hg;go_wp2_with fail;go_ret;exact ⟨jx HFX.out.symm,HB2.out⟩
 | true=>
 have HGOOD:=Lib.hid (jB.1 hg:GoodP n es);have HF1:=Lib.hid (show xT n es ord outs=(JO ord n.toNat&&(decide ((outs.length:Int)=n)&&Ya es outs)) by rw [HF0.out,hg,Bool.true_and]);clear hg;obtain ⟨N,rfl⟩:∃N:Nat,n=(N:Int):=⟨n.toNat,by have:=(jP HGOOD.out.may).1;omega⟩;rw [Int.toNat_natCast] at HF1;have hN64:N≤64:=by have:=(jP HGOOD.out.may).2.1;omega
 have HEA:=Lib.hid (gJ O co ord N w2 SP2.out.o (by omega) (by omega));obtain ⟨eb,heb⟩:∃eb,eb=JO ord N:=⟨_,rfl⟩;rw [←heb] at HEA HF1;clear heb;go_wp2_with fail;refine HEA.out.mono ?_;rintro e w3 ⟨rfl,rfl⟩;clear HEA
 cases eb with
 | false=>
  have HFX:=Lib.hid (show xT N es ord outs=false by rw [HF1.out,Bool.false_and]);go_wp2_with fail;go_ret;exact ⟨jx HFX.out.symm,HB2.out⟩
 | true=>
 by_cases hon:(outs.length:Int)=(N:Int)
 case neg=>
  have hon':((outs.length:Int) != (N:Int))=true:=by rw [bne_iff_ne];exact hon
  have HFX:=Lib.hid (show xT N es ord outs=false by rw [HF1.out,decide_eq_false hon];rfl);clear hon;go_wp2_with fail;go_ret;exact ⟨jx HFX.out.symm,HB2.out⟩
 have hon':((outs.length:Int) != (N:Int))=false:=by rw [bne_eq_false_iff_eq];exact hon
 have HF2:=Lib.hid (show xT N es ord outs=Ya es outs by rw [HF1.out,decide_eq_true hon,Bool.true_and,Bool.true_and]);have HFD:=Lib.hid (show Ya es outs=(match uZ es outs outs.length with | none=>false | some c=>c.all fun z=>decide (z≠0)) from rfl);have hon64:outs.length≤64:=by omega
 clear hon;have hmk:=fun W=>yz qz rfl es.length (by omega) (by omega) W
 have HC0:=Lib.hid (show Blk (w2.alloc (.cells (Array.replicate es.length (Value.int .i64 0)) 3)) w2.heap.size 3 (jf (List.replicate es.length 0)).toArray from by
  have:=Blk.new w2 3 (Array.replicate es.length (Value.int .i64 0));have e:(jf (List.replicate es.length 0)).toArray=Array.replicate es.length (Value.int .i64 0):=by simp [jf]
  rw [e]
  exact this)
 have hb3:=(Below.refl w2.heap.size w2).alloc (Nat.le_refl _) (.cells (Array.replicate es.length (Value.int .i64 0)) 3);have HB23:=Lib.hid hb3;have HRO:=Lib.hid (show qm w2 w2.heap.size U outs from SP2.out.u);have HMB:=Lib.hid (show ∀c,uZ es outs 0=some c→c=List.replicate es.length 0 from fun c h=>by injection h with h;exact h.symm)
 go_upto_region 4 with fail
 clear g0 g1 p0 p1 hmk hb3;obtain ⟨gc,hgc⟩:∃g,g=w2.heap.size:=⟨_,rfl⟩;rw [←hgc] at HC0 ⊢;have HGC:=Lib.hid hgc;generalize w2.alloc (.cells (Array.replicate es.length (Value.int .i64 0)) 3)=w3 at *
 have HKEEP:=Lib.hid (show ∀wr,Below w2.heap.size w2 wr→wr.cell? ⟨gG,0,none⟩=some (.int .i64 (N:Nat))∧wr.cell? ⟨gG,1,none⟩=some (.slice A es.length cap)∧wr.cell? ⟨gP,0,none⟩=some (.slice O ord.length co)∧wr.cell? ⟨gP,1,none⟩=some (.slice U outs.length cu) from fun wr hb=>by
  have k0:=(HGB2.out.below hb HGB2.out.lt).cell 0;have k1:=(HGB2.out.below hb HGB2.out.lt).cell 1;have k2:=(SP2.out.b.below hb SP2.out.b.lt).cell 0;have k3:=(SP2.out.b.below hb SP2.out.b.lt).cell 1;simp only [List.getElem?_toArray,List.getElem?_cons_zero,List.getElem?_cons_succ] at k0 k1 k2 k3
  exact ⟨k0,k1,k2,k3⟩)
 have hgG2:gG<w2.heap.size:=HGB2.out.lt;clear hgc hon';obtain ⟨g0,g1,p0,p1⟩:=HKEEP.out w3 HB23.out;go_wp2_with fail;clear g0 g1 p0 p1
 go_loopg [6] outs.length (fun k s6 wr=>∃(x:Nat) (c:List Int),s6 = .int .i64 x∧x≤outs.length∧k=outs.length-x∧uZ es outs x=some c∧c.length=es.length∧Below w2.heap.size w2 wr∧Blk wr gc 3 (jf c).toArray ∧ ∀z∈c,0≤z∧z≤1)
 case atStart=>exact ⟨0,_,rfl,Nat.zero_le _,rfl,rfl,by simp,HB23.out,HC0.out,fun z hz=>by rw [(List.mem_replicate.1 hz).2];omega⟩
 case round=>
  obtain ⟨x,c,rfl,hi,hk,hall,hcl,hbr,hbl,hzs⟩:=hrel;have Hk:=Lib.hid hk;have HBR:=Lib.hid hbr;have HBL:=Lib.hid hbl;have HALL:=Lib.hid hall;have HCL:=Lib.hid hcl;have HZS:=Lib.hid hzs;obtain ⟨g0,g1,p0,p1⟩:=HKEEP.out wr hbr;clear hk hbr hbl hall hcl hzs;by_cases hlt:x<outs.length
  ·have hlt':(x:Int)<outs.length:=by omega
   obtain ⟨bU,oU,eU,hbU,hcU⟩:=HRO.out (by omega);obtain ⟨Al,cl,hcell,hrow⟩:=hcU x hlt;subst eU;have HOLX:=Lib.hid (HOL.out _ (List.getElem_mem hlt));have HLX:=Lib.hid (show outs.getD x []=outs[x] by rw [List.getD_eq_getElem?_getD,List.getElem?_eq_getElem hlt];rfl);obtain ⟨l,hl2⟩:∃l,l=outs[x]:=⟨_,rfl⟩;rw [←hl2] at hcell hrow HOLX HLX;have HROW:=Lib.hid hrow;have HCELL:=Lib.hid hcell;have hll:l.length≤1000:=HOLX.out;have d0:=(HBR.out.cell (p:=⟨bU,oU+x,none⟩) hbU).trans hcell;clear hcU hrow hcell hl2;go_wp2_with fail;obtain ⟨wo,rfl⟩:∃wo,wo=wr:=⟨wr,rfl⟩;clear g0 g1 p0 p1 d0
   go_loopg [7] l.length (fun k s7 wr=>∃(j:Nat) (c':List Int),s7 = .int .i64 j∧j≤l.length∧k=l.length-j∧xJ es x (l.take j) (some c)=some c'∧c'.length=es.length∧Below w2.heap.size w2 wr∧Blk wr gc 3 (jf c').toArray ∧ ∀z∈c',0≤z∧z≤1)
   case atStart=>exact ⟨0,c,rfl,Nat.zero_le _,rfl,rfl,HCL.out,HBR.out,HBL.out,HZS.out⟩
   case round=>
    obtain ⟨j,c',rfl,hj,hk2,hrw,hcl',hbr',hbl',hzs'⟩:=hrel;have Hk2:=Lib.hid hk2;have HBR':=Lib.hid hbr';have HBL':=Lib.hid hbl';have HRW:=Lib.hid hrw;have HCL':=Lib.hid hcl';have HZS':=Lib.hid hzs';obtain ⟨g0,g1,p0,p1⟩:=HKEEP.out wr hbr';have d0:=(hbr'.cell (p:=⟨bU,oU+x,none⟩) hbU).trans HCELL.out;clear hk2 hbr' hbl' hrw hcl' hzs';by_cases hjl:j<l.length
    ·have hjl':(j:Int)<l.length:=by omega
     obtain ⟨bl,ol,el,hbl0,hcl0⟩:=HROW.out.ints (by omega);subst el;have d1:=(HBR'.out.cell (p:=⟨bl,ol+j,none⟩) hbl0).trans (hcl0 j hjl);have HST:=Lib.hid (show xJ es x (l.take (j+1)) (some c)=uW es x (some c') l[j] by rw [cT hjl,HRW.out]);have HSD:=Lib.hid (show ∀i,uW es x (some c') i=if i<0∨(es.length:Int)≤i∨(es.getD i.toNat (0,0)).1≠(x:Int)∨c'.getD i.toNat 0>0 then none else some (c'.set i.toNat 1) from fun i=>rfl)
     have HDEAD:=Lib.hid (show xJ es x (l.take (j+1)) (some c)=none→xT N es ord outs=false from fun h=>by
      have h1:=cU h;rw [←HLX.out,←HALL.out,←ud] at h1
      rw [HF2.out,HFD.out,cV h1 hlt])
     generalize l[j]=iv at *;clear hcl0;have HBZ:=Lib.hid (HB2.out.trans (HBR'.out.mono HB2.out.size));by_cases hi0:iv<0
     ·have HFX:=Lib.hid (HDEAD.out (by rw [HST.out,HSD.out,if_pos (.inl hi0)]));go_wp2_with fail;go_ret;exact ⟨jx HFX.out.symm,HBZ.out⟩
     obtain ⟨i,rfl⟩:∃i:Nat,iv=i:=⟨iv.toNat,by omega⟩;by_cases him:i<es.length
     case neg=>
      have him':(es.length:Int)≤(i:Int):=by omega
      have HFX:=Lib.hid (HDEAD.out (by rw [HST.out,HSD.out,if_pos (.inr (.inl him'))]));clear him;go_wp2_with fail;go_ret;exact ⟨jx HFX.out.symm,HBZ.out⟩
     have him':(i:Int)<(es.length:Int):=by omega
     have him2:¬(es.length:Int)≤(i:Int):=by omega
     obtain ⟨be,oe,eE,hbe,hce⟩:=HES2.out.edges (by omega);subst eE;have zz:=(hce i him).1;have z0:=(HBR'.out.cell (p:=⟨be,oe+i*2,none⟩) hbe).trans zz;have hge:(es.getD i (0,0)).1=es[i].1:=by rw [List.getD_eq_getElem?_getD,List.getElem?_eq_getElem him];rfl
     have HSD2:=Lib.hid (HSD.out (i:Int));rw [Int.toNat_natCast,hge] at HSD2;obtain ⟨tv,htv⟩:∃tv,tv=es[i].1:=⟨_,rfl⟩;rw [←htv] at z0 HSD2;clear zz hce hge htv;by_cases htx:tv=(x:Int)
     case neg=>
      have htx':(tv != (x:Int))=true:=by rw [bne_iff_ne];exact htx
      have HFX:=Lib.hid (HDEAD.out (by rw [HST.out,HSD2.out,if_pos (.inr (.inr (.inl htx)))]));clear htx;go_wp2_with fail;go_ret;exact ⟨jx HFX.out.symm,HBZ.out⟩
     have htx':(tv != (x:Int))=false:=by rw [bne_eq_false_iff_eq];exact htx
     have hic:i<c'.length:=by rw [HCL'.out];exact him
     have cc:=HBL'.out.int_ (k:=i) hic;have fc:=HBL'.out.frozen i
     have hzv:=HZS'.out (c'.getD i 0) (by
      rw [List.getD_eq_getElem?_getD,List.getElem?_eq_getElem hic]
      exact List.getElem_mem _)
     obtain ⟨cv,hcv⟩:∃cv,cv=c'.getD i 0:=⟨_,rfl⟩;rw [←hcv] at cc HSD2 hzv;clear hcv hic;by_cases hc0:cv>0
     ·have hc0':(0:Int)<cv:=by omega
      have HFX:=Lib.hid (HDEAD.out (by rw [HST.out,HSD2.out,if_pos (.inr (.inr (.inr hc0)))]));clear htx hc0;go_wp2_with fail;go_ret;exact ⟨jx HFX.out.symm,HBZ.out⟩
     ·have hc0':¬(0:Int)<cv:=by omega
      have HNX:=Lib.hid (show xJ es x (l.take (j+1)) (some c)=some (c'.set i 1) by
       rw [HST.out,HSD2.out,if_neg];rw [not_or,not_or,not_or]
       exact ⟨hi0,by omega,fun h=>h htx,hc0⟩)
      have HN1:=Lib.hid (HBL'.out.setInt i 1);have HNB:=Lib.hid (HBR'.out.setCell (p:=⟨gc,i,none⟩) (Nat.le_of_eq HGC.out.symm) (.int .i64 1));have HNL:=Lib.hid (show (c'.set i 1).length=es.length by rw [List.length_set];exact HCL'.out)
      have HNZ:=Lib.hid (show ∀z∈c'.set i 1,0≤z∧z≤1 from fun z hz=>by
       rcases List.mem_or_eq_of_mem_set hz with h | h
       ·exact HZS'.out z h
       ·omega)
      clear htx hc0 hi0 him;go_wp2_with fail
      go_roundg (l.length-(j+1))
      case measure=>rw [Hk2.out];omega
      case rel=>exact ⟨j+1,_,by go_num,by omega,rfl,HNX.out,HNL.out,HNB.out,HN1.out,HNZ.out⟩
    ·have hjl':¬(j:Int)<l.length:=by omega
     have HNX:=Lib.hid (show uZ es outs (x+1)=some c' by
      have h1:=HRW.out;rw [List.take_of_length_le (by omega)] at h1;rw [ud,HALL.out,HLX.out]
      exact h1)
     go_wp2_with fail
     go_roundg (outs.length-(x+1))
     case measure=>rw [Hk.out];omega
     case rel=>exact ⟨x+1,c',by go_num,by omega,rfl,HNX.out,HCL'.out,HBR'.out,HBL'.out,HZS'.out⟩
  ·have hlt':¬(x:Int)<outs.length:=by omega
   have HFX:=Lib.hid (show xT N es ord outs=c.all fun z=>decide (z≠0) by
    have h1:=HALL.out;rw [show x=outs.length by omega] at h1
    rw [HF2.out,HFD.out,h1])
   have HBZ:=Lib.hid (HB2.out.trans (HBR.out.mono HB2.out.size));go_wp2_with fail;clear g0 g1 p0 p1
   go_loopg [9] es.length (fun k s9 wz=>∃i:Nat,s9 = .int .i64 i∧i≤es.length∧k=es.length-i∧wr=wz ∧ ∀j,j<i→c.getD j 0≠0)
   case atStart=>exact ⟨0,rfl,Nat.zero_le _,rfl,rfl,fun j h=>absurd h (Nat.not_lt_zero _)⟩
   case round=>
    obtain ⟨i,rfl,hi2,hk2,rfl,hno⟩:=hrel;have Hk2:=Lib.hid hk2;have HNO:=Lib.hid hno;clear hk2 hno;by_cases hil:i<es.length
    ·have hil':(i:Int)<es.length:=by omega
     have hic:i<c.length:=by rw [HCL.out];exact hil
     have cc:=HBL.out.int_ (k:=i) hic
     have HMEM:=Lib.hid (show c.getD i 0∈c by
      rw [List.getD_eq_getElem?_getD,List.getElem?_eq_getElem hic]
      exact List.getElem_mem _)
     obtain ⟨cv,hcv⟩:∃cv,cv=c.getD i 0:=⟨_,rfl⟩;rw [←hcv] at cc HMEM;clear hic;by_cases hz0:cv=0
     ·have hz0':(cv==0)=true:=by rw [hz0];rfl
      have HFY:=Lib.hid (show xT N es ord outs=false by
       rw [HFX.out,List.all_eq_false]
       exact ⟨cv,HMEM.out,by simp [hz0]⟩)
      clear hz0 hcv;go_wp2_with fail;go_ret;exact ⟨jx HFY.out.symm,HBZ.out⟩
     ·have hz0':(cv==0)=false:=by rw [beq_eq_false_iff_ne];exact hz0
      have HNX:=Lib.hid (show ∀q,q<i+1→c.getD q 0≠0 from fun q hq=>by
       by_cases e:q=i
       ·subst e;rw [←hcv];exact hz0
       ·exact HNO.out q (by omega))
      clear hz0 hcv;go_wp2_with fail
      go_roundg (es.length-(i+1))
      case measure=>rw [Hk2.out];omega
      case rel=>exact ⟨i+1,by go_num,by omega,rfl,rfl,HNX.out⟩
    ·have hil':¬(i:Int)<es.length:=by omega
     have HFY:=Lib.hid (show xT N es ord outs=true by
      rw [HFX.out];refine List.all_eq_true.2 fun z hz=>?_;obtain ⟨q,hq,rfl⟩:=List.mem_iff_getElem.1 hz;have h9:=HNO.out q (by have:=HCL.out;omega);rw [List.getD_eq_getElem?_getD,List.getElem?_eq_getElem hq,Option.getD_some] at h9
      exact decide_eq_true h9)
     go_wp2_with fail;go_ret;exact ⟨jx HFY.out.symm,HBZ.out⟩
end Go.Proofs.YtneeknlhlkpnpaaGreat
namespace Go.Proofs.YtneeknlhlkpnpaaGreat
open Go.RowKit
theorem ZO{l l':List Int}(h:l.Perm l')(hp:l'.Pairwise (· ≤ ·)):l.mergeSort leI=l':=by
 have h1:=List.pairwise_mergeSort (le:=leI) (fun a b c h k=>by unfold leI at *;simp at *;omega) (fun a b=>by unfold leI;simp;omega) l;refine List.Perm.eq_of_pairwise (le:=(· ≤ ·)) (fun a b _ _ h k=>Int.le_antisymm h k) (h1.imp fun h=>by unfold leI at h;simpa using h) hp ((List.mergeSort_perm l leI).trans h)
theorem XL(n:Nat):(upI n).Pairwise (· ≤ ·):=by
 unfold upI;rw [List.pairwise_map];exact List.pairwise_lt_range.imp fun h=>by omega
theorem kF(es:List (Int×Int))(f:Int×Int→Int)(x:Int):∀k,(jK es f x k).Pairwise (· ≤ ·)
 | 0=>List.Pairwise.nil
 | k+1=>by
  show (jK es f x k++_).Pairwise (· ≤ ·)
  rw [List.pairwise_append];refine ⟨kF es f x k,by split<;>simp,fun a ha b hb=>?_⟩;obtain ⟨i,rfl,h2,_⟩:=ql.1 ha
  split at hb
  ·rw [List.mem_singleton.1 hb];omega
  ·cases hb
theorem Qg:∀(l l':List Int),l.Nodup→l⊆l'→l'.length≤l.length→l.Perm l'
 | [],l',_,_,h=>by
  rw [List.length_eq_zero_iff.1 (show l'.length=0 by simpa using h)]
 | a::l,l',hn,hs,h=>by
  have hn:=List.nodup_cons.1 hn;have ha:=hs (List.mem_cons_self ..);have hp:=List.perm_cons_erase ha;have hl:=hp.length_eq;simp only [List.length_cons] at hl h;refine List.Perm.trans (List.Perm.cons a ?_) hp.symm;refine Qg l (l'.erase a) hn.2 (fun b hb=>?_) (by omega);exact (List.mem_erase_of_ne (fun e=>hn.1 (by rw [←e];exact hb))).2 (hs (List.mem_cons_of_mem _ hb))
theorem bR{l:List Int}{n:Nat}:JO l n=true↔l.length=n∧l.mergeSort leI=upI n:=by
 unfold JO Yo;rw [Bool.and_eq_true,decide_eq_true_eq];constructor
 ·rintro ⟨h1,h2⟩;refine ⟨h1,ZO (Qg (upI n) l ?_ (fun a ha=>?_) (by rw [XM];omega)).symm (XL n)⟩
  ·unfold upI;rw [List.nodup_iff_pairwise_ne,List.pairwise_map];exact List.pairwise_lt_range.imp fun h e=>by omega
  ·obtain ⟨x,hx,rfl⟩:=List.mem_map.1 ha;have:=List.all_eq_true.1 h2 x hx;exact ZC.1.1 (of_decide_eq_true this)
 ·rintro ⟨h1,h2⟩;refine ⟨h1,List.all_eq_true.2 fun x hx=>decide_eq_true (ZC.1.2 ?_)⟩;have hp:=List.mergeSort_perm l leI;rw [h2] at hp;exact hp.mem_iff.1 (List.mem_map.2 ⟨x,hx,rfl⟩)
theorem UN{n:Int}{es:List (Int×Int)}{ord:List Int}{outs:List (List Int)}:xT n es ord outs=true↔GoodP n es∧ofB n.toNat es ord outs=true:=by
 unfold xT;simp only [Bool.and_eq_true,decide_eq_true_eq];constructor
 ·rintro ⟨h1,h2,h3,h4⟩;have hg:GoodP n es:=jB.1 h1;obtain ⟨N,rfl⟩:∃N:Nat,n=(N:Int):=⟨n.toNat,by have:=(jP hg.may).1;omega⟩;rw [Int.toNat_natCast] at *;have hN:outs.length=N:=by omega
  obtain ⟨e1,e2⟩:=bR.1 h2
  have hO:=(XV (fun i hi=>by
   obtain ⟨t,u,e,ht,_⟩:=(kq hg.may).at_ hi
   exact ⟨t,by rw [List.getD_eq_getElem?_getD,List.getElem?_eq_getElem hi,Option.getD_some,e],by omega⟩)).1 h4
  refine ⟨hg,kp.2 ⟨hN,e1,e2,fun x hx=>ZO (hO x (by omega)) (kF _ _ _ _)⟩⟩
 ·rintro ⟨hg,h⟩;obtain ⟨N,rfl⟩:∃N:Nat,n=(N:Int):=⟨n.toNat,by have:=(jP hg.may).1;omega⟩;rw [Int.toNat_natCast] at *;obtain ⟨h1,h2,h3,h4⟩:=kp.1 h
  refine ⟨jB.2 hg,bR.2 ⟨h2,h3⟩,by omega,(XV (fun i hi=>by
   obtain ⟨t,u,e,ht,_⟩:=(kq hg.may).at_ hi
   exact ⟨t,by rw [List.getD_eq_getElem?_getD,List.getElem?_eq_getElem hi,Option.getD_some,e],by omega⟩)).2 (fun x hx=>?_)⟩
  rw [←h4 x (by omega)];exact (List.mergeSort_perm _ leI).symm
theorem fX{N:Nat}{es:List (Int×Int)}{ord:List Int}{outs:List (List Int)}(h:ofB N es ord outs=true){i:Nat}{r:List Itm}{pl:List Int}{en:List (List Itm)}(hr:Qd N es outs (ord.take i)=some (r,pl,en)):zO N es outs∧SwI N es outs r pl en∧r.length≤es.length+N:=by
 obtain ⟨h1,h2,h3,h4⟩:=kp.1 h;have hperm:ord.Perm (upI N):=by rw [←h3];exact (List.mergeSort_perm ord leI).symm
 have hnat:ord=yd (ord.map Int.toNat):=by
  unfold yd;rw [List.map_map]
  conv=>lhs;rw [←List.map_id ord]
  apply List.map_congr_left;intro a ha;have:=hperm.mem_iff.1 ha;unfold upI at this;obtain ⟨k,_,rfl⟩:=List.mem_map.1 this;rfl
 have hO:zO N es outs:=fun x hx=>by rw [←h4 x hx];exact (List.mergeSort_perm _ leI).symm
 have ht:ord.take i=yd ((ord.map Int.toNat).take i):=by
  conv=>lhs;rw [hnat]
  unfold yd;rw [List.map_take]
 unfold Qd at hr;rw [ht] at hr;have hw:=(Jc _ _).1 hr
 have hI:=hw.inv (N:=N) (fun x hx=>by
  have hx:=List.mem_of_mem_take hx;obtain ⟨a,ha,rfl⟩:=List.mem_map.1 hx;have:=hperm.mem_iff.1 ha;obtain ⟨k,hk,rfl⟩:=List.mem_map.1 this;have:=List.mem_range.1 hk;rw [Int.toNat_natCast]
  exact this) SwI.start
 refine ⟨hO,hI,?_⟩
 have hsub:r⊆(List.range es.length).map (itE es)++(List.range N).map (fun x:Nat=>((-1,(x:Int),-1):Itm)):=fun e he=>by
  rcases hI.item hO (List.mem_append_left _ he) with ⟨j,hj,_,rfl⟩ | ⟨x,hx,_,rfl⟩
  ·exact List.mem_append_left _ (List.mem_map.2 ⟨j,List.mem_range.2 hj,rfl⟩)
  ·have:=hI.pln _ hx;exact List.mem_append_right _ (List.mem_map.2 ⟨x,List.mem_range.2 (by omega),rfl⟩)
 have:=List.Nodup.length_le_of_subset (List.nodup_append.1 (hI.nodup hO)).1 hsub;simpa using this
theorem SwI.itmP{N:Nat}{es:List (Int×Int)}{outs:List (List Int)}{r:List Itm}{pl:List Int}{en:List (List Itm)}(hI:SwI N es outs r pl en)(hO:zO N es outs)(hin:InN N es):∀e∈r,fE es e:=fun e he=>by
 rcases hI.item hO (List.mem_append_left _ he) with ⟨j,hj,_,rfl⟩ | ⟨x,_,_,rfl⟩
 ·refine .inl ⟨by simp only [itE];omega,by simp only [itE];omega,by simp only [itE,Int.toNat_natCast],?_⟩;obtain ⟨t,u,e,_,_⟩:=hin.at_ hj;simp only [itE];rw [List.getD_eq_getElem?_getD,List.getElem?_eq_getElem hj,Option.getD_some,e];exact Int.natCast_nonneg u
 ·exact .inr ⟨rfl,rfl⟩
end Go.Proofs.YtneeknlhlkpnpaaGreat
namespace Go.Proofs.YtneeknlhlkpnpaaGreat
open Go.RowKit
theorem Jw{fn:Func}{t u v z:Tmp}(h:fn.results = #[.tmp t,.tmp u,.tmp v,.tmp z])(tmps:Array Value)(P:Program)(w:World) :
  (results fn tmps).run P w = .ok (.tuple #[tmps.getD t undef,tmps.getD u undef,tmps.getD v undef,tmps.getD z undef]) w:=by
 simp [results,h]
theorem EndsW.but{w w':World}{base ge g:Nat}{en:List (List Itm)}(h:EndsW w base ge en)(hb:But [g] w w')(hg:g<base):EndsW w' base ge en:=by
 have h0:=h.g;obtain ⟨vs,h1,h2,h3⟩:=h.st;refine ⟨h0,vs,h1,hb.blk h2 (by simp only [List.mem_singleton];omega),fun k k1 k2=>yF (h3 k k1 k2) hb (fun i hi=>by simp only [List.mem_singleton] at hi;omega)⟩
theorem RFrt.set_{w:World}{g ge:Nat}{n:Int}{A:Option Addr}{cap:Nat}{es:List (Int×Int)}{r:List Itm}{pl:List Int}{cs:Array Value}(h:RFrt w g n A cap es r pl)(hb:Blk w ge 41 cs)(hg:g<ge)(i:Nat)(v:Value):RFrt (w.setCell ⟨ge,i,none⟩ v) g n A cap es r pl:=by
 have hgl:=h.lt;have he:=Evo.set_ (B:=g+1) (T:=[41]) hb (List.mem_singleton.2 rfl) (by omega) i v;obtain ⟨vr,vp,h1,h2,h3⟩:=h.st;exact ⟨h.ec.keep (fun p hp=>World.cell?_of_block (Below.heap_setCell _ _ _ _ (by simp only;omega))),vr,vp,h1.evo he (.inr (by decide)),qA h2 he (by decide),qA h3 he (by decide)⟩
def iT(n:Int)(es:List (Int×Int))(ord:List Int)(outs:List (List Int))(w:World)(e:Ending)(w':World):Prop:=
 Below w.heap.size w w'∧((∃en V R,GoodP n es∧xk n.toNat es ord outs=some en∧en.length=n.toNat∧e = .returned (.tuple #[.slice (some ⟨V,0,none⟩) n.toNat n.toNat,R,.int .i64 0,.int .i64 0])∧yO w' w'.heap.size (some ⟨V,0,none⟩) en) ∨
  (¬(GoodP n es∧(xk n.toNat es ord outs).isSome=true) ∧ ∃c a,c≠0∧e = .returned (.tuple #[.slice none 0 0,.slice none 0 0,.int .i64 c,.int .i64 a])))
set_option maxRecDepth 20000 in
set_option maxHeartbeats 8000000 in
theorem gy(n:Int)(A O U:Option Addr)(cap co cu:Nat)(es:List (Int×Int))(ord:List Int)(outs:List (List Int))(w:World)(hes:jr w w.heap.size A (jA es))(hO:jr w w.heap.size O (jf ord))(hU:qm w w.heap.size U outs)(hl:es.length≤500)(hol:∀l∈outs,l.length≤1000)(hord:ord.length≤1000) :
  Calls Tryz.prog 62 #[.agg #[.int .i64 n,.slice A es.length cap],.agg #[.slice O ord.length co,.slice U outs.length cu]] w (iT n es ord outs w):=by
 obtain ⟨wb,hwb⟩:∃wb,wb=w.alloc (.cells #[.int .i64 n,.slice A es.length cap] 24):=⟨_,rfl⟩;have hb0:Below w.heap.size w wb:=by rw [hwb];exact (Below.refl _ _).alloc (Nat.le_refl _) _
 have hz0:wb.heap.size=w.heap.size+1:=by rw [hwb];simp
 have hGB:Blk wb w.heap.size 24 #[.int .i64 n,.slice A es.length cap]:=by rw [hwb];exact Blk.new _ _ _
 have S1:=Lib.hid (PlanS.start (w:=wb) co cu ((hO.below hb0).more hb0.size) ((hU.below hb0).more hb0.size));have HES0:=Lib.hid ((hes.below hb0).more hb0.size);have HGB0:=Lib.hid hGB;have HB0:=Lib.hid hb0;have HOL:=Lib.hid hol;clear hes hO hU hol hGB hb0
 go_enter Tryz.func62,Tryz.ntmps62
 go_upto_region 1 with fail
 rw [←hwb];obtain ⟨gG,hgG⟩:∃g,g=w.heap.size:=⟨_,rfl⟩;obtain ⟨gP,hgP⟩:∃g,g=wb.heap.size:=⟨_,rfl⟩;rw [←hgP] at S1;rw [←hgG] at HGB0;have hb1:=S1.out.bel;have HGB1:=Lib.hid (HGB0.out.below hb1 HGB0.out.lt);have HES1:=Lib.hid ((HES0.out.below hb1).more hb1.size)
 try rw [show w.heap.size+1=gP by omega]
 try rw [←hgP]
 rw [←hgG];obtain ⟨w1,hw1⟩:∃w1,w1=wb.alloc (.cells #[.slice O ord.length co,.slice U outs.length cu] 28):=⟨_,rfl⟩;rw [←hw1] at S1 HGB1 HES1 hb1 ⊢;have HB1:=Lib.hid (HB0.out.trans (hb1.mono HB0.out.size));have hgw1:gG<w1.heap.size:=HGB1.out.lt;clear hw1 hwb hgG hgP hz0 hb1;have g0:=HGB1.out.cell 0;have g1:=HGB1.out.cell 1;have p0:=S1.out.p0;have p1:=S1.out.p1;simp only [List.getElem?_toArray,List.getElem?_cons_zero,List.getElem?_cons_succ] at g0 g1;go_wp2_with fail;refine (gz n A O U cap co cu es ord outs w1 HES1.out S1.out.o S1.out.u hl HOL.out hord).mono ?_;rintro e w2 ⟨rfl,hb2⟩;have SP2:=Lib.hid (S1.out.next hb2);have HGB2:=Lib.hid (HGB1.out.below hb2 hgw1);have HES2:=Lib.hid ((HES1.out.below hb2).more hb2.size);have HB2:=Lib.hid (HB1.out.trans (hb2.mono HB1.out.size));clear hb2 g0 g1 p0 p1 hgw1;have g0:=HGB2.out.cell 0;have g1:=HGB2.out.cell 1;have hgG2:gG<w2.heap.size:=HGB2.out.lt;simp only [List.getElem?_toArray,List.getElem?_cons_zero,List.getElem?_cons_succ] at g0 g1
 cases hob:xT n es ord outs with
 | false=>
  have HNO:=Lib.hid (show ¬(GoodP n es∧(xk n.toNat es ord outs).isSome=true) from fun ⟨h1,h2⟩=>by
   have:ofB n.toNat es ord outs=true:=by
    apply Classical.byContradiction;intro hno;unfold xk at h2;rw [if_neg hno] at h2
    cases h2
   rw [UN.2 ⟨h1,this⟩] at hob
   cases hob)
  clear hob;go_wp2_with fail;refine bodyPost_ret (Jw rfl _ _ _) (by rfl) ?_;exact ⟨HB2.out,.inr ⟨HNO.out,1,0,by decide,rfl⟩⟩
 | true=>
 obtain ⟨hgd,hof⟩:=UN.1 hob;obtain ⟨N,rfl⟩:∃N:Nat,n=(N:Int):=⟨n.toNat,by have:=(jP hgd.may).1;omega⟩;rw [Int.toNat_natCast] at hof;have hN64:N≤64:=by have:=(jP hgd.may).2.1;omega
 have HGD:=Lib.hid hgd;have HOF:=Lib.hid hof;obtain ⟨ho1,ho2,ho3,ho4⟩:=kp.1 hof;have HRO:=Lib.hid (show xk N es ord outs=(Qd N es outs ord).map (·.2.2) by unfold xk;rw [hof];rfl);have HO4:=Lib.hid ho4
 have HORD:=Lib.hid (show ∀x∈ord,∃y:Nat,x=y∧y<N from fun x hx=>by
  have h1:x∈upI N:=by rw [←ho3];exact List.mem_mergeSort.2 hx
  obtain ⟨y,hy,rfl⟩:=List.mem_map.1 h1
  exact ⟨y,rfl,List.mem_range.1 hy⟩)
 have HO12:=Lib.hid (And.intro ho1 ho2);have hin:=kq hgd.may;have HIN:=Lib.hid hin;clear ho1 ho2 ho3 ho4 hob hof hgd hin;obtain ⟨g,hg⟩:∃g,g=w2.heap.size:=⟨_,rfl⟩
 have HFR3:=Lib.hid (show RFrt (w2.alloc (.cells #[.int .i64 (N:Nat),.slice A es.length cap,.slice none 0 0,.slice none 0 0] 168)) g N A cap es [] [] from by
  have hb3:=(Below.refl w2.heap.size w2).alloc (Nat.le_refl _) (.cells #[.int .i64 (N:Nat),.slice A es.length cap,.slice none 0 0,.slice none 0 0] 168);rw [hg]
  exact ⟨HES2.out.below hb3,_,_,Blk.new _ _ _,World.ownsRow_nil _ _ _ _,World.ownsRow_nil _ _ _ _⟩)
 have hb3:=(Below.refl w2.heap.size w2).alloc (Nat.le_refl _) (.cells #[.int .i64 (N:Nat),.slice A es.length cap,.slice none 0 0,.slice none 0 0] 168);have HB23:=Lib.hid hb3;have hmk:=fun W=>yz Wq rfl N (by omega) (by omega) W;have hz3:=World.size_alloc w2 (.cells #[.int .i64 (N:Nat),.slice A es.length cap,.slice none 0 0,.slice none 0 0] 168)
 go_upto_region 4 with fail
 rw [←hg];clear g0 g1 hb3;generalize w2.alloc (.cells #[.int .i64 (N:Nat),.slice A es.length cap,.slice none 0 0,.slice none 0 0] 168)=w3 at *;obtain ⟨ge,hge⟩:∃ge,ge=w3.heap.size:=⟨_,rfl⟩;have hgge:g<ge:=by omega
 have g0:=(HGB2.out.below HB23.out hgG2).cell 0;have hgG3:gG<w3.heap.size:=by omega
 simp only [List.getElem?_toArray,List.getElem?_cons_zero] at g0;have HEN0:=Lib.hid (show EndsW (w3.alloc (.cells (Array.replicate N (Value.slice none 0 0)) 41)) (g+1) ge (List.replicate N []) from ⟨by omega,List.replicate N (.slice none 0 0),by simp,by rw [hge];simpa using Blk.new w3 41 (Array.replicate N (Value.slice none 0 0)),fun k h1 h2=>by simp only [List.getElem_replicate];exact World.ownsRow_nil _ _ _ _⟩);have hb4:=(Below.refl w3.heap.size w3).alloc (Nat.le_refl _) (.cells (Array.replicate N (Value.slice none 0 0)) 41);have HFR4:=Lib.hid (HFR3.out.next hb4);have HB24:=Lib.hid (HB23.out.trans (hb4.mono HB23.out.size));have HGG:=Lib.hid hg;have HGE:=Lib.hid hge;clear hz3 hg hge
 go_upto_region 5 with fail
 rw [←HGE.out];clear hb4 hmk g0;generalize w3.alloc (.cells (Array.replicate N (Value.slice none 0 0)) 41)=w4 at *
 have HPK:=Lib.hid (show ∀wr,Below w2.heap.size w2 wr→wr.cell? ⟨gP,0,none⟩=some (.slice O ord.length co)∧wr.cell? ⟨gP,1,none⟩=some (.slice U outs.length cu)∧jr wr w2.heap.size O (jf ord)∧qm wr w2.heap.size U outs from fun wr hb=>by
  have k2:=(SP2.out.b.below hb SP2.out.b.lt).cell 0;have k3:=(SP2.out.b.below hb SP2.out.b.lt).cell 1;simp only [List.getElem?_toArray,List.getElem?_cons_zero,List.getElem?_cons_succ] at k2 k3
  exact ⟨k2,k3,SP2.out.o.below hb,SP2.out.u.below hb⟩)
 clear hgG3 hgG2;go_wp2_with fail
 go_loopg [10] ord.length (fun k s10 wr=>∃(i:Nat) (r:List Itm) (pl:List Int) (en:List (List Itm)),s10 = .int .i64 i∧i≤ord.length∧k=ord.length-i∧Qd N es outs (ord.take i)=some (r,pl,en)∧RFrt wr g N A cap es r pl∧EndsW wr (g+1) ge en∧en.length=N∧pl.length=i∧Below w2.heap.size w2 wr)
 case atStart=>exact ⟨0,[],[],_,rfl,Nat.zero_le _,rfl,rfl,HFR4.out,HEN0.out,by simp,rfl,HB24.out⟩
 case round=>
  obtain ⟨i,r,pl,en,rfl,hi,hk,hrun,hfw,hen,henl,hpl,hb⟩:=hrel;have Hk:=Lib.hid hk;have HFW:=Lib.hid hfw;have HEN:=Lib.hid hen;have HRUN:=Lib.hid hrun;have HENL:=Lib.hid henl;have HPLL:=Lib.hid hpl;have HB:=Lib.hid hb;obtain ⟨p0,p1,hpo,hpu⟩:=HPK.out wr hb;have HPO:=Lib.hid hpo;have HPU:=Lib.hid hpu;have hi64:i≤64:=by have:=HO12.out.2;omega
  obtain ⟨hOP,hSW,hrl⟩:=fX HOF.out hrun;have hm128:es.length≤500:=hl;have hr5:r.length≤50000:=by omega
  have hp5:pl.length≤500:=by omega
  have HIT:=Lib.hid (hSW.itmP hOP HIN.out);have HOPP:=Lib.hid hOP;have hgwr:g<wr.heap.size:=hfw.lt;clear hk hfw hen hrun henl hpl hb hSW hOP hrl hpo hpu;by_cases hlt:i<ord.length
  ·have hlt':(i:Int)<ord.length:=by omega
   obtain ⟨x,hx,hxN⟩:=HORD.out ord[i] (List.getElem_mem hlt);obtain ⟨bo,oo,eo,hbo,hco⟩:=HPO.out.ints (by omega);subst eo;have c0:=hco i hlt;rw [hx] at c0;have hxu:x<outs.length:=by rw [HO12.out.1];exact hxN
   have hxu':(x:Int)<outs.length:=by omega
   have hxN':(x:Int)<N:=by omega
   obtain ⟨bu,ou,eu,hbu,hcu⟩:=HPU.out (by omega);subst eu;obtain ⟨Ax,cx,d0,hCx⟩:=hcu x hxu;have HOX:=Lib.hid (show outs.getD x []=outs[x] by rw [List.getD_eq_getElem?_getD,List.getElem?_eq_getElem hxu];rfl);have HSX:=Lib.hid (HOPP.out x hxN);rw [HOX.out] at HSX
   have HXR:=Lib.hid (show Qd N es outs (ord.take (i+1))=if qT es r pl x=true then some (yf es r x (outs.getD x []),pl++[((x:Nat):Int)],en.set x (zA r x)) else none by
    rw [UH hlt,HRUN.out,hx]
    simp only [kt,Int.toNat_natCast])
   rw [HOX.out] at HXR;have HCX:=Lib.hid (show jr wr g Ax (jf outs[x]) by rw [HGG.out];exact hCx);clear hco hcu hCx hx;generalize outs[x]=ox at *
   cases hrd:qT es r pl x with
   | false=>
    rw [hrd] at HXR;simp only [Bool.false_eq_true,if_false] at HXR
    have HNO:=Lib.hid (show ¬(xk N es ord outs).isSome=true by
     rw [HRO.out,UJ HXR.out];simp)
    go_wp2_with fail;refine (cQ wr g N A Ax cap cx es r pl ox x HFW.out hxN (by omega) hr5 (by omega) HIT.out hrd).mono ?_;rintro e w6 ⟨rfl,hb6⟩;have HB6:=Lib.hid (HB2.out.trans ((HB.out.trans (hb6.mono HB.out.size)).mono HB2.out.size));clear hb6 hrd;go_wp2_with fail;refine bodyPost_ret (Jw rfl _ _ _) (by rfl) ?_;exact ⟨HB6.out,.inr ⟨fun h=>HNO.out (by have:=h.2;rwa [Int.toNat_natCast] at this),3,i,by decide,rfl⟩⟩
   | true=>
    rw [hrd,if_pos rfl] at HXR;go_wp2_with fail;refine (cR wr g N A Ax cap cx es r pl ox x HFW.out HCX.out hxN hl hr5 hp5 HIT.out hrd HSX.out).mono ?_;rintro e w6 ⟨v6,rfl,hbt6,hfw6,hgo6⟩;obtain ⟨Av,cv,rfl⟩:=jv hgo6;have HEN6:=Lib.hid (HEN.out.but hbt6 (by omega));obtain ⟨⟨ve,he1⟩,he2⟩:=HEN6.out.cell (x:=x) (by rw [HENL.out];exact hxN);have HEN7:=Lib.hid (HEN6.out.set_ (x:=x) (qh hgo6 (by omega)))
    have HFW7:=Lib.hid (show RFrt (w6.setCell ⟨ge,x,none⟩ (.slice Av (zA r x).length cv)) g N A cap es (yf es r x ox) (pl++[(x:Int)]) from by
     obtain ⟨vs,_,hbv,_⟩:=HEN6.out.st
     exact hfw6.set_ hbv hgge x _)
    have HB7:=Lib.hid (show Below w2.heap.size w2 (w6.setCell ⟨ge,x,none⟩ (.slice Av (zA r x).length cv)) from by
     have h1:=HB.out.size;have h2:Below w2.heap.size w2 w6:=⟨hbt6.os.trans HB.out.os,hbt6.tape.trans HB.out.tape,hbt6.output.trans HB.out.output,Nat.le_trans h1 hbt6.size,fun k hk=>(hbt6.block k (by omega) (by have:=HGG.out;simp only [List.mem_singleton];omega)).trans (HB.out.block k hk)⟩
     exact h2.setCell (p:=⟨ge,x,none⟩) (by have:=HGG.out;simp only;omega) _)
    have HPL7:=Lib.hid (show (pl++[(x:Int)]).length=i+1 by rw [List.length_append,HPLL.out];rfl);clear hbt6 hgo6 hfw6 hrd;generalize yf es r x ox=r7 at *;generalize zA r x=go7 at *;go_wp2_with fail
    go_roundg (ord.length-(i+1))
    case measure=>rw [Hk.out];omega
    case rel=>exact ⟨i+1,r7,_,_,by go_num,by omega,rfl,HXR.out,HFW7.out,HEN7.out,by rw [List.length_set];exact HENL.out,HPL7.out,HB7.out⟩
  ·have hlt':¬(i:Int)<ord.length:=by omega
   have HRE:=Lib.hid (show xk N es ord outs=some en by
    rw [HRO.out];have h1:=HRUN.out;rw [List.take_of_length_le (by omega)] at h1
    rw [h1];rfl)
   obtain ⟨vi,vp,hG,hI,hP⟩:=HFW.out.st;obtain ⟨Ai,ci,rfl⟩:=jv hI;have z2:=hG.cell 2;simp only [List.getElem?_toArray,List.getElem?_cons_zero,List.getElem?_cons_succ] at z2;clear hG hI hP
   go_upto_region 13 with fail
   go_quiet (fail)
   have HBF:=Lib.hid (below_drewN (HB2.out.trans (HB.out.mono HB2.out.size)) nq);have HEF:=Lib.hid (show yO (wr.drewN nq) (wr.drewN nq).heap.size (some ⟨ge,0,none⟩) en from HEN.out.at_);go_wp2_with fail;refine bodyPost_ret (Jw rfl _ _ _) (by rfl) ?_;refine ⟨HBF.out,.inl ⟨en,ge,.slice Ai r.length ci,HGD.out,?_,?_,?_,HEF.out⟩⟩
   ·rw [Int.toNat_natCast];exact HRE.out
   ·rw [Int.toNat_natCast];exact HENL.out
   ·rw [Int.toNat_natCast];rfl
end Go.Proofs.YtneeknlhlkpnpaaGreat
namespace Go.Proofs.YtneeknlhlkpnpaaGreat
open Go.RowKit
theorem pP:kP Tryz.prog 26 25 (.slice none 0 0) 1 24:=kP.mk' Tryz.underlying26 (by kernel_rfl) rfl (by omega)
def dK(n:Int)(es:List (Int×Int))(ord:List Int)(outs:List (List Int))(w:World)(e:Ending)(w':World):Prop:=
 Below w.heap.size w w'∧((∃en C c,GoodP n es∧xk n.toNat es ord outs=some en∧e = .returned (.tuple #[.slice C n.toNat c,.bool true])∧qm w' w'.heap.size C (yo n.toNat outs en)) ∨
  (¬(GoodP n es∧(xk n.toNat es ord outs).isSome=true)∧e = .returned (.tuple #[.slice none 0 0,.bool false])))
set_option maxRecDepth 20000 in
set_option maxHeartbeats 8000000 in
theorem gh(n:Int)(A O U:Option Addr)(cap co cu:Nat)(es:List (Int×Int))(ord:List Int)(outs:List (List Int))(w:World)(hes:jr w w.heap.size A (jA es))(hO:jr w w.heap.size O (jf ord))(hU:qm w w.heap.size U outs)(hl:es.length≤500)(hol:∀l∈outs,l.length≤1000)(hord:ord.length≤1000) :
  Calls Tryz.prog 31 #[.agg #[.int .i64 n,.slice A es.length cap],.agg #[.slice O ord.length co,.slice U outs.length cu]] w (dK n es ord outs w):=by
 obtain ⟨wb,hwb⟩:∃wb,wb=w.alloc (.cells #[.int .i64 n,.slice A es.length cap] 24):=⟨_,rfl⟩;have hb0:Below w.heap.size w wb:=by rw [hwb];exact (Below.refl _ _).alloc (Nat.le_refl _) _
 have hz0:wb.heap.size=w.heap.size+1:=by rw [hwb];simp
 have hGB:Blk wb w.heap.size 24 #[.int .i64 n,.slice A es.length cap]:=by rw [hwb];exact Blk.new _ _ _
 have S1:=Lib.hid (PlanS.start (w:=wb) co cu ((hO.below hb0).more hb0.size) ((hU.below hb0).more hb0.size));have HES0:=Lib.hid ((hes.below hb0).more hb0.size);have HGB0:=Lib.hid hGB;have HB0:=Lib.hid hb0;have HOL:=Lib.hid hol;clear hes hO hU hol hGB hb0
 go_enter Tryz.func31,Tryz.ntmps31
 go_upto_region 1 with fail
 rw [←hwb];obtain ⟨gG,hgG⟩:∃g,g=w.heap.size:=⟨_,rfl⟩;obtain ⟨gP,hgP⟩:∃g,g=wb.heap.size:=⟨_,rfl⟩;rw [←hgP] at S1;rw [←hgG] at HGB0;have hb1:=S1.out.bel;have HGB1:=Lib.hid (HGB0.out.below hb1 HGB0.out.lt);have HES1:=Lib.hid ((HES0.out.below hb1).more hb1.size)
 try rw [show w.heap.size+1=gP by omega]
 try rw [←hgP]
 rw [←hgG];obtain ⟨w1,hw1⟩:∃w1,w1=wb.alloc (.cells #[.slice O ord.length co,.slice U outs.length cu] 28):=⟨_,rfl⟩;rw [←hw1] at S1 HGB1 HES1 hb1 ⊢;have HB1:=Lib.hid (HB0.out.trans (hb1.mono HB0.out.size));have hgw1:gG<w1.heap.size:=HGB1.out.lt;clear hw1 hwb hgG hgP hz0 hb1;have g0:=HGB1.out.cell 0;have g1:=HGB1.out.cell 1;have p0:=S1.out.p0;have p1:=S1.out.p1;simp only [List.getElem?_toArray,List.getElem?_cons_zero,List.getElem?_cons_succ] at g0 g1;go_wp2_with fail;refine (gy n A O U cap co cu es ord outs w1 HES1.out S1.out.o S1.out.u hl HOL.out hord).mono ?_;rintro e w2 ⟨hb2,hcase⟩;have SP2:=Lib.hid (S1.out.next hb2);have HGB2:=Lib.hid (HGB1.out.below hb2 hgw1);have HB2:=Lib.hid (HB1.out.trans (hb2.mono HB1.out.size));clear hb2 g0 g1 p0 p1 hgw1;rcases hcase with ⟨en,V,R,hgd,hrun,henl,rfl,hir⟩ | ⟨hno,c,a,hc,rfl⟩
 case inr=>
  have HNO:=Lib.hid hno;have hc':(c != 0)=true:=by rw [bne_iff_ne];exact hc
  clear hno hc;go_wp2_with fail;go_ret2;exact ⟨HB2.out,.inr ⟨HNO.out,rfl⟩⟩
 obtain ⟨N,rfl⟩:∃N:Nat,n=(N:Int):=⟨n.toNat,by have:=(jP hgd.may).1;omega⟩;rw [Int.toNat_natCast] at hrun henl ⊢;have hN64:N≤64:=by have:=(jP hgd.may).2.1;omega
 have HRUN:=Lib.hid (And.intro hgd hrun);have HIR:=Lib.hid hir;obtain ⟨l0,rF,s0,hplan⟩:=Zy hgd hrun;have HPL:=Lib.hid hplan;have HENL:=Lib.hid henl;have HOUL:=Lib.hid hplan.outl;have HER:=Lib.hid (aR hrun hN64 hl);clear hgd hrun hir hplan henl
 have HW0:=Lib.hid (show YT (w2.alloc (.cells #[] 25)) w2.heap.size (.slice (some ⟨w2.heap.size,0,none⟩) 0 0) [] from
  ⟨[],rfl,vl (R:=#[]) (Nat.le_refl _) (by simpa using Blk.new w2 25 #[]) (by simp) (Nat.le_refl _) (by unfold maxLen;omega) (by simp),fun k h=>absurd h (by simp)⟩)
 have hb3:=(Below.refl w2.heap.size w2).alloc (Nat.le_refl _) (.cells #[] 25);have HB23:=Lib.hid hb3
 have HKEEP:=Lib.hid (show ∀wr,Below w2.heap.size w2 wr→wr.cell? ⟨gG,0,none⟩=some (.int .i64 (N:Nat))∧wr.cell? ⟨gP,1,none⟩=some (.slice U outs.length cu)∧qm wr w2.heap.size U outs∧yO wr w2.heap.size (some ⟨V,0,none⟩) en from fun wr hb=>by
  have k0:=(HGB2.out.below hb HGB2.out.lt).cell 0;have k3:=(SP2.out.b.below hb SP2.out.b.lt).cell 1;simp only [List.getElem?_toArray,List.getElem?_cons_zero,List.getElem?_cons_succ] at k0 k3
  exact ⟨k0,k3,SP2.out.u.below hb,HIR.out.below hb⟩)
 go_upto_region 5 with fail
 clear hb3;obtain ⟨B,hB⟩:∃B,B=w2.heap.size:=⟨_,rfl⟩;rw [←hB] at HW0 HKEEP ⊢;have HBE:=Lib.hid hB;have HB23:=Lib.hid (show Below B w2 (w2.alloc (.cells #[] 25)) by rw [hB];exact HB23.out);clear hB;generalize w2.alloc (.cells #[] 25)=w3 at *;obtain ⟨g0,_⟩:=HKEEP.out w3 HB23.out;go_wp2_with fail;clear g0
 go_loopg [10,11] N (fun k s10 s11 wr=>∃x:Nat,s11 = .int .i64 x∧x≤N∧k=N-x∧Below B w2 wr∧YT wr B s10 ((yo N outs en).take x))
 case atStart=>exact ⟨0,rfl,Nat.zero_le _,rfl,HB23.out,HW0.out⟩
 case round=>
  obtain ⟨x,rfl,hx,hk,hb,how⟩:=hrel;have Hk:=Lib.hid hk;have HB:=Lib.hid hb;have HOW:=Lib.hid how;obtain ⟨g0,p1,hU,hE⟩:=HKEEP.out wr hb;have HU:=Lib.hid hU;have HE:=Lib.hid hE;have hBr:B≤wr.heap.size:=by have:=hb.size;have:=HBE.out;omega
  clear hk hb how hU hE;by_cases hlt:x<N
  ·have hlt':(x:Int)<N:=by omega
   have hxo:x<outs.length:=by rw [HOUL.out];exact hlt
   have hxe:x<en.length:=by rw [HENL.out];exact hlt
   obtain ⟨bu,ou,eu,hbu,hcu⟩:=HU.out (by omega);subst eu;obtain ⟨Al,cl,d0,hcl⟩:=hcu x hxo;obtain ⟨be,oe,ee,hbe,hce⟩:=HE.out (by omega);injection ee with ee;injection ee with e1 e2 _;subst e1 e2;obtain ⟨Ae,ce,z0,hcE⟩:=hce x hxe;rw [Nat.zero_add] at z0
   have HTR:=Lib.hid (show (yo N outs en).take (x+1)=(yo N outs en).take x++[outs[x].map (fun i=>wrap64 (2*i))++xW en[x].reverse] by
    rw [List.take_succ_eq_append_getElem (by simpa [yo] using hlt)];congr 1;simp only [yo,List.getElem_map,List.getElem_range,Qy]
    rw [List.getD_eq_getElem?_getD,List.getElem?_eq_getElem hxo,List.getD_eq_getElem?_getD,List.getElem?_eq_getElem hxe];rfl)
   have HLO:=Lib.hid (HOL.out _ (List.getElem_mem hxo));have HLE:=Lib.hid (HER.out _ (List.getElem_mem hxe))
   have HEDG:=Lib.hid (show ∀e∈en[x],e.1 = -1∨(0≤e.1∧e.1<(es.length:Int)) from fun e he=>by
    rcases HPL.out.item hlt (e:=e) (by rw [List.getD_eq_getElem?_getD,List.getElem?_eq_getElem hxe];exact he) with ⟨i,hi,_,rfl⟩ | h
    ·refine .inr ⟨?_,?_⟩<;>simp only [itE]<;>omega
    ·exact .inl h)
   have HCL:=Lib.hid hcl;have HCE:=Lib.hid hcE;obtain ⟨l,hl2⟩:∃l,l=outs[x]:=⟨_,rfl⟩;obtain ⟨r,hr2⟩:∃r,r=en[x]:=⟨_,rfl⟩;rw [←hl2] at d0 HCL HTR HLO;rw [←hr2] at z0 HCE HTR HLE HEDG;have hll:l.length≤1000:=HLO.out;have hrl:r.length≤50000:=HLE.out;have HD0:=Lib.hid d0;have HZ0:=Lib.hid z0;clear hcu hce hcl hcE hl2 hr2;obtain ⟨wo,rfl⟩:∃wo,wo=wr:=⟨wr,rfl⟩;have HL0:=Lib.hid (show (wo.alloc (.cells #[] 3)).ownsRow wo.heap.size 3 1 (.slice (some ⟨wo.heap.size,0,none⟩) 0 0) 0 (jf []) from vx (xs:=[]) (Blk.new wo 3 #[]) (Nat.le_refl _) rfl (Nat.zero_le _));have HBA:=Lib.hid ((Below.refl wo.heap.size wo).alloc (Nat.le_refl _) (.cells #[] 3))
   go_upto_region 9 with fail
   generalize wo.alloc (.cells #[] 3)=wa at *;have k0:=(HBA.out.cell (p:=⟨gG,0,none⟩) (World.block_lt_of_cell? wo _ g0)).trans g0;have k1:=(HBA.out.cell (p:=⟨gP,1,none⟩) (World.block_lt_of_cell? wo _ p1)).trans p1;have hgPw:=World.block_lt_of_cell? wo _ p1;have hgGw:=World.block_lt_of_cell? wo _ g0;simp only at hgPw hgGw;have q0:=(HBA.out.cell (p:=⟨bu,ou+x,none⟩) (Nat.lt_of_lt_of_le hbu hBr)).trans d0;go_wp2_with fail;clear k0 k1 q0
   go_loopg [12,13] l.length (fun k s12 s13 wr=>∃(j:Nat) (Av:Option Addr) (cv:Nat),s13 = .int .i64 j∧j≤l.length∧k=l.length-j∧s12 = .slice Av j cv∧Below wo.heap.size wo wr∧wr.ownsRow wo.heap.size 3 1 (.slice Av j cv) j (jf ((l.map fun i=>wrap64 (2*i)).take j)))
   case atStart=>exact ⟨0,_,_,rfl,Nat.zero_le _,rfl,rfl,HBA.out,HL0.out⟩
   case round=>
    obtain ⟨j,Av,cv,rfl,hj,hk2,rfl,hbw,hown⟩:=hrel;have Hk2:=Lib.hid hk2;have HBW:=Lib.hid hbw;have HOWN:=Lib.hid hown;have k0:=(hbw.cell (p:=⟨gG,0,none⟩) hgGw).trans g0;have k1:=(hbw.cell (p:=⟨gP,1,none⟩) hgPw).trans p1;have q0:=(hbw.cell (p:=⟨bu,ou+x,none⟩) (Nat.lt_of_lt_of_le hbu hBr)).trans HD0.out;have hsw:=hbw.size;clear hk2 hbw hown;by_cases hjl:j<l.length
    ·have hjl':(j:Int)<l.length:=by omega
     obtain ⟨bl,ol,el,hbl,hcc⟩:=HCL.out.ints (by omega);subst el;have c0:=(HBW.out.cell (p:=⟨bl,ol+j,none⟩) (Nat.lt_of_lt_of_le hbl hBr)).trans (hcc j hjl)
     have HS:=Lib.hid (show jf ((l.map fun i=>wrap64 (2*i)).take (j+1))=jf ((l.map fun i=>wrap64 (2*i)).take j)++[.int .i64 (wrap64 (2*l[j]))] by
      rw [List.take_succ_eq_append_getElem (by simpa using hjl),List.getElem_map,yW])
     generalize l[j]=v at *;clear hcc;go_wp2_with (at_builtin;refine yC qz rfl _ _ rfl wo.heap.size (.slice Av j cv) j _ ?hx wr.heap.size [.int .i64 (wrap64 (2*v))] ?hy rfl HOWN.out rfl rfl ?m2 ?m3 ?m4 ?_)
     case hx=>simp only [Act.eval];simp
     case hy=>simp only [Act.eval];simp
     case m2=>omega
     case m3=>omega
     try (case m4=>omega)
     intro v5 w5 ho5 hg5 _;have HB5:=Lib.hid (qb HBW.out HOWN.out hg5 hsw (Nat.le_refl _));obtain ⟨A5,c5,rfl⟩:=jv ho5;rw [←HS.out] at ho5;have HO5:=Lib.hid ho5;clear ho5 hg5;go_wp2_with fail
     go_roundg (l.length-(j+1))
     case measure=>rw [Hk2.out];omega
     case rel=>exact ⟨j+1,A5,c5,by go_num,by omega,rfl,rfl,HB5.out,HO5.out⟩
    ·have hjl':¬(j:Int)<l.length:=by omega
     have hje:j=l.length:=by omega
     have HON2:=Lib.hid (show wr.ownsRow wo.heap.size 3 1 (.slice Av j cv) j (jf (l.map fun i=>wrap64 (2*i))) by
      have h1:=HOWN.out;rw [List.take_of_length_le (by simp;omega)] at h1
      exact h1)
     have HJE:=Lib.hid hje;clear hje;have y0:=(HBW.out.cell (p:=⟨V,x,none⟩) (Nat.lt_of_lt_of_le hbe hBr)).trans HZ0.out;obtain ⟨wi,rfl⟩:∃wi,wi=wr:=⟨wr,rfl⟩;have hjx:j≤1000:=by omega
     go_wp2_with fail;clear k0 k1 q0 y0
     go_loopg [12,14] r.length (fun k s12 s14 wr=>∃(q n:Nat) (Av:Option Addr) (cv:Nat),s14 = .int .i64 ((r.length:Int)-1-q)∧q≤r.length∧k=r.length-q∧s12 = .slice Av n cv∧n=j+(xW (r.reverse.take q)).length∧n≤j+q∧Below wo.heap.size wo wr∧wr.ownsRow wo.heap.size 3 1 (.slice Av n cv) n (jf (l.map (fun i=>wrap64 (2*i))++xW (r.reverse.take q))))
     case atStart=>exact ⟨0,j,Av,cv,by simp,Nat.zero_le _,rfl,rfl,by simp [xW],by omega,HBW.out,by simpa [xW] using HON2.out⟩
     case round=>
      obtain ⟨q,n,Bv,dv,rfl,hq,hk3,rfl,hnl,hnq,hbz,hoz⟩:=hrel;have Hk3:=Lib.hid hk3;have HBZ:=Lib.hid hbz;have HOZ:=Lib.hid hoz;have HNL:=Lib.hid hnl;have hsz:=hbz.size;clear hk3 hbz hoz hnl;by_cases hql:q<r.length
      ·obtain ⟨u,hu⟩:∃u,u=r.length-1-q:=⟨_,rfl⟩;have hur:u<r.length:=by omega
       have hurI:(u:Int)<r.length:=by omega
       have hue:(r.length:Int)-1-(q:Int)=(u:Int):=by omega
       have HUN:=Lib.hid (show IntKind.i64.wrap ((u:Int)-1)=(r.length:Int)-1-((q+1:Nat):Int) by rw [IntKind.wrap_i64];omega);obtain ⟨b3,o3,e3,hb3,hcc⟩:=HCE.out.items (by omega);subst e3;obtain ⟨c0,_,_⟩:=hcc u hur;have c0:=(HBZ.out.cell (p:=⟨b3,o3+u*3,none⟩) (Nat.lt_of_lt_of_le hb3 hBr)).trans c0;have y0:=(HBZ.out.cell (p:=⟨V,x,none⟩) (Nat.lt_of_lt_of_le hbe hBr)).trans HZ0.out
       have HRV:=Lib.hid (show r.reverse.take (q+1)=r.reverse.take q++[r[u]] by
        rw [List.take_succ_eq_append_getElem (by simpa using hql),List.getElem_reverse]
        simp only [hu])
       have HED:=Lib.hid (HEDG.out r[u] (List.getElem_mem hur));have HSN:=Lib.hid (show xW (r.reverse.take (q+1))=xW (r.reverse.take q)++if r[u].1 = -1 then [] else [wrap64 (wrap64 (2*r[u].1)+1)] by rw [HRV.out,Vy]);rw [hue];generalize r[u].1=v at *;have HUE:=Lib.hid hue;clear hcc hu hue;rcases HED.out with hv | ⟨hv,hvm⟩
       ·have hv':¬v≥0:=by omega
        rw [if_pos hv,List.append_nil] at HSN;clear hv;go_wp2_with fail
        go_roundg (r.length-(q+1))
        case measure=>rw [Hk3.out];omega
        case rel=>exact ⟨q+1,n,Bv,dv,by have:=HUE.out;go_num,by omega,rfl,rfl,by rw [HSN.out];exact HNL.out,by omega,HBZ.out,by rw [HSN.out];exact HOZ.out⟩
       ·have hv':v≥0:=hv;rw [if_neg (show ¬v = -1 by omega)] at HSN;clear hv hvm;go_wp2_with (at_builtin;refine yC qz rfl _ _ rfl wo.heap.size (.slice Bv n dv) n _ ?hx2 wr.heap.size [.int .i64 (wrap64 (wrap64 (2*v)+1))] ?hy2 rfl HOZ.out rfl rfl ?n2 ?n3 ?n4 ?_)
        case hx2=>simp only [Act.eval];simp
        case hy2=>simp only [Act.eval];simp
        case n2=>omega
        case n3=>omega
        try (case n4=>omega)
        intro v5 w5 ho5 hg5 _;have HB5:=Lib.hid (qb HBZ.out HOZ.out hg5 hsz (Nat.le_refl _));obtain ⟨A5,c5,rfl⟩:=jv ho5
        have HO5:=Lib.hid (show w5.ownsRow wo.heap.size 3 1 (.slice A5 (n+1) c5) (n+1) (jf (l.map (fun i=>wrap64 (2*i))++xW (r.reverse.take (q+1)))) by
         rw [HSN.out,←List.append_assoc,yW]
         exact ho5)
        clear ho5 hg5;go_wp2_with fail
        go_roundg (r.length-(q+1))
        case measure=>rw [Hk3.out];omega
        case rel=>exact ⟨q+1,n+1,A5,c5,by have:=HUE.out;go_num,by omega,rfl,rfl,by rw [HSN.out,List.length_append,HNL.out];rfl,by omega,HB5.out,HO5.out⟩
      ·have hql':(r.length:Int)-1-(q:Int)<0:=by omega
       have HFN:=Lib.hid (show wr.ownsRow wo.heap.size 3 1 (.slice Bv n dv) n (jf (l.map (fun i=>wrap64 (2*i))++xW r.reverse)) by
        have h1:=HOZ.out;rw [List.take_of_length_le (by simp;omega)] at h1
        exact h1)
       have HNE:=Lib.hid (show n=(l.map (fun i=>wrap64 (2*i))++xW r.reverse).length by
        have h1:=HNL.out;rw [List.take_of_length_le (by simp;omega)] at h1
        rw [List.length_append,List.length_map,h1,HJE.out])
       have hqn:¬(r.length:Int)-1-(q:Int)≥0:=by omega
       obtain ⟨vals,hvl,hv9,hvr⟩:=HOW.out.below (HBZ.out) (Nat.le_refl _);have HTL:=Lib.hid (show ((yo N outs en).take x).length=x by simp [yo];omega);rw [HTL.out] at hv9;have HVR:=Lib.hid hvr;have HVL:=Lib.hid hvl;obtain ⟨A9,c9,rfl⟩:=jv hv9;have HV9:=Lib.hid hv9;have hBz:B≤wr.heap.size:=by omega
       have y0:=(HBZ.out.cell (p:=⟨V,x,none⟩) (Nat.lt_of_lt_of_le hbe hBr)).trans HZ0.out;have k0:=(HBZ.out.cell (p:=⟨gG,0,none⟩) hgGw).trans g0;clear hvl hv9 hvr;go_wp2_with (at_builtin;refine yC pP rfl _ _ rfl B (.slice A9 x c9) x _ ?hx3 wr.heap.size [.slice Bv n dv] ?hy3 rfl HV9.out rfl rfl ?p2 ?p3 ?p4 ?_)
       try (case hx3=>simp only [Act.eval];simp)
       try (case hy3=>simp only [Act.eval];simp)
       case p2=>omega
       case p3=>omega
       try (case p4=>omega)
       intro v10 w10 ho10 hg10 _;have he10:Evo B [25] wr w10:=Evo.of_grown HV9.out hg10 (List.mem_singleton.2 rfl) (Nat.le_refl _);have HB10:=Lib.hid (show Below B w2 w10 from HB.out.trans ((HBZ.out.mono hBr).trans (he10.below hBz)));obtain ⟨A10,c10,rfl⟩:=jv ho10
       have HOW10:=Lib.hid (show YT w10 B (.slice A10 (x+1) c10) ((yo N outs en).take (x+1)) from by
        rw [HTR.out];refine ⟨vals++[.slice Bv n dv],by rw [List.length_append,List.length_append,HVL.out];rfl,?_,fun k k1 k2=>?_⟩
        ·rw [List.length_append,HTL.out];exact ho10
        ·by_cases hk:k<vals.length
         ·rw [List.getElem_append_left hk,List.getElem_append_left (by rw [←HVL.out];exact hk)];exact qA (HVR.out k hk (by rw [←HVL.out];exact hk)) he10 (by decide)
         ·have hke:k=vals.length:=by rw [List.length_append] at k1;simp at k1;omega
          subst hke;rw [List.getElem_append_right (Nat.le_refl _),List.getElem_append_right (by rw [HVL.out];exact Nat.le_refl _)];simp only [Nat.sub_self,HVL.out,List.getElem_cons_zero];rw [←HNE.out]
          exact qh (qA HFN.out he10 (by decide)) hBr)
       clear ho10 hg10 he10;go_wp2_with fail
       go_roundg (N-(x+1))
       case measure=>rw [Hk.out];omega
       case rel=>exact ⟨x+1,by go_num,by omega,rfl,HB10.out,HOW10.out⟩
  ·have hlt':¬(x:Int)<N:=by omega
   have HIE:=Lib.hid (show (yo N outs en).take x=yo N outs en from List.take_of_length_le (by simp [yo];omega));obtain ⟨vals,hvl,hv9,hvr⟩:=HOW.out;have HTL:=Lib.hid (show ((yo N outs en).take x).length=N by rw [HIE.out];simp [yo]);rw [HTL.out] at hv9;obtain ⟨A9,c9,rfl⟩:=jv hv9
   have HAT:=Lib.hid (show qm wr wr.heap.size A9 (yo N outs en) from by
    refine YT.at_ (base:=B) (c:=c9) (n:=N) ⟨vals,by rw [hvl,HIE.out],by rw [show (yo N outs en).length=N by simp [yo]];exact hv9,fun k k1 k2=>?_⟩;have h1:=hvr k k1 (by rw [HIE.out];exact k2);simp only [HIE.out] at h1
    exact h1)
   have HBF:=Lib.hid (show Below w.heap.size w wr from HB2.out.trans ((HBE.out▸HB.out:Below w2.heap.size w2 wr).mono HB2.out.size));clear hvl hv9 hvr;go_wp2_with fail;go_ret2;refine ⟨HBF.out,.inl ⟨en,A9,c9,HRUN.out.1,by rw [Int.toNat_natCast];exact HRUN.out.2,by rw [Int.toNat_natCast];rfl,by rw [Int.toNat_natCast];exact HAT.out⟩⟩
end Go.Proofs.YtneeknlhlkpnpaaGreat
