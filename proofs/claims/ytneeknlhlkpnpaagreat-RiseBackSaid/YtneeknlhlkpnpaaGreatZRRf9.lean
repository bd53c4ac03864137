import Derived.Test.YtneeknlhlkpnpaaGreatZRPlain
import Derived.Test.YtneeknlhlkpnpaaGreatZVw
import Derived.Test.YtneeknlhlkpnpaaGreatZFit2
import Derived.Test.YtneeknlhlkpnpaaGreatZReg
import Derived.Test.YtneeknlhlkpnpaaGreatZWeb
import Derived.Test.YtneeknlhlkpnpaaGreatZRPl
/-
 Plain law: when a vertex can be placed, as the reference asks it. Written by an AI agent.
-/
namespace Go.Proofs.YtneeknlhlkpnpaaGreat
open Go.RowKit
def fE(es:List (Int×Int))(e:Itm):Prop:=(0≤e.1∧e.1<(es.length:Int)∧es.getD e.1.toNat (0,0)=(e.2.1,e.2.2)∧0≤e.2.2)∨(e.1 = -1∧e.2.2 = -1)
def xV(r:List Itm)(x:Nat)(i:Nat):Nat:=(r.take i).countP fun e=>decide (e.2.2=(x:Int))
theorem Vt{r:List Itm}{x i:Nat}(h:i<r.length):xV r x (i+1)=xV r x i+if r[i].2.2=(x:Int) then 1 else 0:=by
 unfold xV;rw [List.take_succ_eq_append_getElem h,List.countP_append];congr 1;by_cases hx:r[i].2.2=(x:Int)<;>simp [hx]
theorem oL(r:List Itm)(x i:Nat):xV r x i≤i:=Nat.le_trans List.countP_le_length (by simp;omega)
theorem QV{r:List Itm}{x i j:Nat}(h:i≤j):xV r x i≤xV r x j:=by
 unfold xV;obtain ⟨d,rfl⟩:=Nat.exists_eq_add_of_le h;rw [List.take_add,List.countP_append];omega
theorem KK(r:List Itm)(x:Nat):xV r x r.length=r.countP fun e=>decide (e.2.2=(x:Int)):=by unfold xV;rw [List.take_length]
theorem aj{es:List (Int×Int)}{r:List Itm}{pl:List Int}{x i:Nat}(hv:∀e∈r,fE es e)(hi:i<r.length)(hx:r[i].2.2≠(x:Int))(he:0≤r[i].1)(h0:0<xV r x i)(h1:xV r x i<inD es x):qT es r pl x=false:=by
 cases h:qT es r pl x with
 | false=>rfl
 | true=>
  exfalso;obtain ⟨_,A,E,B,hc⟩:=QS h;have hA:A.countP (fun e:Itm=>decide (e.2.2=(x:Int)))=0:=by rw [List.countP_eq_zero];intro a ha;simpa using hc.out a (List.mem_append_left _ ha)
  have hl:r.length=A.length+E.length+B.length:=by rw [hc.row];simp;omega
  have i1:A.length≤i:=Nat.le_of_not_lt fun hlt=>by
   have:xV r x i=0:=by
    unfold xV;rw [hc.row,List.append_assoc,List.take_append_of_le_length (by omega)];rw [List.countP_eq_zero];intro a ha;simpa using hc.out a (List.mem_append_left _ (List.mem_of_mem_take ha))
   omega
  have i2:i<A.length+E.length:=Nat.lt_of_not_le fun hle=>by
   have:xV r x i≥inD es x:=by
    have h2:=QV (r:=r) (x:=x) hle
    have h3:xV r x (A.length+E.length)=inD es x:=by
     unfold xV;rw [hc.row,List.take_append_of_le_length (by simp),List.take_of_length_le (by simp),List.countP_append,hA,hc.cnt];omega
    omega
   omega
  have hm:r[i]∈E:=by
   have:r[i]=E[i-A.length]'(by omega):=by
    have h2:r[i]? = E[i-A.length]? :=by rw [hc.row,List.append_assoc,List.getElem?_append_right i1,List.getElem?_append_left (by omega)]
    rw [List.getElem?_eq_getElem hi,List.getElem?_eq_getElem (by omega)] at h2;injection h2
   rw [this];exact List.getElem_mem _
  rcases hc.ine _ hm with h2 | h2
  ·exact hx h2
  ·rcases hv _ (List.getElem_mem hi) with h3 | h3
   ·omega
   ·omega
theorem XX{es:List (Int×Int)}{r:List Itm}{pl:List Int}{x:Nat}(hv:∀e∈r,fE es e)(hp:(x:Int)∉pl)(hn:∀i (h:i<r.length),¬(r[i].2.2≠(x:Int)∧0≤r[i].1∧0<xV r x i∧xV r x i<inD es x)):qT es r pl x=decide (xV r x r.length=inD es x):=by
 rw [KK];rw [Bool.eq_iff_iff,decide_eq_true_eq];constructor
 ·intro h;obtain ⟨_,A,E,B,hc⟩:=QS h;rw [hc.row,List.countP_append,List.countP_append,hc.cnt];have z1:A.countP (fun e:Itm=>decide (e.2.2=(x:Int)))=0:=by rw [List.countP_eq_zero];intro a ha;simpa using hc.out a (List.mem_append_left _ ha)
  have z2:B.countP (fun e:Itm=>decide (e.2.2=(x:Int)))=0:=by rw [List.countP_eq_zero];intro a ha;simpa using hc.out a (List.mem_append_right _ ha)
  omega
 ·intro h;unfold qT;simp only [Bool.and_eq_true,Bool.or_eq_true,Bool.not_eq_true',decide_eq_false_iff_not,decide_eq_true_eq];obtain ⟨hc,hs⟩:=QQ (x:Int) r r.length (Nat.le_refl _);rw [List.take_length] at hc hs;refine ⟨⟨nl hp,?_⟩,?_⟩
  ·rw [hc,h];rfl
  ·by_cases hz:(jK es Prod.snd (x:Nat) es.length).length=0
   ·exact .inl hz
   ·refine .inr ?_;rcases hs with ⟨_,h4⟩ | ⟨f,t,e1,e2,h4,h5,⟨ef,hef,hfx⟩,⟨et,het,htx⟩,h8,h9⟩
    ·have:(r.countP fun e=>decide (e.2.2=(x:Int)))=0:=by rw [List.countP_eq_zero];intro a ha;simpa using h4 a ha
     have h6:inD es x=0:=by omega
     exact absurd h6 hz
    ·rw [e1,e2];simp only [Int.toNat_natCast];rw [KP];intro e he;apply Classical.byContradiction;intro hno;rw [not_or] at hno;obtain ⟨k,hk,hke⟩:=List.mem_iff_getElem.1 he;have hk2:f+k<t:=by simp at hk;omega
     have hkr:f+k<r.length:=by omega
     have hre:r[f+k]=e:=by
      rw [←hke,List.getElem_drop,List.getElem_take]
     refine hn (f+k) hkr ⟨by rw [hre];exact hno.1,?_,?_,?_⟩
     ·rcases hv _ (List.getElem_mem hkr) with h6 | h6
      ·exact h6.1
      ·rw [hre] at h6;exact absurd h6.2 hno.2
     ·have hfr:f<r.length:=by omega
      have hkf:k≠0:=fun e0=>by
       have h10:r[f+k]? = r[f]? :=by rw [e0,Nat.add_zero]
       rw [List.getElem?_eq_getElem hkr,hre,hef] at h10;injection h10 with h10;exact hno.1 (by rw [h10];exact hfx)
      have h6:=QV (r:=r) (x:=x) (show f+1≤f+k by omega);rw [Vt hfr] at h6;rw [List.getElem?_eq_getElem hfr] at hef;injection hef with hef;rw [if_pos (by rw [hef];exact hfx)] at h6;omega
     ·have h6:=QV (r:=r) (x:=x) (show (t-1)+1≤r.length by omega);have htr:t-1<r.length:=by omega
      rw [Vt htr] at h6;rw [List.getElem?_eq_getElem htr] at het;injection het with het;rw [if_pos (by rw [het];exact htx),KK,h] at h6
      have h7:f+k≠t-1:=fun e0=>by
       have h10:r[f+k]? = r[t-1]? :=by rw [e0]
       rw [List.getElem?_eq_getElem hkr,List.getElem?_eq_getElem htr,hre,het] at h10;injection h10 with h10;exact hno.1 (by rw [h10];exact htx)
      have h8:=QV (r:=r) (x:=x) (show f+k≤t-1 by omega);omega
theorem cZ{es:List (Int×Int)}{r:List Itm}{pl:List Int}{x:Nat}(hv:∀e∈r,fE es e)(hp:(x:Int)∉pl)(hz:inD es x=0):qT es r pl x=true:=by
 have hno:∀e∈r,e.2.2≠(x:Int):=fun e he h=>by
  rcases hv e he with ⟨h1,h2,h3,_⟩ | ⟨_,h3⟩
  ·have:(e.1.toNat:Int)∈jK es Prod.snd (x:Nat) es.length:=ql.2 ⟨e.1.toNat,rfl,by omega,by rw [h3];exact h⟩;unfold inD at hz;rw [List.length_eq_zero_iff] at hz;rw [hz] at this
   cases this
  ·omega
 rw [XX hv hp (fun i hi h=>by omega),decide_eq_true_eq,KK,hz,List.countP_eq_zero];intro a ha;simpa using hno a ha
end Go.Proofs.YtneeknlhlkpnpaaGreat
namespace Go.Proofs.YtneeknlhlkpnpaaGreat
open Go.RowKit
set_option maxRecDepth 20000 in
set_option maxHeartbeats 1000000 in
theorem bD(A:Option Addr)(c:Nat)(l:List Int)(v:Int)(w:World)(N:Nat)(h:jr w N A (jf l))(hl:l.length≤100000) :
  Calls Tryz.prog 156 #[.slice A l.length c,.int .i64 v] w (fun e w'=>e = .returned (.bool (decide (xX l v≥0)))∧w=w'):=by
 have H:=Lib.hid h;clear h
 go_enter Tryz.func156,Tryz.ntmps156
 go_wp2_with fail
 go_loopg [5] l.length (fun k s5 wr=>∃i:Nat,s5 = .int .i64 i∧i≤l.length∧k=l.length-i∧w=wr ∧ ∀j (hj:j<l.length),j<i→v≠l[j])
 case atStart=>exact ⟨0,rfl,Nat.zero_le _,rfl,rfl,fun j _ hj=>absurd hj (Nat.not_lt_zero j)⟩
 case round=>
  obtain ⟨i,rfl,hi,hk,rfl,hn⟩:=hrel;have Hk:=Lib.hid hk;have Hn:=Lib.hid hn;clear hk hn;by_cases hlt:i<l.length
  ·have hlt':(i:Int)<l.length:=by omega
   obtain ⟨b,off,rfl,hb,hc⟩:=H.out.ints (by omega);have e0:=hc i hlt
   have HS:=Lib.hid (fun (hv:v≠l[i]) (j:Nat) (hj:j<l.length) (hji:j<i+1)=>(by
    by_cases e:j=i
    ·subst e;exact hv
    ·exact Hn.out j hj (by omega):v≠l[j]))
   have HF:=Lib.hid (fun (hv:v=l[i])=>KT hlt hv fun j hj=>Hn.out j (by omega) hj);clear hc;generalize l[i]=u at *;by_cases hv:v=u
   ·have hv':(u==v)=true:=by rw [beq_iff_eq];exact hv.symm
    have HR:=Lib.hid (show decide (xX l v≥0)=true by rw [HF.out hv];simp);clear hv;go_wp2_with fail;go_ret;exact ⟨jx HR.out.symm,rfl⟩
   ·have hv':(u==v)=false:=by rw [beq_eq_false_iff_ne];exact fun e=>hv e.symm
    have HR:=Lib.hid (HS.out hv);clear hv;go_wp2_with fail
    go_roundg (l.length-(i+1))
    case measure=>rw [Hk.out];omega
    case rel=>exact ⟨i+1,by go_num,by omega,rfl,rfl,HR.out⟩
  ·have hlt':¬(i:Int)<l.length:=by omega
   have HR:=Lib.hid (show decide (xX l v≥0)=false by
    rw [QI (l:=l) (v:=v) fun j hj=>Hn.out j hj (by omega)];simp)
   go_wp2_with fail;go_ret;exact ⟨jx HR.out.symm,rfl⟩
structure RFrt(w:World)(g:Nat)(n:Int)(A:Option Addr)(cap:Nat)(es:List (Int×Int))(r:List Itm)(pl:List Int):Prop where
 ec:jr w g A (jA es)
 st:∃vr vp,Blk w g 168 #[.int .i64 n,.slice A es.length cap,vr,vp]∧w.ownsRow (g+1) 81 3 vr r.length (ju r)∧w.ownsRow (g+1) 3 1 vp pl.length (jf pl)
section
variable {w w':World}{g:Nat}{n:Int}{A:Option Addr}{cap:Nat}{es:List (Int×Int)}{r:List Itm}{pl:List Int}
theorem RFrt.lt(h:RFrt w g n A cap es r pl):g<w.heap.size:=by
 obtain ⟨_,_,hb,_⟩:=h.st;exact hb.lt
theorem RFrt.next(h:RFrt w g n A cap es r pl)(hb:Below w.heap.size w w'):RFrt w' g n A cap es r pl:=by
 have hg:=h.lt;obtain ⟨vr,vp,h1,h2,h3⟩:=h.st;exact ⟨h.ec.keep (fun p hp=>hb.cell (by omega)),vr,vp,h1.below hb hg,jT h2 hb (Nat.le_refl _),jT h3 hb (Nat.le_refl _)⟩
end
set_option maxRecDepth 20000 in
set_option maxHeartbeats 4000000 in
theorem XQ(w:World)(g n:Nat)(A:Option Addr)(cap:Nat)(es:List (Int×Int))(r:List Itm)(pl:List Int)(x:Nat)(h:RFrt w g n A cap es r pl)(hx:x<n)(hl:es.length≤1000)(hr:r.length≤50000)(hp:pl.length≤1000)(hv:∀e∈r,fE es e) :
  Calls Tryz.prog 155 #[.pointer (some ⟨g,0,none⟩),.int .i64 (x:Nat)] w (fun e w'=>e = .returned (.bool (qT es r pl x))∧Below w.heap.size w w'):=by
 have H:=Lib.hid h;obtain ⟨vi,vp,hb,hi,hpl⟩:=h.st;obtain ⟨Ai,ci,rfl⟩:=jv hi;obtain ⟨Ap,cp,rfl⟩:=jv hpl;have HI:=Lib.hid hi;have HG:=Lib.hid hb;have hgl:=hb.lt;have z0:=hb.cell 0;have z1:=hb.cell 1;have z2:=hb.cell 2;have z3:=hb.cell 3;simp only [List.getElem?_toArray,List.getElem?_cons_zero,List.getElem?_cons_succ] at z0 z1 z2 z3;have HPC:=Lib.hid (bD Ap cp pl (x:Nat) w w.heap.size (jr.of_own hpl) (by omega));have hx0:¬(x:Int)<0:=by omega
 have hxn:¬(n:Int)≤(x:Int):=by omega
 have hxn':((x:Int)≥(n:Int))=False:=by simp;omega
 have HV:=Lib.hid hv;clear h hb hi hpl hv
 cases hc:decide (xX pl (x:Nat)≥0) with
 | true=>
  have HR:=Lib.hid (show qT es r pl x=false by unfold qT;rw [hc];rfl);rw [hc] at HPC;clear hc
  go_enter Tryz.func155,Tryz.ntmps155
  go_wp2_with fail;refine HPC.out.mono ?_;rintro e w2 ⟨rfl,rfl⟩;go_wp2_with fail;go_ret;exact ⟨jx HR.out.symm,Below.refl _ _⟩
 | false=>
  have HNP:=Lib.hid (eW (of_decide_eq_false hc));rw [hc] at HPC;clear hc
  go_enter Tryz.func155,Tryz.ntmps155
  go_wp2_with fail;refine HPC.out.mono ?_;rintro e w2 ⟨rfl,rfl⟩;go_wp2_with fail;refine (Qo n A cap es x false w (H.out.ec.more (Nat.le_of_lt hgl)) hl).mono ?_;rintro e w2 ⟨v2,rfl,hb2,ho2⟩;simp only [Bool.false_eq_true,if_false] at ho2;obtain ⟨A2,c2,rfl⟩:=jv ho2;have HG2:=Lib.hid (HG.out.below hb2 hgl);have z0:=HG2.out.cell 0;have z1:=HG2.out.cell 1;have z2:=HG2.out.cell 2;have z3:=HG2.out.cell 3;simp only [List.getElem?_toArray,List.getElem?_cons_zero,List.getElem?_cons_succ] at z0 z1 z2 z3;have HI2:=Lib.hid (jT HI.out hb2 (Nat.le_refl _));have HB2:=Lib.hid hb2;obtain ⟨nd,hnd⟩:∃nd,nd=(jK es Prod.snd (x:Nat) es.length).length:=⟨_,rfl⟩;have hndl:nd≤1000:=by have:=qd es Prod.snd (x:Nat) es.length;omega
  have HND:=Lib.hid (show inD es x=nd from hnd.symm);rw [←hnd];clear hnd hb2 ho2;by_cases h0:nd=0
  ·have h0':((nd:Int)==0)=true:=by simp [h0]
   have HR:=Lib.hid (cZ HV.out HNP.out (HND.out.trans h0));clear h0;go_wp2_with fail;go_ret;exact ⟨jx HR.out.symm,HB2.out⟩
  ·have h0':((nd:Int)==0)=false:=by simp [h0]
   clear h0;go_wp2_with fail
   go_loopg [6,7] r.length (fun k s6 s7 wr=>∃i:Nat,s7 = .int .i64 i∧s6 = .int .i64 (xV r x i:Nat)∧i≤r.length∧k=r.length-i∧w2=wr ∧ ∀j (hj:j<r.length),j<i → ¬(r[j].2.2≠(x:Int)∧0≤r[j].1∧0<xV r x j∧xV r x j<inD es x))
   case atStart=>exact ⟨0,rfl,rfl,Nat.zero_le _,rfl,rfl,fun j _ h=>absurd h (Nat.not_lt_zero _)⟩
   case round=>
    obtain ⟨i,rfl,rfl,hi,hk,rfl,hno⟩:=hrel;have Hk:=Lib.hid hk;have HNO:=Lib.hid hno;have hml:=oL r x i;clear hk hno;by_cases hlt:i<r.length
    ·obtain ⟨b,off,rfl,hbb,hc⟩:=(jr.of_own HI2.out).items (by omega);obtain ⟨c0,c1,c2⟩:=hc i hlt;have hlt':(i:Int)<r.length:=by omega
     have HS:=Lib.hid (Vt (x:=x) hlt);have HEA:=Lib.hid (fun h1 h2 h3 h4=>aj (pl:=pl) (x:=x) HV.out hlt h1 h2 h3 h4)
     have HNX:=Lib.hid (fun (h:¬(r[i].2.2≠(x:Int)∧0≤r[i].1∧0<xV r x i∧xV r x i<inD es x)) (j:Nat) (hj:j<r.length) (hji:j<i+1)=>(by
      by_cases e:j=i
      ·subst e;exact h
      ·exact HNO.out j hj (by omega):¬(r[j].2.2≠(x:Int)∧0≤r[j].1∧0<xV r x j∧xV r x j<inD es x)))
     rw [HND.out] at HEA HNX;obtain ⟨mt,hmt⟩:∃mt,mt=xV r x i:=⟨_,rfl⟩;rw [←hmt] at HS HEA HNX hml ⊢;generalize r[i].1=e1 at *;generalize r[i].2.1=e2 at *;generalize r[i].2.2=e3 at *;clear hc hmt;by_cases h1:e3=(x:Int)
     ·have h1':(e3==(x:Int))=true:=by simp [h1]
      have HS2:=Lib.hid (show xV r x (i+1)=mt+1 by rw [HS.out,if_pos h1]);have HN2:=Lib.hid (HNX.out (fun h=>h.1 h1));clear h1;go_wp2_with fail
      go_roundg (r.length-(i+1))
      case measure=>rw [Hk.out];omega
      case rel=>exact ⟨i+1,by go_num,by rw [HS2.out];go_num,by omega,rfl,rfl,by rw [HND.out];exact HN2.out⟩
     ·have h1':(e3==(x:Int))=false:=by simp [h1]
      have HS2:=Lib.hid (show xV r x (i+1)=mt by rw [HS.out,if_neg h1];rfl);by_cases h2:0≤e1
      ·have h2':decide (0≤e1)=true:=by simp [h2]
       by_cases h3:0<mt
       ·have h3':(0:Int)<(mt:Int):=by omega
        by_cases h4:mt<nd
        ·have h4':(mt:Int)<(nd:Int):=by omega
         have HR:=Lib.hid (HEA.out h1 h2 h3 h4);clear h1;go_wp2_with fail;go_ret;exact ⟨jx HR.out.symm,HB2.out⟩
        ·have h4':¬(mt:Int)<(nd:Int):=by omega
         have HN2:=Lib.hid (HNX.out (fun h=>h4 h.2.2.2));clear h1;go_wp2_with fail
         go_roundg (r.length-(i+1))
         case measure=>rw [Hk.out];omega
         case rel=>exact ⟨i+1,by go_num,by rw [HS2.out],by omega,rfl,rfl,by rw [HND.out];exact HN2.out⟩
       ·have h3':¬(0:Int)<(mt:Int):=by omega
        have HN2:=Lib.hid (HNX.out (fun h=>h3 h.2.2.1));clear h1;go_wp2_with fail
        go_roundg (r.length-(i+1))
        case measure=>rw [Hk.out];omega
        case rel=>exact ⟨i+1,by go_num,by rw [HS2.out],by omega,rfl,rfl,by rw [HND.out];exact HN2.out⟩
      ·have HN2:=Lib.hid (HNX.out (fun h=>h2 h.2.1));have h2':decide (0≤e1)=false:=by simp;omega
       clear h1;go_wp2_with fail
       go_roundg (r.length-(i+1))
       case measure=>rw [Hk.out];omega
       case rel=>exact ⟨i+1,by go_num,by rw [HS2.out],by omega,rfl,rfl,by rw [HND.out];exact HN2.out⟩
    ·have hlt':¬(i:Int)<r.length:=by omega
     have hie:i=r.length:=by omega
     have HR:=Lib.hid (show qT es r pl x=((xV r x i:Int)==(nd:Int)) by
      rw [XX HV.out HNP.out (fun j hj=>HNO.out j hj (by omega)),HND.out,←hie,Bool.eq_iff_iff,decide_eq_true_eq,beq_iff_eq]
      omega)
     clear hie;generalize xV r x i=mt at *;go_wp2_with fail;go_ret;exact ⟨jx HR.out.symm,HB2.out⟩
end Go.Proofs.YtneeknlhlkpnpaaGreat
namespace Go.Proofs.YtneeknlhlkpnpaaGreat
open Go.RowKit
structure Far(B g:Nat)(C:List Nat)(w w':World):Prop where
 os:w'.os=w.os
 tape:w'.tape=w.tape
 output:w'.output=w.output
 size:w.heap.size≤w'.heap.size
 low:∀k,k<w.heap.size→k<B→(k≠g∨2∉C)→w'.heap[k]? = w.heap[k]?
 high:∀k,k<w.heap.size→B≤k→1∉C→w'.heap[k]? = w.heap[k]?
section
variable {B g:Nat}{C:List Nat}{w w' w'':World}
theorem Far.refl(B g:Nat)(C:List Nat)(w:World):Far B g C w w:=⟨rfl,rfl,rfl,Nat.le_refl _,fun _ _ _ _=>rfl,fun _ _ _ _=>rfl⟩
theorem Far.trans(h:Far B g C w w')(k:Far B g C w' w''):Far B g C w w'':=
 ⟨k.os.trans h.os,k.tape.trans h.tape,k.output.trans h.output,Nat.le_trans h.size k.size,fun i hi hB hg=>(k.low i (Nat.lt_of_lt_of_le hi h.size) hB hg).trans (h.low i hi hB hg),fun i hi hB hg=>(k.high i (Nat.lt_of_lt_of_le hi h.size) hB hg).trans (h.high i hi hB hg)⟩
theorem Far.mono{C':List Nat}(h:Far B g C w w')(hs:∀k∈C,k∈C'):Far B g C' w w':=
 ⟨h.os,h.tape,h.output,h.size,fun i hi hB hg=>h.low i hi hB (hg.imp id fun h2 hm=>h2 (hs 2 hm)),fun i hi hB hg=>h.high i hi hB fun hm=>hg (hs 1 hm)⟩
theorem Far.but(h:Far B g C w w')(h1:1∉C):But [g] w w':=⟨h.os,h.tape,h.output,h.size,fun k hk hn=>by
 simp only [List.mem_singleton] at hn;rcases Nat.lt_or_ge k B with hB | hB
 ·exact h.low k hk hB (.inl hn)
 ·exact h.high k hk hB h1⟩
theorem Far.below(h:Far B g C w w')(h1:1∉C)(h2:2∉C):Below w.heap.size w w':=⟨h.os,h.tape,h.output,h.size,fun k hk=>by
 rcases Nat.lt_or_ge k B with hB | hB
 ·exact h.low k hk hB (.inr h2)
 ·exact h.high k hk hB h1⟩
theorem Far.belowB(h:Far B g C w w')(h2:2∉C)(hB:B≤w.heap.size):Below B w w':=⟨h.os,h.tape,h.output,h.size,fun k hk=>h.low k (by omega) hk (.inr h2)⟩
theorem Far.of_belowB(h:Below B w w')(h1:1∈C):Far B g C w w':=⟨h.os,h.tape,h.output,h.size,fun k _ hB _=>h.block k hB,fun _ _ _ hn=>absurd h1 hn⟩
theorem Far.set_(w:World)(hg:g<B)(h2:2∈C)(i:Nat)(u:Value):Far B g C w (w.setCell ⟨g,i,none⟩ u):=
 ⟨rfl,rfl,rfl,by simp [World.setCell],fun k _ _ hs=>Below.heap_setCell _ _ _ _ (fun e=>by rcases hs with h | h;exact h e;exact h h2),fun k _ hB _=>Below.heap_setCell _ _ _ _ (fun e=>by have:k=g:=e;omega)⟩
theorem Far.undrew(h:Far B g C w.drew w'):Far B g C w w':=⟨h.os,h.tape,h.output,h.size,h.low,h.high⟩
end
namespace R6
structure BFact(B g:Nat) where
 bad:List Nat
 F:Value→World→Prop
 st:∀c,bad.contains c=false → ∀v w w',Far B g [c] w w'→F v w→F v w'
def BFact.val{B g:Nat}(u:Value):BFact B g:=⟨[],fun v _=>v=u,fun _ _ _ _ _ _ h=>h⟩
def BFact.own{B g:Nat}(base:Nat)(t:TypeId)(size n:Nat)(xs:List Value)(hg:g<base):BFact B g:=⟨[1],fun v w=>w.ownsRow base t size v n xs,fun c hc _ _ _ hb h=>yF h (hb.but (by
 intro hm;have:(1:Nat)=c:=by simpa using hm
 subst this
 simp at hc)) (fun k hk=>by simp only [List.mem_singleton] at hk;omega)⟩
def BFact.cell{B g:Nat}(base:Nat)(tg:TypeId)(D:Value→Array Value)(t:TypeId)(size n:Nat)(xs:List Value)(hg:g<base):BFact B g:=⟨[1,2],fun _ w=>∃v,Blk w g tg (D v)∧w.ownsRow base t size v n xs,fun c hc _ w w' hb ⟨v,h1,h2⟩=>by
 have h3:1∉[c]:=fun hm=>by
  have:(1:Nat)=c:=by simpa using hm
  subst this;simp at hc
 have h4:2∉[c]:=fun hm=>by
  have:(2:Nat)=c:=by simpa using hm
  subst this;simp at hc
 have hbl:=hb.below h3 h4
 exact ⟨v,h1.below hbl h1.lt,yF h2 (hb.but h3) (fun k hk=>by simp only [List.mem_singleton] at hk;omega)⟩⟩
def bspec{B g:Nat}(p:List Nat×BFact B g):PSpec:=⟨p.1,p.2.bad,fun _ v w=>p.2.F v w⟩
theorem in_{B g:Nat}{C:List Nat}{w w':World}(h:Far B g C w w')(cs:List Nat)(hC:C.all (fun c=>c==0||cs.contains c)=true):Far B g cs w w':=by
 refine ⟨h.os,h.tape,h.output,h.size,fun k hk hB hg=>h.low k hk hB (hg.imp id fun h2 hm=>?_),fun k hk hB hn=>h.high k hk hB fun hm=>?_⟩
 ·have:=List.all_eq_true.1 hC 2 hm;simp at this;exact h2 this
 ·have:=List.all_eq_true.1 hC 1 hm;simp at this;exact hn this
theorem wp_region_b{P:Program}{id:Nat}{l:List Oper}{Q:Exit→Act→World→Prop}{a0:Act}{w:World}(B g:Nat)(cls:List Nat)(Fs:List (List Nat×BFact B g))(fin:List Nat)
  (hm:P.follows .mixedOrders=true)
  (hok:(okP l.toArray cls (Fs.map (fun p=>p.1)) (Fs.map (fun p=>p.2.bad)) fin (Region.before l.toArray)&&fin.all (fun i=>decide (i<l.toArray.size))&&(List.range l.toArray.size).all (fun i=>decide ((Region.before l.toArray).getD i 0<2 ^ l.toArray.size)))=true)
  (hgo:∀us,R3.PGo P l.toArray (fun c=>Far B g [c]) (fun C=>Far B g C) (Region.before l.toArray) cls (Fs.map bspec) w.drew us l 0 a0)
  (hfin:∀us w',Far B g (R3.allC l.toArray.size cls) w.drew w'→vA (Fs.map bspec) us w' fin→Q .normal (kx us l 0 a0) w'):(Code.region id l.toArray true).wp P Q a0 w:=by
 refine R3.wp_region_p (fun c=>Far B g [c]) (fun C=>Far B g C) cls (Fs.map bspec) fin (Region.before l.toArray) hm (by simpa [List.map_map,Function.comp_def,bspec] using hok) (fun _ a=>Far.refl _ _ _ a) (fun _ _ _ _ h k=>Far.trans h k)
  (fun C c a b hc h=>Far.mono h fun t ht=>by rw [List.mem_singleton.1 ht];exact hc) (fun _ a=>Far.refl _ _ _ a) ?_ ?_ hgo (fun us w' h1 h2=>by rw [YL];exact hfin us w' h1 h2)
 ·intro s hs c hc us v w w' he hF;obtain ⟨p,hp,rfl⟩:=List.mem_map.1 hs;exact p.2.st c hc v w w' he hF
 ·intro s hs us us' h v w hF;obtain ⟨p,hp,rfl⟩:=List.mem_map.1 hs;exact hF
theorem pgo_pure{P:Program}{ops:Array Oper}{B g:Nat}{W:List Nat→World→World→Prop}{b:Array Nat}{cls:List Nat}{Fs:List PSpec}{w0:World}{us:Nat→Value}{o:Oper}{rest:List Oper}{i:Nat}{a:Act}(s:PSpec)
  (hg:o.guard=none) (hs:Fs[i]? = some s)
  (h:∀(w:World),W (R3.ahead ops.size cls b i) w0 w→vA Fs us w s.uses → ∃v,(execOp a.eval o).run P w = .ok (.value v) w∧s.F us v w)
  (hr:R3.PGo P ops (fun c=>Far B g [c]) W b cls Fs w0 us rest (i+1) (a.put o.dst (us i))):R3.PGo P ops (fun c=>Far B g [c]) W b cls Fs w0 us (o::rest) i a:=
 R3.pgo_val s hg hs (fun w hw hu=>by
  obtain ⟨v,h1,h2⟩:=h w hw hu
  exact ⟨v,w,h1,Far.refl _ _ _ _,h2⟩) hr
end R6
end Go.Proofs.YtneeknlhlkpnpaaGreat
namespace Go.Proofs.YtneeknlhlkpnpaaGreat
open Go.RowKit
set_option maxRecDepth 20000 in
set_option maxHeartbeats 4000000 in
theorem cQ(w:World)(g n:Nat)(A X:Option Addr)(cap cx:Nat)(es:List (Int×Int))(r:List Itm)(pl outs:List Int)(x:Nat)(h:RFrt w g n A cap es r pl)(hx:x<n)(hl:es.length≤1000)(hr:r.length≤50000)(hp:pl.length≤1000)(hv:∀e∈r,fE es e)(hno:qT es r pl x=false) :
  Calls Tryz.prog 117 #[.pointer (some ⟨g,0,none⟩),.int .i64 (x:Nat),.slice X outs.length cx] w (fun e w'=>e = .returned (.tuple #[.slice none 0 0,.int .i64 3])∧Below w.heap.size w w'):=by
 have HR:=XQ w g n A cap es r pl x h hx hl hr hp hv;rw [hno] at HR;have HR:=Lib.hid HR;clear h hv hno
 go_enter Tryz.func117,Tryz.ntmps117
 go_wp2_with fail;refine HR.out.mono ?_;rintro e w2 ⟨rfl,hb⟩;have HB:=Lib.hid hb;clear hb;go_wp2_with fail;go_ret2;exact ⟨rfl,HB.out⟩
theorem But.below2{S:List Nat}{a b c:World}(h:But S a b)(k:Below a.heap.size b c):But S a c:=
 ⟨k.os.trans h.os,k.tape.trans h.tape,k.output.trans h.output,Nat.le_trans h.size k.size,fun i hi hs=>(k.block i hi).trans (h.block i hi hs)⟩
theorem Xy{w w' w0:World}{base size n B g:Nat}{t:TypeId}{v:Value}{xs:List Value}(h:w.ownsRow base t size v n xs)(hl:∀k,k<B→k≠g→w'.heap[k]? = w.heap[k]?)(hg:g<base)(h0:w0.ownsRow base t size v n xs)(_hB:B≤w.heap.size)(hw0:w0.heap.size=B:=by rfl):w'.ownsRow base t size v n xs:=by
 obtain ⟨h1,h2⟩:=h;refine ⟨h1,?_⟩;rcases h2 with h2 | ⟨k,cap,cur,hv,hk,hh,r⟩
 ·exact .inl h2
 ·refine .inr ⟨k,cap,cur,hv,hk,?_,r⟩;rw [hl k ?_ (by omega)]
  ·exact hh
  ·rcases h0.2 with h3 | ⟨k2,cap2,cur2,hv2,_,hh2,_⟩
   ·rw [hv] at h3;injection h3.1 with e
    cases e
   ·rw [hv] at hv2;injection hv2 with e;injection e with e;injection e with e;subst e;rw [←hw0];exact (Array.getElem?_eq_some_iff.1 hh2).1
theorem RFrt.but{w w':World}{g:Nat}{n:Int}{A:Option Addr}{cap:Nat}{es:List (Int×Int)}{r r':List Itm}{pl pl':List Int}{vr vp:Value}(h:RFrt w g n A cap es r pl)(hb:But [g] w w')(h1:Blk w' g 168 #[.int .i64 n,.slice A es.length cap,vr,vp])(h2:w'.ownsRow (g+1) 81 3 vr r'.length (ju r'))(h3:w'.ownsRow (g+1) 3 1 vp pl'.length (jf pl')):RFrt w' g n A cap es r' pl':=by
 have hg:=h.lt;exact ⟨h.ec.keep (fun p hp=>World.cell?_of_block (hb.block p.block (by omega) (by simp only [List.mem_singleton];omega))),vr,vp,h1,h2,h3⟩
theorem iR{es:List (Int×Int)}{x:Nat}{outs:List Int}(h:outs.length≠0):yj es x outs=outs.map (fun i=>(i,(x:Int),(es.getD i.toNat (0,0)).2)):=by unfold yj;rw [if_neg h]
theorem iQ{es:List (Int×Int)}{x:Nat}:yj es x []=[(-1,(x:Int),-1)]:=rfl
def pf(w:World)(g n:Nat)(A:Option Addr)(cap:Nat)(es:List (Int×Int))(r:List Itm)(pl:List Int)(x:Nat)(outs:List Int)(e:Ending)(w':World):Prop:=
 ∃v,e = .returned (.tuple #[v,.int .i64 0])∧But [g] w w'∧RFrt w' g n A cap es (yf es r x outs) (pl++[(x:Int)])∧w'.ownsRow w.heap.size 81 3 v (zA r x).length (ju (zA r x))
set_option maxRecDepth 20000 in
set_option maxHeartbeats 8000000 in
theorem cR(w:World)(g n:Nat)(A X:Option Addr)(cap cx:Nat)(es:List (Int×Int))(r:List Itm)(pl outs:List Int)(x:Nat)(h:RFrt w g n A cap es r pl)(hX:jr w g X (jf outs))(hx:x<n)(hl:es.length≤500)(hr:r.length≤50000)(hp:pl.length≤500)(hv:∀e∈r,fE es e)(hyes:qT es r pl x=true)(hO:outs.Perm (jK es Prod.fst (x:Nat) es.length)) :
  Calls Tryz.prog 117 #[.pointer (some ⟨g,0,none⟩),.int .i64 (x:Nat),.slice X outs.length cx] w (pf w g n A cap es r pl x outs):=by
 have HR:=XQ w g n A cap es r pl x h hx (by omega) hr (by omega) hv;rw [hyes] at HR;have HR:=Lib.hid HR;have H:=Lib.hid h;have HX:=Lib.hid hX;have HO:=Lib.hid hO;have hOl:=hO.length_eq;have hol:outs.length≤500:=by have:=qd es Prod.fst (x:Nat) es.length;omega
 have HOM:=Lib.hid (show ∀i∈outs,∃j:Nat,i=j∧j<es.length from fun i hi=>by
  obtain ⟨j,h1,h2,_⟩:=ql.1 (hO.mem_iff.1 hi)
  exact ⟨j,h1,h2⟩)
 have hgl0:=h.lt;obtain ⟨vi,vp,hG,hI,hP⟩:=h.st;obtain ⟨Ai,ci,rfl⟩:=jv hI;obtain ⟨Ap,cp,rfl⟩:=jv hP;have HG0:=Lib.hid hG;have HI0:=Lib.hid hI;have HP0:=Lib.hid hP;have HIF:=Lib.hid (KH hI);clear h hX hO hv hyes hG hI hP
 go_enter Tryz.func117,Tryz.ntmps117
 go_wp2_with fail;refine HR.out.mono ?_;rintro e w2 ⟨rfl,hb2⟩;have H2:=Lib.hid (H.out.next hb2);have HB2:=Lib.hid hb2;have HG2:=Lib.hid (HG0.out.below hb2 hgl0);have z0:=HG2.out.cell 0;have z1:=HG2.out.cell 1;simp only [List.getElem?_toArray,List.getElem?_cons_zero,List.getElem?_cons_succ] at z0 z1;clear hb2 HR;go_wp2_with fail;refine (Qo n A cap es x true w2 (H2.out.ec.more (Nat.le_of_lt H2.out.lt)) (by omega)).mono ?_;rintro e w3 ⟨v3,rfl,hb3,ho3⟩;simp only [if_true] at ho3;obtain ⟨A3,c3,rfl⟩:=jv ho3;obtain ⟨L,hL⟩:∃L,L=jK es Prod.fst (x:Nat) es.length:=⟨_,rfl⟩;rw [←hL] at ho3 HO hOl ⊢;rw [←hOl] at ho3 ⊢;have HOL:=Lib.hid hOl.symm;have hlz:((outs.length:Int) != (outs.length:Int))=false:=by simp
 have HC3:=Lib.hid (jr.of_own ho3);have HB3:=Lib.hid (HB2.out.trans (hb3.mono HB2.out.size));have HG3:=Lib.hid (HG2.out.below hb3 HG2.out.lt);have HX3:=Lib.hid (show jr w3 g X (jf outs) from HX.out.keep (fun p hp=>HB3.out.cell (by omega)));have HE3:=Lib.hid (show jr w3 g A (jA es) from H2.out.ec.keep (fun p hp=>hb3.cell (by have:=H2.out.lt;omega)))
 have HPL:=Lib.hid (show ∀i (h:i<L.length),decide (xX outs L[i]≥0)=true from fun i h=>by
  have h1:=HO.out.mem_iff.2 (List.getElem_mem h)
  exact decide_eq_true (ZC.1.2 h1))
 clear z0 z1 hb3 ho3 hL hOl;have hgw3:g<w3.heap.size:=HG3.out.lt;go_wp2_with fail;clear hlz
 go_loopg [9] outs.length (fun k s9 wr=>∃i:Nat,s9 = .int .i64 i∧i≤outs.length∧k=outs.length-i∧w3=wr)
 case atStart=>exact ⟨0,rfl,Nat.zero_le _,rfl,rfl⟩
 case round=>
  obtain ⟨i,rfl,hi,hk,rfl⟩:=hrel;have Hk:=Lib.hid hk;clear hk;by_cases hlt:i<outs.length
  ·have hlt':(i:Int)<outs.length:=by omega
   obtain ⟨b3,o3,rfl,_,hcc⟩:=HC3.out.ints (by rw [HOL.out];omega);have e0:=hcc i (by rw [HOL.out];exact hlt);have HH:=bD X cx outs (L[i]'(by rw [HOL.out];exact hlt)) w3 g HX3.out (by omega);rw [HPL.out i (by rw [HOL.out];exact hlt)] at HH;have HH:=Lib.hid HH;generalize L[i]'(by rw [HOL.out];exact hlt)=u at *;clear hcc;go_wp2_with fail;refine HH.out.mono ?_;rintro e w4 ⟨rfl,rfl⟩;clear HH;go_wp2_with fail
   go_roundg (outs.length-(i+1))
   case measure=>rw [Hk.out];omega
   case rel=>exact ⟨i+1,by go_num,by omega,rfl,rfl⟩
  ·have hlt':¬(i:Int)<outs.length:=by omega
   clear Hk HPL
   have HW0:=Lib.hid (show (w3.alloc (.cells #[] 81)).ownsRow w.heap.size 81 3 (.slice (some ⟨w3.heap.size,0,none⟩) 0 0) 0 [] from
    vl (R:=#[]) HB3.out.size (by simpa using Blk.new w3 81 #[]) (by simp) (Nat.le_refl _) (by unfold maxLen;omega) (by simp))
   have hb4:=(Below.refl w3.heap.size w3).alloc (Nat.le_refl _) (.cells #[] 81);have HB4:=Lib.hid (HB3.out.trans (hb4.mono HB3.out.size));have HG4:=Lib.hid (HG3.out.below hb4 hgw3);have HX4:=Lib.hid (show jr (w3.alloc (.cells #[] 81)) g X (jf outs) from HX3.out.keep (fun p hp=>hb4.cell (by omega)));have HE4:=Lib.hid (show jr (w3.alloc (.cells #[] 81)) g A (jA es) from HE3.out.keep (fun p hp=>hb4.cell (by omega)))
   go_upto_region 12 with fail
   clear hb4;generalize w3.alloc (.cells #[] 81)=w4 at *;have hgw4:g<w4.heap.size:=HG4.out.lt;obtain ⟨F,hF⟩:∃F:Int→Itm,F=fun i=>(i,(x:Int),(es.getD i.toNat (0,0)).2):=⟨_,rfl⟩;have HF:=Lib.hid hF;clear hF;go_wp2_with fail
   go_loopg [10,11] outs.length (fun k s10 s11 wr=>∃(i:Nat) (Av:Option Addr) (cv:Nat),s11 = .int .i64 i∧i≤outs.length∧k=outs.length-i∧s10 = .slice Av i cv∧Below w.heap.size w wr∧Below w.heap.size w4 wr∧wr.ownsRow w.heap.size 81 3 (.slice Av i cv) i (ju ((outs.map F).take i)))
   case atStart=>exact ⟨0,_,_,rfl,Nat.zero_le _,rfl,rfl,HB4.out,Below.refl _ _,HW0.out⟩
   case round=>
    obtain ⟨i,Av,cv,rfl,hi,hk,rfl,hbr,hb4r,how⟩:=hrel;have Hk:=Lib.hid hk;have HBR:=Lib.hid hbr;have HB4R:=Lib.hid hb4r;have HW:=Lib.hid how;have HGR:=Lib.hid (HG4.out.below hb4r hgl0);have hgr:g<wr.heap.size:=HGR.out.lt;have z1:=HGR.out.cell 1;simp only [List.getElem?_toArray,List.getElem?_cons_zero,List.getElem?_cons_succ] at z1;clear hk hbr how;by_cases hlt:i<outs.length
    ·have hlt':(i:Int)<outs.length:=by omega
     obtain ⟨bx,ox,eX,hbx,hcx⟩:=HX4.out.ints (by omega);have e0:=(hb4r.cell (p:=⟨bx,ox+i,none⟩) (by simp only;omega)).trans (hcx i hlt);obtain ⟨j,hj,hjl⟩:=HOM.out outs[i] (List.getElem_mem hlt);obtain ⟨be,oe,eE,hbe0,hce⟩:=HE4.out.edges (by omega);obtain ⟨_,d1⟩:=hce j hjl;have e1:=(hb4r.cell (p:=⟨be,oe+j*2+1,none⟩) (by simp only;omega)).trans d1;have hjl':(j:Int)<es.length:=by omega
     have hbx:bx<wr.drew.heap.size:=by have:=hb4r.size;simp only [World.size_drew];omega
     have hbe:be<wr.drew.heap.size:=by have:=hb4r.size;simp only [World.size_drew];omega
     subst eX eE;rw [hj] at e0
     have HCN:=Lib.hid (show ju ((outs.map F).take i)++[.int .i64 (j:Nat),.int .i64 (x:Nat),.int .i64 es[j].2]=ju ((outs.map F).take (i+1)) by
      rw [List.take_succ_eq_append_getElem (by simpa using hlt),List.getElem_map,hj,HF.out,yh]
      simp [ju,hjl])
     obtain ⟨hd,hhd⟩:∃hd,hd=es[j].2:=⟨_,rfl⟩;rw [←hhd] at e1 HCN;obtain ⟨CO,hCO⟩:∃C,C=ju ((outs.map F).take i):=⟨_,rfl⟩;obtain ⟨CN,hCN⟩:∃C,C=ju ((outs.map F).take (i+1)):=⟨_,rfl⟩;rw [←hCO] at HW;rw [←hCO,←hCN] at HCN;have HCNE:=Lib.hid hCN;clear hcx hce d1 hj hhd hCO hCN hb4r
     go_upto_region 15 with fail
     refine R3.wp_region_i w.heap.size [[],[81]] [0,0,0,0,0,0,0,0,0,0,0,0,0,0,0,0,0,0,0,0,1,0]
      [([],.val (.slice Av i cv)),([],.val (.slice (some ⟨bx,ox,none⟩) outs.length cx)),([],.val (.int .i64 (i:Nat))),([1,2],.val (.pointer (some ⟨bx,ox+i,none⟩))),([3],.val (.int .i64 (j:Nat))),([],.val (.int .i64 (x:Nat))),([],.val (.pointer (some ⟨g,0,none⟩))),([6],.val (.pointer (some ⟨g,0,none⟩))),([7],.val (.pointer (some ⟨g,0,none⟩))),([8],.val (.pointer (some ⟨g,1,none⟩))),([9],.val (.slice (some ⟨be,oe,none⟩) es.length cap)),([],.val (.slice (some ⟨bx,ox,none⟩) outs.length cx)),([],.val (.int .i64 (i:Nat))),([11,12],.val (.pointer (some ⟨bx,ox+i,none⟩))),([13],.val (.int .i64 (j:Nat))),([10,14],.val (.pointer (some ⟨be,oe+j*2,none⟩))),([15],.val (.pointer (some ⟨be,oe+j*2+1,none⟩))),([16],.val (.int .i64 hd)),([4,5,17],.val (.agg #[.int .i64 (j:Nat),.int .i64 (x:Nat),.int .i64 hd])),([18],.row 81 #[.int .i64 (j:Nat),.int .i64 (x:Nat),.int .i64 hd] 1 1),([0,19],.own 81 3 (i+1) CN),([20],.own 81 3 (i+1) CN)] [21] (by kernel_rfl) (by kernel_rfl) (fun us=>?_) ?_
     ·refine R3.pgo_pure _ rfl rfl (fun wv hw hu=>⟨.slice Av i cv,?_,rfl⟩) ?_
      ·have tok:=True.intro;clear hw hu;go_simp
      refine R3.pgo_pure _ rfl rfl (fun wv hw hu=>⟨.slice (some ⟨bx,ox,none⟩) outs.length cx,?_,rfl⟩) ?_
      ·have tok:=True.intro;clear hw hu;go_simp
      refine R3.pgo_pure _ rfl rfl (fun wv hw hu=>⟨.int .i64 (i:Nat),?_,rfl⟩) ?_
      ·have tok:=True.intro;clear hw hu;go_simp
      refine R3.pgo_pure _ rfl rfl (fun wv hw hu=>⟨.pointer (some ⟨bx,ox+i,none⟩),?_,rfl⟩) ?_
      ·have tok:=True.intro;have h1:us 1 = .slice (some ⟨bx,ox,none⟩) outs.length cx:=hu.1;have h2:us 2 = .int .i64 (i:Nat):=hu.2.1;clear hw hu;go_simp
      refine R3.pgo_pure _ rfl rfl (fun wv hw hu=>⟨.int .i64 (j:Nat),?_,rfl⟩) ?_
      ·have tok:=True.intro;have h3:us 3 = .pointer (some ⟨bx,ox+i,none⟩):=hu.1;have zx:wv.cell? ⟨bx,ox+i,none⟩=some (.int .i64 (j:Nat)):=((yG (by kernel_rfl) hw).cell (p:=⟨bx,ox+i,none⟩) hbx).trans e0;clear hw hu;go_simp
      refine R3.pgo_pure _ rfl rfl (fun wv hw hu=>⟨.int .i64 (x:Nat),?_,rfl⟩) ?_
      ·have tok:=True.intro;clear hw hu;go_simp
      refine R3.pgo_pure _ rfl rfl (fun wv hw hu=>⟨.pointer (some ⟨g,0,none⟩),?_,rfl⟩) ?_
      ·have tok:=True.intro;clear hw hu;go_simp
      refine R3.pgo_pure _ rfl rfl (fun wv hw hu=>⟨.pointer (some ⟨g,0,none⟩),?_,rfl⟩) ?_
      ·have tok:=True.intro;have h6:us 6 = .pointer (some ⟨g,0,none⟩):=hu.1;clear hw hu;go_simp
      refine R3.pgo_pure _ rfl rfl (fun wv hw hu=>⟨.pointer (some ⟨g,0,none⟩),?_,rfl⟩) ?_
      ·have tok:=True.intro;have h7:us 7 = .pointer (some ⟨g,0,none⟩):=hu.1;clear hw hu;go_simp
      refine R3.pgo_pure _ rfl rfl (fun wv hw hu=>⟨.pointer (some ⟨g,1,none⟩),?_,rfl⟩) ?_
      ·have tok:=True.intro;have h8:us 8 = .pointer (some ⟨g,0,none⟩):=hu.1;clear hw hu;go_simp
      refine R3.pgo_pure _ rfl rfl (fun wv hw hu=>⟨.slice (some ⟨be,oe,none⟩) es.length cap,?_,rfl⟩) ?_
      ·have tok:=True.intro;have h9:us 9 = .pointer (some ⟨g,1,none⟩):=hu.1;have zg:wv.cell? ⟨g,1,none⟩=some (.slice (some ⟨be,oe,none⟩) es.length cap):=((yG (by kernel_rfl) hw).cell (p:=⟨g,1,none⟩) hgr).trans z1;clear hw hu;go_simp
      refine R3.pgo_pure _ rfl rfl (fun wv hw hu=>⟨.slice (some ⟨bx,ox,none⟩) outs.length cx,?_,rfl⟩) ?_
      ·have tok:=True.intro;clear hw hu;go_simp
      refine R3.pgo_pure _ rfl rfl (fun wv hw hu=>⟨.int .i64 (i:Nat),?_,rfl⟩) ?_
      ·have tok:=True.intro;clear hw hu;go_simp
      refine R3.pgo_pure _ rfl rfl (fun wv hw hu=>⟨.pointer (some ⟨bx,ox+i,none⟩),?_,rfl⟩) ?_
      ·have tok:=True.intro;have h11:us 11 = .slice (some ⟨bx,ox,none⟩) outs.length cx:=hu.1;have h12:us 12 = .int .i64 (i:Nat):=hu.2.1;clear hw hu;go_simp
      refine R3.pgo_pure _ rfl rfl (fun wv hw hu=>⟨.int .i64 (j:Nat),?_,rfl⟩) ?_
      ·have tok:=True.intro;have h13:us 13 = .pointer (some ⟨bx,ox+i,none⟩):=hu.1;have zx:wv.cell? ⟨bx,ox+i,none⟩=some (.int .i64 (j:Nat)):=((yG (by kernel_rfl) hw).cell (p:=⟨bx,ox+i,none⟩) hbx).trans e0;clear hw hu;go_simp
      refine R3.pgo_pure _ rfl rfl (fun wv hw hu=>⟨.pointer (some ⟨be,oe+j*2,none⟩),?_,rfl⟩) ?_
      ·have tok:=True.intro;have h10:us 10 = .slice (some ⟨be,oe,none⟩) es.length cap:=hu.1;have h14:us 14 = .int .i64 (j:Nat):=hu.2.1;clear hw hu;go_simp
      refine R3.pgo_pure _ rfl rfl (fun wv hw hu=>⟨.pointer (some ⟨be,oe+j*2+1,none⟩),?_,rfl⟩) ?_
      ·have tok:=True.intro;have h15:us 15 = .pointer (some ⟨be,oe+j*2,none⟩):=hu.1;clear hw hu;go_simp
      refine R3.pgo_pure _ rfl rfl (fun wv hw hu=>⟨.int .i64 hd,?_,rfl⟩) ?_
      ·have tok:=True.intro;have h16:us 16 = .pointer (some ⟨be,oe+j*2+1,none⟩):=hu.1;have ze:wv.cell? ⟨be,oe+j*2+1,none⟩=some (.int .i64 hd):=((yG (by kernel_rfl) hw).cell (p:=⟨be,oe+j*2+1,none⟩) hbe).trans e1;clear hw hu;go_simp
      refine R3.pgo_pure _ rfl rfl (fun wv hw hu=>⟨.agg #[.int .i64 (j:Nat),.int .i64 (x:Nat),.int .i64 hd],?_,rfl⟩) ?_
      ·have tok:=True.intro;have h4:us 4 = .int .i64 (j:Nat):=hu.1;have h5:us 5 = .int .i64 (x:Nat):=hu.2.1;have h17:us 17 = .int .i64 hd:=hu.2.2.1;clear hw hu;go_simp
      refine R3.pgo_op _ rfl rfl (fun K wv hw hu hK=>?_) ?_
      ·have tok:=True.intro;have h18:us 18 = .agg #[.int .i64 (j:Nat),.int .i64 (x:Nat),.int .i64 hd]:=hu.1;have h18:us 18 = .agg #[.int .i64 (j:Nat),.int .i64 (x:Nat),.int .i64 hd]:=hu.1;have hsv:w.heap.size≤wv.heap.size:=Nat.le_trans HBR.out.size hw.size;have hfin:=hK (.slice (some ⟨wv.heap.size,0,none⟩) 1 1) (wv.alloc (.cells #[.int .i64 (j:Nat),.int .i64 (x:Nat),.int .i64 hd] 81)) (Evo.of_below ((Below.refl _ _).alloc (Nat.le_refl _) _)) ⟨_,rfl,hsv,Blk.new _ _ _⟩;refine xu (v:=.slice (some ⟨wv.heap.size,0,none⟩) 1 1) (w':=wv.alloc (.cells #[.int .i64 (j:Nat),.int .i64 (x:Nat),.int .i64 hd] 81)) ?_ hfin;clear hw hu hK hfin hsv;go_simp
      refine R3.pgo_op _ rfl rfl (fun K wv hw hu hK=>?_) ?_
      ·have tok:=True.intro;have h0:us 0 = .slice Av i cv:=hu.1;have h0:us 0 = .slice Av i cv:=hu.1;obtain ⟨g5,h19,hg5,hb5⟩:=hu.2.1;have how:wv.ownsRow w.heap.size 81 3 (.slice Av i cv) i CO:=qA (show wr.drew.ownsRow w.heap.size 81 3 (.slice Av i cv) i CO from HW.out) hw (of_decide_eq_true (by kernel_rfl));have hsv:w.heap.size≤wv.heap.size:=Nat.le_trans HBR.out.size hw.size;refine zE zB _ _ rfl (by repeat (first | (with_reducible exact (qg _ _ _ (by simp [])).trans h0) | (with_reducible refine yk _ _ _ _ _ (by decide) ?_))) how (by repeat (first | (with_reducible exact (qg _ _ _ (by simp [qF])).trans h19) | (with_reducible refine yk _ _ _ _ _ (by decide) ?_))) (jr.blk' (xs:=[.int .i64 (j:Nat),.int .i64 (x:Nat),.int .i64 hd]) hb5) rfl rfl (by omega) (by omega) hsv fun v' w' ho' hgr2 hd2=>?_;obtain ⟨A8,c8,rfl⟩:=jv ho';rw [HCN.out] at ho';exact hK _ _ (Evo.of_grown how hgr2 (by decide) (Nat.le_refl _)) ⟨_,_,rfl,ho'⟩
      refine R3.pgo_val _ rfl rfl (fun wv hw hu=>?_) ?_
      ·have tok:=True.intro;obtain ⟨A20,c20,h20,ho20⟩:=hu.1;refine ⟨us 20,wv,?_,Evo.refl _ _ _,⟨A20,c20,h20,ho20⟩⟩;rw [h20];clear hw hu ho20;go_simp
      trivial
     ·intro us w7 hw hu;obtain ⟨A21,c21,h21,ho21⟩:=hu.1;have hb7:Below w.heap.size wr w7:=vG (hw.below (show w.heap.size≤wr.drew.heap.size from HBR.out.size));have hb47:Below w.heap.size w4 w7:=HB4R.out.trans hb7;have HBN:=Lib.hid (HBR.out.trans hb7);have HB4N:=Lib.hid hb47;have HWN:=Lib.hid ho21;rw [h21,HCNE.out] at HWN;clear hw hu ho21 hb7 hb47;simp only [kx];go_simp;go_wp2_with fail
      go_roundg (outs.length-(i+1))
      case measure=>rw [Hk.out];omega
      case rel=>exact ⟨i+1,A21,c21,by go_num,by omega,rfl,rfl,HBN.out,HB4N.out,HWN.out⟩
    ·have hlt':¬(i:Int)<outs.length:=by omega
     have hie:i=outs.length:=by omega
     have HWF:=Lib.hid (show wr.ownsRow w.heap.size 81 3 (.slice Av outs.length cv) outs.length (ju (outs.map F)) by
      have h1:=HW.out;rw [hie,List.take_of_length_le (by simp)] at h1
      exact h1)
     subst hie;clear hb4r z1 Hk HW hlt';by_cases h0:outs.length=0
     ·have hon:=List.length_eq_zero_iff.1 h0;subst hon;have HOWN:=Lib.hid (show wr.ownsRow w.heap.size 81 3 (.slice Av 0 cv) 0 [] from HWF.out);have hsw:=HBR.out.size;have hz0:(((([]:List Int).length:Nat):Int)==0)=true:=rfl;clear h0 HWF;rw [List.length_nil];go_wp2_with (at_builtin;refine yC zB rfl _ _ rfl w.heap.size (.slice Av 0 cv) 0 _ ?hx wr.heap.size [.int .i64 (-1),.int .i64 (x:Nat),.int .i64 (-1)] ?hy rfl HOWN.out rfl rfl ?m2 ?m3 ?m4 ?_)
      case hx=>simp only [Act.eval];simp
      case hy=>simp only [Act.eval];simp
      case m2=>omega
      case m3=>omega
      try (case m4=>omega)
      intro v5 wq hoq hgq _;have HBQ:=Lib.hid (qb HBR.out HOWN.out hgq hsw (Nat.le_refl _));obtain ⟨Av2,cv2,rfl⟩:=jv hoq
      have HWA:=Lib.hid (show wq.ownsRow w.heap.size 81 3 (.slice Av2 (yj es x []).length cv2) (yj es x []).length (ju (yj es x [])) from by
       rw [iQ]
       simpa [ju] using hoq)
      have hV:Value.slice Av2 1 cv2 = .slice Av2 (yj es x []).length cv2:=rfl;rw [hV];clear hoq hgq hV hz0;have HAL:=Lib.hid (@kh es x ([]:List Int));obtain ⟨ab,hab⟩:∃ab,ab=yj es x ([]:List Int):=⟨_,rfl⟩;rw [←hab] at HWA HAL ⊢;obtain ⟨m,hm⟩:∃m,m=ab.length:=⟨_,rfl⟩;rw [←hm] at HWA HAL ⊢;have hml:m≤501:=by have:=HAL.out;omega
      have HABE:=Lib.hid hab;have HME:=Lib.hid hm;have HGQ:=Lib.hid (HG0.out.below HBQ.out hgl0);have hgq:g<wq.heap.size:=HGQ.out.lt;have HIQ:=Lib.hid (jT HI0.out HBQ.out (Nat.le_refl _));have HPQ:=Lib.hid (jT HP0.out HBQ.out (Nat.le_refl _));clear hab hm;have z2:=HGQ.out.cell 2;have z3:=HGQ.out.cell 3;simp only [List.getElem?_toArray,List.getElem?_cons_zero,List.getElem?_cons_succ] at z2 z3;go_wp2_with fail
      go_loopg [12,13,14] r.length (fun k s12 s13 s14 wz=>∃i:Nat,s14 = .int .i64 i∧i≤r.length∧k=r.length-i∧s12 = .int .i64 (qx (x:Int) r i).1∧s13 = .int .i64 ((qx (x:Int) r i).2.1-1)∧wq=wz)
      case atStart=>exact ⟨0,rfl,Nat.zero_le _,rfl,rfl,rfl,rfl⟩
      case round=>
       obtain ⟨i,rfl,hi,hk,rfl,rfl,rfl⟩:=hrel;have Hk:=Lib.hid hk;clear hk;have hsf:=kX (x:Int) r i;by_cases hlt:i<r.length
       ·have hlt':(i:Int)<r.length:=by omega
        obtain ⟨b,off,eA,hbb,hc⟩:=(jr.of_own HIQ.out).items (by omega);obtain ⟨c0,c1,c2⟩:=hc i hlt;subst eA
        have HS:=Lib.hid (show qx (x:Int) r (i+1)=if r[i].2.2=(x:Int) then (if (qx (x:Int) r i).1 = -1 then (i:Int) else (qx (x:Int) r i).1,(i:Int)+1,(qx (x:Int) r i).2.2+1) else qx (x:Int) r i by
         rw [qx,List.getD_eq_getElem?_getD,List.getElem?_eq_getElem hlt,Option.getD_some])
        clear hc;generalize qx (x:Int) r i=S at *;generalize r[i].1=e1 at *;generalize r[i].2.1=e2 at *;generalize r[i].2.2=e3 at *;obtain ⟨S1,S2,S3⟩:=S;simp only at hsf HS ⊢;by_cases h1:e3=(x:Int)
        ·have h1':(e3==(x:Int))=true:=by simp [h1]
         rw [if_pos h1] at HS;clear h1;by_cases h2:S1 = -1
         ·have h2':S1<0:=by omega
          rw [if_pos h2] at HS;clear h2 hsf;go_wp2_with fail
          go_roundg (r.length-(i+1))
          case measure=>rw [Hk.out];omega
          case rel=>exact ⟨i+1,by go_num,by omega,rfl,by rw [HS.out],by rw [HS.out];simp,rfl⟩
         ·have h2':¬S1<0:=by
           rcases hsf with ⟨_,h⟩ | ⟨f,t,h,_⟩
           ·exact absurd (congrArg Prod.fst h) h2
           ·omega
          rw [if_neg h2] at HS;clear h2 hsf;go_wp2_with fail
          go_roundg (r.length-(i+1))
          case measure=>rw [Hk.out];omega
          case rel=>exact ⟨i+1,by go_num,by omega,rfl,by rw [HS.out],by rw [HS.out];simp,rfl⟩
        ·have h1':(e3==(x:Int))=false:=by simp [h1]
         rw [if_neg h1] at HS;clear h1 hsf;go_wp2_with fail
         go_roundg (r.length-(i+1))
         case measure=>rw [Hk.out];omega
         case rel=>exact ⟨i+1,by go_num,by omega,rfl,by rw [HS.out],by rw [HS.out],rfl⟩
       ·have hie:i=r.length:=by omega
        subst hie;clear hlt Hk;have HPLC:=Lib.hid (show yf es r x ([]:List Int)=xI r (qx (x:Int) r r.length).1.toNat (qx (x:Int) r r.length).2.1.toNat ab by rw [HABE.out];rfl);have HGON:=Lib.hid (show zA r x=(r.take (qx (x:Int) r r.length).2.1.toNat).drop (qx (x:Int) r r.length).1.toNat from rfl);generalize qx (x:Int) r r.length=S at *;obtain ⟨S1,S2,S3⟩:=S;simp only at hsf HPLC HGON ⊢
        have ho0:(wq.alloc (.cells #[] 3)).ownsRow w.heap.size 3 1 (.slice (some ⟨wq.heap.size,0,none⟩) 0 0) 0 []:=
         vl (R:=#[]) HBQ.out.size (by simpa using Blk.new wq 3 #[]) (by simp) (Nat.le_refl _) (by unfold maxLen;omega) (by simp)
        have hb5:=(Below.refl wq.heap.size wq).alloc (Nat.le_refl _) (.cells #[] 3);have hCp:=(jr.of_own HPQ.out).below hb5;have HB5:=Lib.hid (HBQ.out.trans (hb5.mono HBQ.out.size));have hs5:=HB5.out.size;have HWA5:=Lib.hid (jT HWA.out hb5 (Nat.le_refl _));go_wp2_with (at_builtin;refine yU qz rfl _ _ rfl rfl ho0 rfl hCp (show (jf pl).length=pl.length*1 by simp [jf]) (xB _) ?h2a ?h3a ?h4a ?_)
        case h2a=>omega
        case h3a=>omega
        try (case h4a=>exact hs5)
        intro v6 w6 ho6 hg6 _;have HB6:=Lib.hid (qb HB5.out ho0 hg6 hs5 (Nat.le_refl _));have HG6:=Lib.hid (HG0.out.below HB6.out hgl0);obtain ⟨A6,c6,rfl⟩:=jv ho6;have HO6:=Lib.hid (show w6.ownsRow w.heap.size 3 1 (.slice A6 pl.length c6) pl.length (jf pl) by simpa using ho6);have HWA6:=Lib.hid (qA HWA5.out (Evo.of_grown ho0 hg6 (List.mem_singleton.2 rfl) (Nat.le_refl _)) (by decide));have hs6:=HB6.out.size;have hgq6:g<w6.heap.size:=HG6.out.lt;clear ho0 ho6 hg6 hb5 hCp z3 z2;go_wp2_with (at_builtin;refine yC qz rfl _ _ rfl w.heap.size (.slice A6 pl.length c6) pl.length _ ?hxa w6.heap.size [.int .i64 (x:Nat)] ?hya rfl HO6.out rfl rfl ?k2a ?k3a ?k4a ?_)
        case hxa=>simp only [Act.eval];simp
        case hya=>simp only [Act.eval];simp
        case k2a=>omega
        case k3a=>omega
        try (case k4a=>omega)
        intro v7 w7 ho7 hg7 _;have HB7:=Lib.hid (qb HB6.out HO6.out hg7 hs6 (Nat.le_refl _));have HG7:=Lib.hid (HG0.out.below HB7.out hgl0);obtain ⟨A7,c7,rfl⟩:=jv ho7;have HO7:=Lib.hid (show w7.ownsRow w.heap.size 3 1 (.slice A7 (pl.length+1) c7) (pl++[(x:Int)]).length (jf (pl++[(x:Int)])) by simpa [jf] using ho7);have HWA7:=Lib.hid (qA HWA6.out (Evo.of_grown HO6.out hg7 (List.mem_singleton.2 rfl) (Nat.le_refl _)) (by decide));have HI7:=Lib.hid (jT HI0.out HB7.out (Nat.le_refl _));have hgq7:g<w7.heap.size:=HG7.out.lt;have f3:=HG7.out.frozen 3;have y3:=HG7.out.cell 3;have HGS:=Lib.hid (HG7.out.set_ 3 (.slice A7 (pl.length+1) c7));have HBT:=Lib.hid ((But.of_below [g] HB7.out (Nat.le_refl _)).trans (show But [g] w7 (w7.setCell ⟨g,3,none⟩ (.slice A7 (pl.length+1) c7)) from But.set_ w7 (by simp) 3 _));have hbt:But [g] w7 (w7.setCell ⟨g,3,none⟩ (.slice A7 (pl.length+1) c7)):=But.set_ w7 (by simp) 3 _;have HWAS:=Lib.hid (yF HWA7.out hbt (fun k hk=>by simp only [List.mem_singleton] at hk;omega));have HOS:=Lib.hid (yF HO7.out hbt (fun k hk=>by simp only [List.mem_singleton] at hk;omega));have HIS:=Lib.hid (yF HI7.out hbt (fun k hk=>by simp only [List.mem_singleton] at hk;omega));simp only [List.getElem?_toArray,List.getElem?_cons_zero,List.getElem?_cons_succ] at y3;obtain ⟨ws,hws⟩:∃ws,ws=w7.setCell ⟨g,3,none⟩ (.slice A7 (pl.length+1) c7):=⟨_,rfl⟩;have y2:=HGS.out.cell 2;have f2:=HGS.out.frozen 2;simp at y2;rw [←hws] at HGS HBT HWAS HOS HIS y2 f2;have HWS:=Lib.hid hws;have hsws:w.heap.size≤ws.heap.size:=HBT.out.size;clear ho7 hg7 hbt hws;rcases hsf with ⟨h30,hS⟩ | ⟨f,t,h1,h2,hft,htr,hpos⟩
        ·injection hS with hS1 hS2;injection hS2 with hS2 hS3;subst hS1 hS2 hS3;have HPL2:=Lib.hid (show yf es r x ([]:List Int)=ab++r by rw [HPLC.out];unfold xI;simp);have HGO2:=Lib.hid (show zA r x=[] by rw [HGON.out];simp);clear h30
         go_upto_region 27 with fail
         rw [←HWS.out];go_wp2_with (at_builtin;refine yU zB rfl _ _ rfl rfl HWAS.out rfl (jr.of_own HIS.out) (jV r) (yg r) ?p2a ?p3a ?p4a ?_)
         case p2a=>omega
         case p3a=>omega
         try (case p4a=>exact hsws)
         intro v8 w8 ho8 hg8 _;have he8:=Evo.of_grown HWAS.out hg8 (List.mem_singleton.2 rfl) (Nat.le_refl _);have HG8:=Lib.hid (HGS.out.evo he8 (.inr (by decide)));have HO8:=Lib.hid (qA HOS.out he8 (by decide));have HB8:=Lib.hid (HBT.out.below2 (he8.below hsws));have HR8:=Lib.hid ho8;obtain ⟨A8,c8,rfl⟩:=jv ho8;have y8:=HG8.out.cell 2;have f8:=HG8.out.frozen 2;simp at y8;have hb9:But [g] w8 (w8.setCell ⟨g,2,none⟩ (.slice A8 (m+r.length) c8)):=But.set_ w8 (by simp) 2 _;have HG9:=Lib.hid (HG8.out.set_ 2 (.slice A8 (m+r.length) c8));have HO9:=Lib.hid (yF HO8.out hb9 (fun k hk=>by simp only [List.mem_singleton] at hk;omega));have HR9:=Lib.hid (yF HR8.out hb9 (fun k hk=>by simp only [List.mem_singleton] at hk;omega));have HB9:=Lib.hid (HB8.out.trans hb9);clear ho8 hg8 he8 hb9 y2 f2;go_wp2_with fail;go_ret2;refine ⟨_,rfl,HB9.out,?_,?_⟩
         ·refine H.out.but HB9.out (vr:=.slice A8 (m+r.length) c8) (vp:=.slice A7 (pl.length+1) c7) (by simpa using HG9.out) ?_ (qh HO9.out (by omega));rw [HPL2.out,List.length_append,←HME.out,yh];exact qh HR9.out (by omega)
         ·rw [HGO2.out];exact World.ownsRow_nil _ _ _ _
        ·subst h1 h2;have hf0:¬(f:Int)<0:=by omega
         obtain ⟨b,off,eA,hbb,hcA⟩:=(jr.of_own HI0.out).items (by omega);clear hcA hpos;subst eA;have hrc:r.length≤ci:=HIF.out.2;have hcif:¬ci=f:=by omega
         have hfc:(f:Int)≤ci:=by omega
         have htc:(t:Int)≤ci:=by omega
         have hfr:(f:Int)≤r.length:=by omega
         have htr':(t:Int)≤r.length:=by omega
         have hft':(f:Int)≤t:=by omega
         have hwt:IntKind.i64.wrap ((t:Int)-1+1)=(t:Int):=by rw [IntKind.wrap_i64];omega
         have hwt2:IntKind.i64.wrap (t:Int)=(t:Int):=by rw [IntKind.wrap_i64];omega
         have HPL2:=Lib.hid (show yf es r x ([]:List Int)=r.take f++ab++r.drop t by rw [HPLC.out];unfold xI;simp);have HGO2:=Lib.hid (show zA r x=(r.take t).drop f by rw [HGON.out];simp)
         have ho0:(ws.alloc (.cells #[] 81)).ownsRow ws.heap.size 81 3 (.slice (some ⟨ws.heap.size,0,none⟩) 0 0) 0 []:=
          vl (R:=#[]) (Nat.le_refl _) (by simpa using Blk.new ws 81 #[]) (by simp) (Nat.le_refl _) (by unfold maxLen;omega) (by simp)
         have hb9:=(Below.refl ws.heap.size ws).alloc (Nat.le_refl _) (.cells #[] 81);have hgws:g<ws.heap.size:=HGS.out.lt;have HNL:=Lib.hid (show ((r.take t).drop f).length=t-f by rw [List.length_drop,List.length_take];omega);have hCs:=((((jr.of_own HIS.out).itemsTake t).itemsDrop f).below hb9);have hcl:(ju ((r.take t).drop f)).length=(t-f)*3:=by rw [jV,HNL.out]
         have hs9:ws.heap.size≤(ws.alloc (.cells #[] 81)).heap.size:=by simp
         go_upto_region 27 with fail
         rw [←HWS.out];go_wp2_with (at_builtin;refine yU zB rfl _ _ rfl rfl ho0 rfl hCs hcl (yg _) ?n2a ?n3a ?n4a ?_)
         case n2a=>omega
         case n3a=>omega
         try (case n4a=>exact hs9)
         intro v10 w10 ho10 hg10 _;have hb10:Below ws.heap.size ws w10:=qb hb9 ho0 hg10 hs9 (Nat.le_refl _);have HGO:=Lib.hid (show w10.ownsRow ws.heap.size 81 3 v10 (t-f) (ju ((r.take t).drop f)) by simpa using ho10);obtain ⟨A10,c10,rfl⟩:=jv HGO.out;have HG10:=Lib.hid (HGS.out.below hb10 hgws);have HWA10:=Lib.hid (jT HWAS.out hb10 (Nat.le_refl _));have HO10:=Lib.hid (jT HOS.out hb10 (Nat.le_refl _));have HI10:=Lib.hid (jT HIS.out hb10 (Nat.le_refl _));have HB10:=Lib.hid (HBT.out.below2 (hb10.mono hsws));have hs10:ws.heap.size≤w10.heap.size:=hb10.size;clear ho0 ho10 hg10 hb10 hb9 hCs hcl hs9 y2 f2;have y2:=HG10.out.cell 2;simp at y2;have hgB:g<w10.heap.size:=HG10.out.lt
         have ho0:(w10.alloc (.cells #[] 81)).ownsRow w10.heap.size 81 3 (.slice (some ⟨w10.heap.size,0,none⟩) 0 0) 0 []:=
          vl (R:=#[]) (Nat.le_refl _) (by simpa using Blk.new w10 81 #[]) (by simp) (Nat.le_refl _) (by unfold maxLen;omega) (by simp)
         have hb9:=(Below.refl w10.heap.size w10).alloc (Nat.le_refl _) (.cells #[] 81);have hCs:=(((jr.of_own HI10.out).itemsTake f).below hb9);have hcl:(ju (r.take f)).length=f*3:=by rw [jV,List.length_take];omega
         have hs9:w10.heap.size≤(w10.alloc (.cells #[] 81)).heap.size:=by simp
         go_wp2_with (at_builtin;refine yU zB rfl _ _ rfl rfl ho0 rfl hCs hcl (yg _) ?m2a ?m3a ?m4a ?_)
         case m2a=>omega
         case m3a=>omega
         try (case m4a=>exact hs9)
         intro v11 w11 ho11 hg11 _;have hb11:Below w10.heap.size w10 w11:=qb hb9 ho0 hg11 hs9 (Nat.le_refl _);have HNX:=Lib.hid (show w11.ownsRow w10.heap.size 81 3 v11 f (ju (r.take f)) by simpa using ho11);obtain ⟨An,cn,rfl⟩:=jv HNX.out;have HG11:=Lib.hid (HG10.out.below hb11 hgB);have HWA11:=Lib.hid (jT HWA10.out hb11 (Nat.le_refl _));have HO11:=Lib.hid (jT HO10.out hb11 (Nat.le_refl _));have HI11:=Lib.hid (jT HI10.out hb11 (Nat.le_refl _));have HGO11:=Lib.hid (jT HGO.out hb11 (Nat.le_refl _));have HB11:=Lib.hid (HB10.out.below2 (hb11.mono HB10.out.size));have hs1011:w10.heap.size≤w11.heap.size:=hb11.size;clear ho0 ho11 hg11 hb9 hCs hcl hs9 y2;have y11:w11.cell? ⟨g,2,none⟩=some (.slice (some ⟨b,off,none⟩) r.length ci):=by have:=HG11.out.cell 2;simpa using this
         have HABL:=Lib.hid (show (ju ab).length=m*3 by rw [jV,HME.out]);have HRDL:=Lib.hid (show (ju (r.drop t)).length=(r.length-t)*3 by rw [jV,List.length_drop])
         have HRD:=Lib.hid (show ∀wv,Below w10.heap.size w11 wv→jr wv w10.heap.size (if ci=t then some ⟨b,off,none⟩ else some ⟨b,off+t*3,none⟩) (ju (r.drop t)) from fun wv hbv=>by
          have h1:=((jr.of_own HI10.out).below hb11).below hbv
          split
          ·exact fun hn=>absurd hn (by rw [jV,List.length_drop];omega)
          ·exact h1.itemsDrop t)
         obtain ⟨CX,hCX⟩:∃C,C=ju (r.take f)++ju ab:=⟨_,rfl⟩;have HCX:=Lib.hid hCX;obtain ⟨CL,hCL⟩:∃C,C=CX++ju (r.drop t):=⟨_,rfl⟩;have HCL:=Lib.hid hCL;obtain ⟨NL,hNL⟩:∃k,k=f+m+(r.length-t):=⟨_,rfl⟩;have HNLE:=Lib.hid hNL;clear hb11 hCX hCL hNL
         go_upto_region 32 with fail
         refine R6.wp_region_b w10.heap.size g [0,0,0,1,0,0,0,0,0,0,0,1,0,0,2]
          [([],.val (.pointer (some ⟨g,0,none⟩))),([],.val (.slice An f cn)),([],.val (.slice Av2 m cv2)),([1,2],.own w10.heap.size 81 3 (f+m) CX hgB),([],.val (.pointer (some ⟨g,0,none⟩))),([4],.val (.pointer (some ⟨g,0,none⟩))),([5],.val (.pointer (some ⟨g,2,none⟩))),([6],.val (.slice (some ⟨b,off,none⟩) r.length ci)),([],.val (.int .i64 ((t:Int)-1))),([8],.val (.int .i64 (t:Int))),([7,9],.val (.slice (if ci=t then some ⟨b,off,none⟩ else some ⟨b,off+t*3,none⟩) (r.length-t) (ci-t))),([3,10],.own w10.heap.size 81 3 NL CL hgB),([0],.val (.pointer (some ⟨g,0,none⟩))),([12],.val (.pointer (some ⟨g,2,none⟩))),([13,11],.cell w10.heap.size 168 (fun v=>#[.int .i64 n,.slice A es.length cap,v,.slice A7 (pl.length+1) c7]) 81 3 NL CL hgB)] [14] (by kernel_rfl) (by kernel_rfl) (fun us=>?_) ?_
         ·refine R6.pgo_pure _ rfl rfl (fun wv hw hu=>⟨.pointer (some ⟨g,0,none⟩),?_,rfl⟩) ?_
          ·have tok:=True.intro;clear hw hu;go_simp
          refine R6.pgo_pure _ rfl rfl (fun wv hw hu=>⟨.slice An f cn,?_,rfl⟩) ?_
          ·have tok:=True.intro;clear hw hu;go_simp
          refine R6.pgo_pure _ rfl rfl (fun wv hw hu=>⟨.slice Av2 m cv2,?_,rfl⟩) ?_
          ·have tok:=True.intro;clear hw hu;go_simp
          refine R3.pgo_op _ rfl rfl (fun K wv hw hu hK=>?_) ?_
          ·have tok:=True.intro;have h1:us 1 = .slice An f cn:=hu.1;have h2:us 2 = .slice Av2 m cv2:=hu.2.1;have h1:us 1 = .slice An f cn:=hu.1;have h2:us 2 = .slice Av2 m cv2:=hu.2.1;have hF:=(R6.in_ hw [] (by kernel_rfl)).undrew;have hbl:=hF.below (by simp) (by simp);have how:=jT HNX.out (B:=w11.heap.size) hbl (Nat.le_refl _);have hoa:=jr.of_own (jT HWA11.out (B:=w11.heap.size) hbl (Nat.le_refl _));have hsv:w10.heap.size≤wv.heap.size:=Nat.le_trans hs1011 hbl.size;refine zE zB _ _ rfl (by repeat (first | (with_reducible exact (qg _ _ _ (by simp [qF])).trans h1) | (with_reducible refine yk _ _ _ _ _ (by decide) ?_))) how (by repeat (first | (with_reducible exact (qg _ _ _ (by simp [qF])).trans h2) | (with_reducible refine yk _ _ _ _ _ (by decide) ?_))) hoa HABL.out (yg _) (by omega) (by omega) hsv fun v' w' ho' hgr2 _=>?_;exact hK _ _ (Far.of_belowB ((Evo.of_grown (T:=[81]) how hgr2 (List.mem_singleton.2 rfl) (Nat.le_refl _)).below hsv) (by simp)) (by rw [HCX.out];exact ho')
          refine R6.pgo_pure _ rfl rfl (fun wv hw hu=>⟨.pointer (some ⟨g,0,none⟩),?_,rfl⟩) ?_
          ·have tok:=True.intro;clear hw hu;go_simp
          refine R6.pgo_pure _ rfl rfl (fun wv hw hu=>⟨.pointer (some ⟨g,0,none⟩),?_,rfl⟩) ?_
          ·have tok:=True.intro;have h4:us 4 = .pointer (some ⟨g,0,none⟩):=hu.1;clear hw hu;go_simp
          refine R6.pgo_pure _ rfl rfl (fun wv hw hu=>⟨.pointer (some ⟨g,2,none⟩),?_,rfl⟩) ?_
          ·have tok:=True.intro;have h5:us 5 = .pointer (some ⟨g,0,none⟩):=hu.1;clear hw hu;go_simp
          refine R6.pgo_pure _ rfl rfl (fun wv hw hu=>⟨.slice (some ⟨b,off,none⟩) r.length ci,?_,rfl⟩) ?_
          ·have tok:=True.intro;have h6:us 6 = .pointer (some ⟨g,2,none⟩):=hu.1;have hF:=(R6.in_ hw [1] (by kernel_rfl)).undrew;have zg:wv.cell? ⟨g,2,none⟩=some (.slice (some ⟨b,off,none⟩) r.length ci):=((hF.belowB (B:=w10.heap.size) (by simp) hs1011).cell (p:=⟨g,2,none⟩) hgB).trans y11;clear hw hu;go_simp
          refine R6.pgo_pure _ rfl rfl (fun wv hw hu=>⟨.int .i64 ((t:Int)-1),?_,rfl⟩) ?_
          ·have tok:=True.intro;clear hw hu;go_simp
          refine R6.pgo_pure _ rfl rfl (fun wv hw hu=>⟨.int .i64 (t:Int),?_,rfl⟩) ?_
          ·have tok:=True.intro;have h8:us 8 = .int .i64 ((t:Int)-1):=hu.1;clear hw hu;go_simp
          refine R6.pgo_pure _ rfl rfl (fun wv hw hu=>⟨.slice (if ci=t then some ⟨b,off,none⟩ else some ⟨b,off+t*3,none⟩) (r.length-t) (ci-t),?_,rfl⟩) ?_
          ·have tok:=True.intro;have h7:us 7 = .slice (some ⟨b,off,none⟩) r.length ci:=hu.1;have h9:us 9 = .int .i64 (t:Int):=hu.2.1;clear hw hu;go_simp
          refine R3.pgo_op _ rfl rfl (fun K wv hw hu hK=>?_) ?_
          ·have tok:=True.intro;have h10:us 10 = .slice (if ci=t then some ⟨b,off,none⟩ else some ⟨b,off+t*3,none⟩) (r.length-t) (ci-t):=hu.2.1;have how:wv.ownsRow w10.heap.size 81 3 (us 3) (f+m) CX:=hu.1;have h10:us 10 = .slice (if ci=t then some ⟨b,off,none⟩ else some ⟨b,off+t*3,none⟩) (r.length-t) (ci-t):=hu.2.1;obtain ⟨A33,c33,h3⟩:=jv how;rw [h3] at how;have hF:=(R6.in_ hw [1] (by kernel_rfl)).undrew;have hbB:=hF.belowB (B:=w10.heap.size) (by simp) hs1011;have hoa:=HRD.out wv hbB;have hsv:w10.heap.size≤wv.heap.size:=Nat.le_trans hs1011 hF.size;refine zE zB _ _ rfl (by repeat (first | (with_reducible exact (qg _ _ _ (by simp [qF])).trans h3) | (with_reducible refine yk _ _ _ _ _ (by decide) ?_))) how (by repeat (first | (with_reducible exact (qg _ _ _ (by simp [qF])).trans h10) | (with_reducible refine yk _ _ _ _ _ (by decide) ?_))) hoa HRDL.out (yg _) (by omega) (by omega) hsv fun v' w' ho' hgr2 _=>?_;exact hK _ _ (Far.of_belowB ((Evo.of_grown (T:=[81]) how hgr2 (List.mem_singleton.2 rfl) (Nat.le_refl _)).below hsv) (by simp)) (by rw [HNLE.out,HCL.out];exact ho')
          refine R6.pgo_pure _ rfl rfl (fun wv hw hu=>⟨.pointer (some ⟨g,0,none⟩),?_,rfl⟩) ?_
          ·have tok:=True.intro;have h0:us 0 = .pointer (some ⟨g,0,none⟩):=hu.1;clear hw hu;go_simp
          refine R6.pgo_pure _ rfl rfl (fun wv hw hu=>⟨.pointer (some ⟨g,2,none⟩),?_,rfl⟩) ?_
          ·have tok:=True.intro;have h12:us 12 = .pointer (some ⟨g,0,none⟩):=hu.1;clear hw hu;go_simp
          refine R3.pgo_skip _ rfl rfl (fun wv hw hu=>?_) ?_
          ·have tok:=True.intro;have h13:us 13 = .pointer (some ⟨g,2,none⟩):=hu.1;have how:wv.ownsRow w10.heap.size 81 3 (us 11) NL CL:=hu.2.1;obtain ⟨A11,c11,e11⟩:=jv how;have h13:us 13 = .pointer (some ⟨g,2,none⟩):=hu.1;have hF:=(R6.in_ hw [1] (by kernel_rfl)).undrew;have hbv:=HG11.out.below (hF.belowB (B:=w10.heap.size) (by simp) hs1011) hgB;have fy:=hbv.frozen 2;have zy:=hbv.cell 2;simp at zy;refine ⟨wv.setCell ⟨g,2,none⟩ (.slice A11 NL c11),?_,Far.set_ wv hgB (by simp) 2 _,.slice A11 NL c11,?_,?_⟩
           ·clear hw hu how hbv hF;go_simp
           ·have:=hbv.set_ 2 (.slice A11 NL c11);simpa using this
           ·rw [e11] at how;exact yF how (But.set_ (S:=[g]) wv (by simp) 2 _) (fun k hk=>by simp only [List.mem_singleton] at hk;omega)
          trivial
         ·intro us w12 hw hu;obtain ⟨v',hv1,hv2⟩:∃v,Blk w12 g 168 #[.int .i64 n,.slice A es.length cap,v,.slice A7 (pl.length+1) c7]∧w12.ownsRow w10.heap.size 81 3 v NL CL:=hu.1
          have hF:Far w10.heap.size g [0,1,2] w11 w12:=(Far.mono hw (fun k hk=>by
           have:R3.allC 15 [0,0,0,1,0,0,0,0,0,0,0,1,0,0,2]=[0,0,0,1,0,0,0,0,0,0,0,1,0,0,2]:=by decide
           have hk2:k∈[0,0,0,1,0,0,0,0,0,0,0,1,0,0,2]:=by simpa [R3.allC,List.range_succ] using hk
           simp at hk2 ⊢
           omega)).undrew
          have hbg:But [g] w w12:=⟨hF.os.trans HB11.out.os,hF.tape.trans HB11.out.tape,hF.output.trans HB11.out.output,Nat.le_trans HB11.out.size hF.size,fun k hk hn=>by
           simp only [List.mem_singleton] at hn;have h1:=HB11.out.size
           exact (hF.low k (by omega) (by omega) (.inl hn)).trans (HB11.out.block k hk (by simpa using hn))⟩
          have HBG:=Lib.hid hbg;have hlow:∀k,k<w10.heap.size→k≠g→w12.heap[k]? = w11.heap[k]? :=fun k hk hn=>hF.low k (by omega) hk (.inl hn);have HGF:=Lib.hid (Xy HGO11.out hlow hgws HGO.out hs1011);have HOF:=Lib.hid (Xy HO11.out hlow hgl0 HO10.out hs1011);have HVF:=Lib.hid (And.intro hv1 hv2);clear hw hu hF hbg hlow hv1 hv2 y11;simp only [kx];go_simp;go_wp2_with fail;go_ret2;refine ⟨_,rfl,HBG.out,?_,?_⟩
          ·refine H.out.but HBG.out HVF.out.1 ?_ (qh HOF.out (by omega));rw [HPL2.out,yh,yh,←HCX.out,←HCL.out]
           have:(r.take f++ab++r.drop t).length=NL:=by
            rw [HNLE.out,List.length_append,List.length_append,List.length_take,List.length_drop,HME.out];omega
           rw [this];exact qh HVF.out.2 (by omega)
          ·rw [HGO2.out,HNL.out];exact qh HGF.out hsws
     ·have h0':((outs.length:Int)==0)=false:=by rw [beq_eq_false_iff_ne];omega
      have HAB:=Lib.hid (show outs.map F=yj es x outs by rw [iR h0,HF.out])
      have HWA:=Lib.hid (show wr.ownsRow w.heap.size 81 3 (.slice Av (yj es x outs).length cv) (yj es x outs).length (ju (yj es x outs)) by
       have h1:=HWF.out;rw [HAB.out] at h1;rw [←HAB.out,List.length_map,HAB.out]
       exact h1)
      have HBQ:=HBR;go_wp2_with fail;have hV:Value.slice Av outs.length cv = .slice Av (yj es x outs).length cv:=by rw [←HAB.out,List.length_map]
      rw [hV];clear h0 h0' HAB hV;have HAL:=Lib.hid (@kh es x outs);obtain ⟨ab,hab⟩:∃ab,ab=yj es x outs:=⟨_,rfl⟩;rw [←hab] at HWA HAL ⊢;obtain ⟨m,hm⟩:∃m,m=ab.length:=⟨_,rfl⟩;rw [←hm] at HWA HAL ⊢;have hml:m≤501:=by have:=HAL.out;omega
      have HABE:=Lib.hid hab;have HME:=Lib.hid hm;have HGQ:=Lib.hid (HG0.out.below HBQ.out hgl0);have hgq:g<wr.heap.size:=HGQ.out.lt;have HIQ:=Lib.hid (jT HI0.out HBQ.out (Nat.le_refl _));have HPQ:=Lib.hid (jT HP0.out HBQ.out (Nat.le_refl _));clear hab hm;have z2:=HGQ.out.cell 2;have z3:=HGQ.out.cell 3;simp only [List.getElem?_toArray,List.getElem?_cons_zero,List.getElem?_cons_succ] at z2 z3;go_wp2_with fail
      go_loopg [12,13,14] r.length (fun k s12 s13 s14 wz=>∃i:Nat,s14 = .int .i64 i∧i≤r.length∧k=r.length-i∧s12 = .int .i64 (qx (x:Int) r i).1∧s13 = .int .i64 ((qx (x:Int) r i).2.1-1)∧wr=wz)
      case atStart=>exact ⟨0,rfl,Nat.zero_le _,rfl,rfl,rfl,rfl⟩
      case round=>
       obtain ⟨i,rfl,hi,hk,rfl,rfl,rfl⟩:=hrel;have Hk:=Lib.hid hk;clear hk;have hsf:=kX (x:Int) r i;by_cases hlt:i<r.length
       ·have hlt':(i:Int)<r.length:=by omega
        obtain ⟨b,off,eA,hbb,hc⟩:=(jr.of_own HIQ.out).items (by omega);obtain ⟨c0,c1,c2⟩:=hc i hlt;subst eA
        have HS:=Lib.hid (show qx (x:Int) r (i+1)=if r[i].2.2=(x:Int) then (if (qx (x:Int) r i).1 = -1 then (i:Int) else (qx (x:Int) r i).1,(i:Int)+1,(qx (x:Int) r i).2.2+1) else qx (x:Int) r i by
         rw [qx,List.getD_eq_getElem?_getD,List.getElem?_eq_getElem hlt,Option.getD_some])
        clear hc;generalize qx (x:Int) r i=S at *;generalize r[i].1=e1 at *;generalize r[i].2.1=e2 at *;generalize r[i].2.2=e3 at *;obtain ⟨S1,S2,S3⟩:=S;simp only at hsf HS ⊢;by_cases h1:e3=(x:Int)
        ·have h1':(e3==(x:Int))=true:=by simp [h1]
         rw [if_pos h1] at HS;clear h1;by_cases h2:S1 = -1
         ·have h2':S1<0:=by omega
          rw [if_pos h2] at HS;clear h2 hsf;go_wp2_with fail
          go_roundg (r.length-(i+1))
          case measure=>rw [Hk.out];omega
          case rel=>exact ⟨i+1,by go_num,by omega,rfl,by rw [HS.out],by rw [HS.out];simp,rfl⟩
         ·have h2':¬S1<0:=by
           rcases hsf with ⟨_,h⟩ | ⟨f,t,h,_⟩
           ·exact absurd (congrArg Prod.fst h) h2
           ·omega
          rw [if_neg h2] at HS;clear h2 hsf;go_wp2_with fail
          go_roundg (r.length-(i+1))
          case measure=>rw [Hk.out];omega
          case rel=>exact ⟨i+1,by go_num,by omega,rfl,by rw [HS.out],by rw [HS.out];simp,rfl⟩
        ·have h1':(e3==(x:Int))=false:=by simp [h1]
         rw [if_neg h1] at HS;clear h1 hsf;go_wp2_with fail
         go_roundg (r.length-(i+1))
         case measure=>rw [Hk.out];omega
         case rel=>exact ⟨i+1,by go_num,by omega,rfl,by rw [HS.out],by rw [HS.out],rfl⟩
       ·have hie:i=r.length:=by omega
        subst hie;clear hlt Hk;have HPLC:=Lib.hid (show yf es r x outs=xI r (qx (x:Int) r r.length).1.toNat (qx (x:Int) r r.length).2.1.toNat ab by rw [HABE.out];rfl);have HGON:=Lib.hid (show zA r x=(r.take (qx (x:Int) r r.length).2.1.toNat).drop (qx (x:Int) r r.length).1.toNat from rfl);generalize qx (x:Int) r r.length=S at *;obtain ⟨S1,S2,S3⟩:=S;simp only at hsf HPLC HGON ⊢
        have ho0:(wr.alloc (.cells #[] 3)).ownsRow w.heap.size 3 1 (.slice (some ⟨wr.heap.size,0,none⟩) 0 0) 0 []:=
         vl (R:=#[]) HBQ.out.size (by simpa using Blk.new wr 3 #[]) (by simp) (Nat.le_refl _) (by unfold maxLen;omega) (by simp)
        have hb5:=(Below.refl wr.heap.size wr).alloc (Nat.le_refl _) (.cells #[] 3);have hCp:=(jr.of_own HPQ.out).below hb5;have HB5:=Lib.hid (HBQ.out.trans (hb5.mono HBQ.out.size));have hs5:=HB5.out.size;have HWA5:=Lib.hid (jT HWA.out hb5 (Nat.le_refl _));go_wp2_with (at_builtin;refine yU qz rfl _ _ rfl rfl ho0 rfl hCp (show (jf pl).length=pl.length*1 by simp [jf]) (xB _) ?h2b ?h3b ?h4b ?_)
        case h2b=>omega
        case h3b=>omega
        try (case h4b=>exact hs5)
        intro v6 w6 ho6 hg6 _;have HB6:=Lib.hid (qb HB5.out ho0 hg6 hs5 (Nat.le_refl _));have HG6:=Lib.hid (HG0.out.below HB6.out hgl0);obtain ⟨A6,c6,rfl⟩:=jv ho6;have HO6:=Lib.hid (show w6.ownsRow w.heap.size 3 1 (.slice A6 pl.length c6) pl.length (jf pl) by simpa using ho6);have HWA6:=Lib.hid (qA HWA5.out (Evo.of_grown ho0 hg6 (List.mem_singleton.2 rfl) (Nat.le_refl _)) (by decide));have hs6:=HB6.out.size;have hgq6:g<w6.heap.size:=HG6.out.lt;clear ho0 ho6 hg6 hb5 hCp z3 z2;go_wp2_with (at_builtin;refine yC qz rfl _ _ rfl w.heap.size (.slice A6 pl.length c6) pl.length _ ?hxb w6.heap.size [.int .i64 (x:Nat)] ?hyb rfl HO6.out rfl rfl ?k2b ?k3b ?k4b ?_)
        case hxb=>simp only [Act.eval];simp
        case hyb=>simp only [Act.eval];simp
        case k2b=>omega
        case k3b=>omega
        try (case k4b=>omega)
        intro v7 w7 ho7 hg7 _;have HB7:=Lib.hid (qb HB6.out HO6.out hg7 hs6 (Nat.le_refl _));have HG7:=Lib.hid (HG0.out.below HB7.out hgl0);obtain ⟨A7,c7,rfl⟩:=jv ho7;have HO7:=Lib.hid (show w7.ownsRow w.heap.size 3 1 (.slice A7 (pl.length+1) c7) (pl++[(x:Int)]).length (jf (pl++[(x:Int)])) by simpa [jf] using ho7);have HWA7:=Lib.hid (qA HWA6.out (Evo.of_grown HO6.out hg7 (List.mem_singleton.2 rfl) (Nat.le_refl _)) (by decide));have HI7:=Lib.hid (jT HI0.out HB7.out (Nat.le_refl _));have hgq7:g<w7.heap.size:=HG7.out.lt;have f3:=HG7.out.frozen 3;have y3:=HG7.out.cell 3;have HGS:=Lib.hid (HG7.out.set_ 3 (.slice A7 (pl.length+1) c7));have HBT:=Lib.hid ((But.of_below [g] HB7.out (Nat.le_refl _)).trans (show But [g] w7 (w7.setCell ⟨g,3,none⟩ (.slice A7 (pl.length+1) c7)) from But.set_ w7 (by simp) 3 _));have hbt:But [g] w7 (w7.setCell ⟨g,3,none⟩ (.slice A7 (pl.length+1) c7)):=But.set_ w7 (by simp) 3 _;have HWAS:=Lib.hid (yF HWA7.out hbt (fun k hk=>by simp only [List.mem_singleton] at hk;omega));have HOS:=Lib.hid (yF HO7.out hbt (fun k hk=>by simp only [List.mem_singleton] at hk;omega));have HIS:=Lib.hid (yF HI7.out hbt (fun k hk=>by simp only [List.mem_singleton] at hk;omega));simp only [List.getElem?_toArray,List.getElem?_cons_zero,List.getElem?_cons_succ] at y3;obtain ⟨ws,hws⟩:∃ws,ws=w7.setCell ⟨g,3,none⟩ (.slice A7 (pl.length+1) c7):=⟨_,rfl⟩;have y2:=HGS.out.cell 2;have f2:=HGS.out.frozen 2;simp at y2;rw [←hws] at HGS HBT HWAS HOS HIS y2 f2;have HWS:=Lib.hid hws;have hsws:w.heap.size≤ws.heap.size:=HBT.out.size;clear ho7 hg7 hbt hws;rcases hsf with ⟨h30,hS⟩ | ⟨f,t,h1,h2,hft,htr,hpos⟩
        ·injection hS with hS1 hS2;injection hS2 with hS2 hS3;subst hS1 hS2 hS3;have HPL2:=Lib.hid (show yf es r x outs=ab++r by rw [HPLC.out];unfold xI;simp);have HGO2:=Lib.hid (show zA r x=[] by rw [HGON.out];simp);clear h30
         go_upto_region 27 with fail
         rw [←HWS.out];go_wp2_with (at_builtin;refine yU zB rfl _ _ rfl rfl HWAS.out rfl (jr.of_own HIS.out) (jV r) (yg r) ?p2b ?p3b ?p4b ?_)
         case p2b=>omega
         case p3b=>omega
         try (case p4b=>exact hsws)
         intro v8 w8 ho8 hg8 _;have he8:=Evo.of_grown HWAS.out hg8 (List.mem_singleton.2 rfl) (Nat.le_refl _);have HG8:=Lib.hid (HGS.out.evo he8 (.inr (by decide)));have HO8:=Lib.hid (qA HOS.out he8 (by decide));have HB8:=Lib.hid (HBT.out.below2 (he8.below hsws));have HR8:=Lib.hid ho8;obtain ⟨A8,c8,rfl⟩:=jv ho8;have y8:=HG8.out.cell 2;have f8:=HG8.out.frozen 2;simp at y8;have hb9:But [g] w8 (w8.setCell ⟨g,2,none⟩ (.slice A8 (m+r.length) c8)):=But.set_ w8 (by simp) 2 _;have HG9:=Lib.hid (HG8.out.set_ 2 (.slice A8 (m+r.length) c8));have HO9:=Lib.hid (yF HO8.out hb9 (fun k hk=>by simp only [List.mem_singleton] at hk;omega));have HR9:=Lib.hid (yF HR8.out hb9 (fun k hk=>by simp only [List.mem_singleton] at hk;omega));have HB9:=Lib.hid (HB8.out.trans hb9);clear ho8 hg8 he8 hb9 y2 f2;go_wp2_with fail;go_ret2;refine ⟨_,rfl,HB9.out,?_,?_⟩
         ·refine H.out.but HB9.out (vr:=.slice A8 (m+r.length) c8) (vp:=.slice A7 (pl.length+1) c7) (by simpa using HG9.out) ?_ (qh HO9.out (by omega));rw [HPL2.out,List.length_append,←HME.out,yh];exact qh HR9.out (by omega)
         ·rw [HGO2.out];exact World.ownsRow_nil _ _ _ _
        ·subst h1 h2;have hf0:¬(f:Int)<0:=by omega
         obtain ⟨b,off,eA,hbb,hcA⟩:=(jr.of_own HI0.out).items (by omega);clear hcA hpos;subst eA;have hrc:r.length≤ci:=HIF.out.2;have hcif:¬ci=f:=by omega
         have hfc:(f:Int)≤ci:=by omega
         have htc:(t:Int)≤ci:=by omega
         have hfr:(f:Int)≤r.length:=by omega
         have htr':(t:Int)≤r.length:=by omega
         have hft':(f:Int)≤t:=by omega
         have hwt:IntKind.i64.wrap ((t:Int)-1+1)=(t:Int):=by rw [IntKind.wrap_i64];omega
         have hwt2:IntKind.i64.wrap (t:Int)=(t:Int):=by rw [IntKind.wrap_i64];omega
         have HPL2:=Lib.hid (show yf es r x outs=r.take f++ab++r.drop t by rw [HPLC.out];unfold xI;simp);have HGO2:=Lib.hid (show zA r x=(r.take t).drop f by rw [HGON.out];simp)
         have ho0:(ws.alloc (.cells #[] 81)).ownsRow ws.heap.size 81 3 (.slice (some ⟨ws.heap.size,0,none⟩) 0 0) 0 []:=
          vl (R:=#[]) (Nat.le_refl _) (by simpa using Blk.new ws 81 #[]) (by simp) (Nat.le_refl _) (by unfold maxLen;omega) (by simp)
         have hb9:=(Below.refl ws.heap.size ws).alloc (Nat.le_refl _) (.cells #[] 81);have hgws:g<ws.heap.size:=HGS.out.lt;have HNL:=Lib.hid (show ((r.take t).drop f).length=t-f by rw [List.length_drop,List.length_take];omega);have hCs:=((((jr.of_own HIS.out).itemsTake t).itemsDrop f).below hb9);have hcl:(ju ((r.take t).drop f)).length=(t-f)*3:=by rw [jV,HNL.out]
         have hs9:ws.heap.size≤(ws.alloc (.cells #[] 81)).heap.size:=by simp
         go_upto_region 27 with fail
         rw [←HWS.out];go_wp2_with (at_builtin;refine yU zB rfl _ _ rfl rfl ho0 rfl hCs hcl (yg _) ?n2b ?n3b ?n4b ?_)
         case n2b=>omega
         case n3b=>omega
         try (case n4b=>exact hs9)
         intro v10 w10 ho10 hg10 _;have hb10:Below ws.heap.size ws w10:=qb hb9 ho0 hg10 hs9 (Nat.le_refl _);have HGO:=Lib.hid (show w10.ownsRow ws.heap.size 81 3 v10 (t-f) (ju ((r.take t).drop f)) by simpa using ho10);obtain ⟨A10,c10,rfl⟩:=jv HGO.out;have HG10:=Lib.hid (HGS.out.below hb10 hgws);have HWA10:=Lib.hid (jT HWAS.out hb10 (Nat.le_refl _));have HO10:=Lib.hid (jT HOS.out hb10 (Nat.le_refl _));have HI10:=Lib.hid (jT HIS.out hb10 (Nat.le_refl _));have HB10:=Lib.hid (HBT.out.below2 (hb10.mono hsws));have hs10:ws.heap.size≤w10.heap.size:=hb10.size;clear ho0 ho10 hg10 hb10 hb9 hCs hcl hs9 y2 f2;have y2:=HG10.out.cell 2;simp at y2;have hgB:g<w10.heap.size:=HG10.out.lt
         have ho0:(w10.alloc (.cells #[] 81)).ownsRow w10.heap.size 81 3 (.slice (some ⟨w10.heap.size,0,none⟩) 0 0) 0 []:=
          vl (R:=#[]) (Nat.le_refl _) (by simpa using Blk.new w10 81 #[]) (by simp) (Nat.le_refl _) (by unfold maxLen;omega) (by simp)
         have hb9:=(Below.refl w10.heap.size w10).alloc (Nat.le_refl _) (.cells #[] 81);have hCs:=(((jr.of_own HI10.out).itemsTake f).below hb9);have hcl:(ju (r.take f)).length=f*3:=by rw [jV,List.length_take];omega
         have hs9:w10.heap.size≤(w10.alloc (.cells #[] 81)).heap.size:=by simp
         go_wp2_with (at_builtin;refine yU zB rfl _ _ rfl rfl ho0 rfl hCs hcl (yg _) ?m2b ?m3b ?m4b ?_)
         case m2b=>omega
         case m3b=>omega
         try (case m4b=>exact hs9)
         intro v11 w11 ho11 hg11 _;have hb11:Below w10.heap.size w10 w11:=qb hb9 ho0 hg11 hs9 (Nat.le_refl _);have HNX:=Lib.hid (show w11.ownsRow w10.heap.size 81 3 v11 f (ju (r.take f)) by simpa using ho11);obtain ⟨An,cn,rfl⟩:=jv HNX.out;have HG11:=Lib.hid (HG10.out.below hb11 hgB);have HWA11:=Lib.hid (jT HWA10.out hb11 (Nat.le_refl _));have HO11:=Lib.hid (jT HO10.out hb11 (Nat.le_refl _));have HI11:=Lib.hid (jT HI10.out hb11 (Nat.le_refl _));have HGO11:=Lib.hid (jT HGO.out hb11 (Nat.le_refl _));have HB11:=Lib.hid (HB10.out.below2 (hb11.mono HB10.out.size));have hs1011:w10.heap.size≤w11.heap.size:=hb11.size;clear ho0 ho11 hg11 hb9 hCs hcl hs9 y2;have y11:w11.cell? ⟨g,2,none⟩=some (.slice (some ⟨b,off,none⟩) r.length ci):=by have:=HG11.out.cell 2;simpa using this
         have HABL:=Lib.hid (show (ju ab).length=m*3 by rw [jV,HME.out]);have HRDL:=Lib.hid (show (ju (r.drop t)).length=(r.length-t)*3 by rw [jV,List.length_drop])
         have HRD:=Lib.hid (show ∀wv,Below w10.heap.size w11 wv→jr wv w10.heap.size (if ci=t then some ⟨b,off,none⟩ else some ⟨b,off+t*3,none⟩) (ju (r.drop t)) from fun wv hbv=>by
          have h1:=((jr.of_own HI10.out).below hb11).below hbv
          split
          ·exact fun hn=>absurd hn (by rw [jV,List.length_drop];omega)
          ·exact h1.itemsDrop t)
         obtain ⟨CX,hCX⟩:∃C,C=ju (r.take f)++ju ab:=⟨_,rfl⟩;have HCX:=Lib.hid hCX;obtain ⟨CL,hCL⟩:∃C,C=CX++ju (r.drop t):=⟨_,rfl⟩;have HCL:=Lib.hid hCL;obtain ⟨NL,hNL⟩:∃k,k=f+m+(r.length-t):=⟨_,rfl⟩;have HNLE:=Lib.hid hNL;clear hb11 hCX hCL hNL
         go_upto_region 32 with fail
         refine R6.wp_region_b w10.heap.size g [0,0,0,1,0,0,0,0,0,0,0,1,0,0,2]
          [([],.val (.pointer (some ⟨g,0,none⟩))),([],.val (.slice An f cn)),([],.val (.slice Av m cv)),([1,2],.own w10.heap.size 81 3 (f+m) CX hgB),([],.val (.pointer (some ⟨g,0,none⟩))),([4],.val (.pointer (some ⟨g,0,none⟩))),([5],.val (.pointer (some ⟨g,2,none⟩))),([6],.val (.slice (some ⟨b,off,none⟩) r.length ci)),([],.val (.int .i64 ((t:Int)-1))),([8],.val (.int .i64 (t:Int))),([7,9],.val (.slice (if ci=t then some ⟨b,off,none⟩ else some ⟨b,off+t*3,none⟩) (r.length-t) (ci-t))),([3,10],.own w10.heap.size 81 3 NL CL hgB),([0],.val (.pointer (some ⟨g,0,none⟩))),([12],.val (.pointer (some ⟨g,2,none⟩))),([13,11],.cell w10.heap.size 168 (fun v=>#[.int .i64 n,.slice A es.length cap,v,.slice A7 (pl.length+1) c7]) 81 3 NL CL hgB)] [14] (by kernel_rfl) (by kernel_rfl) (fun us=>?_) ?_
         ·refine R6.pgo_pure _ rfl rfl (fun wv hw hu=>⟨.pointer (some ⟨g,0,none⟩),?_,rfl⟩) ?_
          ·have tok:=True.intro;clear hw hu;go_simp
          refine R6.pgo_pure _ rfl rfl (fun wv hw hu=>⟨.slice An f cn,?_,rfl⟩) ?_
          ·have tok:=True.intro;clear hw hu;go_simp
          refine R6.pgo_pure _ rfl rfl (fun wv hw hu=>⟨.slice Av m cv,?_,rfl⟩) ?_
          ·have tok:=True.intro;clear hw hu;go_simp
          refine R3.pgo_op _ rfl rfl (fun K wv hw hu hK=>?_) ?_
          ·have tok:=True.intro;have h1:us 1 = .slice An f cn:=hu.1;have h2:us 2 = .slice Av m cv:=hu.2.1;have h1:us 1 = .slice An f cn:=hu.1;have h2:us 2 = .slice Av m cv:=hu.2.1;have hF:=(R6.in_ hw [] (by kernel_rfl)).undrew;have hbl:=hF.below (by simp) (by simp);have how:=jT HNX.out (B:=w11.heap.size) hbl (Nat.le_refl _);have hoa:=jr.of_own (jT HWA11.out (B:=w11.heap.size) hbl (Nat.le_refl _));have hsv:w10.heap.size≤wv.heap.size:=Nat.le_trans hs1011 hbl.size;refine zE zB _ _ rfl (by repeat (first | (with_reducible exact (qg _ _ _ (by simp [qF])).trans h1) | (with_reducible refine yk _ _ _ _ _ (by decide) ?_))) how (by repeat (first | (with_reducible exact (qg _ _ _ (by simp [qF])).trans h2) | (with_reducible refine yk _ _ _ _ _ (by decide) ?_))) hoa HABL.out (yg _) (by omega) (by omega) hsv fun v' w' ho' hgr2 _=>?_;exact hK _ _ (Far.of_belowB ((Evo.of_grown (T:=[81]) how hgr2 (List.mem_singleton.2 rfl) (Nat.le_refl _)).below hsv) (by simp)) (by rw [HCX.out];exact ho')
          refine R6.pgo_pure _ rfl rfl (fun wv hw hu=>⟨.pointer (some ⟨g,0,none⟩),?_,rfl⟩) ?_
          ·have tok:=True.intro;clear hw hu;go_simp
          refine R6.pgo_pure _ rfl rfl (fun wv hw hu=>⟨.pointer (some ⟨g,0,none⟩),?_,rfl⟩) ?_
          ·have tok:=True.intro;have h4:us 4 = .pointer (some ⟨g,0,none⟩):=hu.1;clear hw hu;go_simp
          refine R6.pgo_pure _ rfl rfl (fun wv hw hu=>⟨.pointer (some ⟨g,2,none⟩),?_,rfl⟩) ?_
          ·have tok:=True.intro;have h5:us 5 = .pointer (some ⟨g,0,none⟩):=hu.1;clear hw hu;go_simp
          refine R6.pgo_pure _ rfl rfl (fun wv hw hu=>⟨.slice (some ⟨b,off,none⟩) r.length ci,?_,rfl⟩) ?_
          ·have tok:=True.intro;have h6:us 6 = .pointer (some ⟨g,2,none⟩):=hu.1;have hF:=(R6.in_ hw [1] (by kernel_rfl)).undrew;have zg:wv.cell? ⟨g,2,none⟩=some (.slice (some ⟨b,off,none⟩) r.length ci):=((hF.belowB (B:=w10.heap.size) (by simp) hs1011).cell (p:=⟨g,2,none⟩) hgB).trans y11;clear hw hu;go_simp
          refine R6.pgo_pure _ rfl rfl (fun wv hw hu=>⟨.int .i64 ((t:Int)-1),?_,rfl⟩) ?_
          ·have tok:=True.intro;clear hw hu;go_simp
          refine R6.pgo_pure _ rfl rfl (fun wv hw hu=>⟨.int .i64 (t:Int),?_,rfl⟩) ?_
          ·have tok:=True.intro;have h8:us 8 = .int .i64 ((t:Int)-1):=hu.1;clear hw hu;go_simp
          refine R6.pgo_pure _ rfl rfl (fun wv hw hu=>⟨.slice (if ci=t then some ⟨b,off,none⟩ else some ⟨b,off+t*3,none⟩) (r.length-t) (ci-t),?_,rfl⟩) ?_
          ·have tok:=True.intro;have h7:us 7 = .slice (some ⟨b,off,none⟩) r.length ci:=hu.1;have h9:us 9 = .int .i64 (t:Int):=hu.2.1;clear hw hu;go_simp
          refine R3.pgo_op _ rfl rfl (fun K wv hw hu hK=>?_) ?_
          ·have tok:=True.intro;have h10:us 10 = .slice (if ci=t then some ⟨b,off,none⟩ else some ⟨b,off+t*3,none⟩) (r.length-t) (ci-t):=hu.2.1;have how:wv.ownsRow w10.heap.size 81 3 (us 3) (f+m) CX:=hu.1;have h10:us 10 = .slice (if ci=t then some ⟨b,off,none⟩ else some ⟨b,off+t*3,none⟩) (r.length-t) (ci-t):=hu.2.1;obtain ⟨A33,c33,h3⟩:=jv how;rw [h3] at how;have hF:=(R6.in_ hw [1] (by kernel_rfl)).undrew;have hbB:=hF.belowB (B:=w10.heap.size) (by simp) hs1011;have hoa:=HRD.out wv hbB;have hsv:w10.heap.size≤wv.heap.size:=Nat.le_trans hs1011 hF.size;refine zE zB _ _ rfl (by repeat (first | (with_reducible exact (qg _ _ _ (by simp [qF])).trans h3) | (with_reducible refine yk _ _ _ _ _ (by decide) ?_))) how (by repeat (first | (with_reducible exact (qg _ _ _ (by simp [qF])).trans h10) | (with_reducible refine yk _ _ _ _ _ (by decide) ?_))) hoa HRDL.out (yg _) (by omega) (by omega) hsv fun v' w' ho' hgr2 _=>?_;exact hK _ _ (Far.of_belowB ((Evo.of_grown (T:=[81]) how hgr2 (List.mem_singleton.2 rfl) (Nat.le_refl _)).below hsv) (by simp)) (by rw [HNLE.out,HCL.out];exact ho')
          refine R6.pgo_pure _ rfl rfl (fun wv hw hu=>⟨.pointer (some ⟨g,0,none⟩),?_,rfl⟩) ?_
          ·have tok:=True.intro;have h0:us 0 = .pointer (some ⟨g,0,none⟩):=hu.1;clear hw hu;go_simp
          refine R6.pgo_pure _ rfl rfl (fun wv hw hu=>⟨.pointer (some ⟨g,2,none⟩),?_,rfl⟩) ?_
          ·have tok:=True.intro;have h12:us 12 = .pointer (some ⟨g,0,none⟩):=hu.1;clear hw hu;go_simp
          refine R3.pgo_skip _ rfl rfl (fun wv hw hu=>?_) ?_
          ·have tok:=True.intro;have h13:us 13 = .pointer (some ⟨g,2,none⟩):=hu.1;have how:wv.ownsRow w10.heap.size 81 3 (us 11) NL CL:=hu.2.1;obtain ⟨A11,c11,e11⟩:=jv how;have h13:us 13 = .pointer (some ⟨g,2,none⟩):=hu.1;have hF:=(R6.in_ hw [1] (by kernel_rfl)).undrew;have hbv:=HG11.out.below (hF.belowB (B:=w10.heap.size) (by simp) hs1011) hgB;have fy:=hbv.frozen 2;have zy:=hbv.cell 2;simp at zy;refine ⟨wv.setCell ⟨g,2,none⟩ (.slice A11 NL c11),?_,Far.set_ wv hgB (by simp) 2 _,.slice A11 NL c11,?_,?_⟩
           ·clear hw hu how hbv hF;go_simp
           ·have:=hbv.set_ 2 (.slice A11 NL c11);simpa using this
           ·rw [e11] at how;exact yF how (But.set_ (S:=[g]) wv (by simp) 2 _) (fun k hk=>by simp only [List.mem_singleton] at hk;omega)
          trivial
         ·intro us w12 hw hu;obtain ⟨v',hv1,hv2⟩:∃v,Blk w12 g 168 #[.int .i64 n,.slice A es.length cap,v,.slice A7 (pl.length+1) c7]∧w12.ownsRow w10.heap.size 81 3 v NL CL:=hu.1
          have hF:Far w10.heap.size g [0,1,2] w11 w12:=(Far.mono hw (fun k hk=>by
           have:R3.allC 15 [0,0,0,1,0,0,0,0,0,0,0,1,0,0,2]=[0,0,0,1,0,0,0,0,0,0,0,1,0,0,2]:=by decide
           have hk2:k∈[0,0,0,1,0,0,0,0,0,0,0,1,0,0,2]:=by simpa [R3.allC,List.range_succ] using hk
           simp at hk2 ⊢
           omega)).undrew
          have hbg:But [g] w w12:=⟨hF.os.trans HB11.out.os,hF.tape.trans HB11.out.tape,hF.output.trans HB11.out.output,Nat.le_trans HB11.out.size hF.size,fun k hk hn=>by
           simp only [List.mem_singleton] at hn;have h1:=HB11.out.size
           exact (hF.low k (by omega) (by omega) (.inl hn)).trans (HB11.out.block k hk (by simpa using hn))⟩
          have HBG:=Lib.hid hbg;have hlow:∀k,k<w10.heap.size→k≠g→w12.heap[k]? = w11.heap[k]? :=fun k hk hn=>hF.low k (by omega) hk (.inl hn);have HGF:=Lib.hid (Xy HGO11.out hlow hgws HGO.out hs1011);have HOF:=Lib.hid (Xy HO11.out hlow hgl0 HO10.out hs1011);have HVF:=Lib.hid (And.intro hv1 hv2);clear hw hu hF hbg hlow hv1 hv2 y11;simp only [kx];go_simp;go_wp2_with fail;go_ret2;refine ⟨_,rfl,HBG.out,?_,?_⟩
          ·refine H.out.but HBG.out HVF.out.1 ?_ (qh HOF.out (by omega));rw [HPL2.out,yh,yh,←HCX.out,←HCL.out]
           have:(r.take f++ab++r.drop t).length=NL:=by
            rw [HNLE.out,List.length_append,List.length_append,List.length_take,List.length_drop,HME.out];omega
           rw [this];exact qh HVF.out.2 (by omega)
          ·rw [HGO2.out,HNL.out];exact qh HGF.out hsws
end Go.Proofs.YtneeknlhlkpnpaaGreat
