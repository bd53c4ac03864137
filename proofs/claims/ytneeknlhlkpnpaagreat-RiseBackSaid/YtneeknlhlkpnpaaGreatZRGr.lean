import Derived.Test.YtneeknlhlkpnpaaGreatZRPl
import Derived.Test.YtneeknlhlkpnpaaGreatZFit2
import Derived.Test.YtneeknlhlkpnpaaGreatZFits
import Derived.Test.YtneeknlhlkpnpaaGreatZRRun
import Derived.Test.YtneeknlhlkpnpaaGreatZWeb
/-
 rise.tips, rise.rooms. Written by an AI agent.
-/
namespace Go.Proofs.YtneeknlhlkpnpaaGreat
open Go.RowKit
def yJ(es:List (Int×Int))(x:Nat):Bool:=(decide ((jK es Prod.snd x es.length).length=0)) != (decide ((jK es Prod.fst x es.length).length=0))
def dN(n:Nat)(es:List (Int×Int)):List Bool:=(List.range n).map (yJ es)
def KW(n:Nat)(es:List (Int×Int))(i:Nat):List Bool:=(List.range i).map (yJ es)++List.replicate (n-i) false
theorem Hi{n i:Nat}{es:List (Int×Int)}(h:i≤n):(KW n es i).length=n:=by simp [KW];omega
theorem lA{n i:Nat}{es:List (Int×Int)}(h:i<n):(KW n es i).set i (yJ es i)=KW n es (i+1):=by
 unfold KW;rw [List.set_append_right (h:=by simp)];simp only [List.length_map,List.length_range,Nat.sub_self];rw [show n-i=(n-(i+1))+1 by omega,List.replicate_succ,List.set_cons_zero,List.range_succ,List.map_append,List.append_assoc];rfl
set_option maxRecDepth 20000 in
set_option maxHeartbeats 4000000 in
theorem aM(N:Nat)(A:Option Addr)(cap:Nat)(es:List (Int×Int))(w:World)(hes:jr w w.heap.size A (jA es))(hg:GoodP N es)(hl:es.length≤500) :
  Calls Tryz.prog 63 #[.agg #[.int .i64 (N:Nat),.slice A es.length cap]] w (fun e w'=>∃g,e = .returned (.slice (some ⟨g,0,none⟩) N N)∧Below w.heap.size w w'∧Blk w' g 4 (jD (dN N es)).toArray):=by
 have hN:=(jP hg.may).2.1;have S1:=Lib.hid (SG.start (N:Int) cap hes (rs:=[]) (C:=none) (fun h=>absurd h (by simp)));have HGV:=Lib.hid (Ze hg);clear hes hg
 go_enter Tryz.func63,Tryz.ntmps63
 go_upto_region 1 with fail
 generalize w.alloc (.cells #[.int .i64 (N:Nat),.slice A es.length cap] 24)=w1 at *;have g0:=S1.out.g0;have g1:=S1.out.g1;go_wp2_with fail;refine (um N A cap es w1 S1.out.es).mono ?_;rintro e w2 ⟨gv,rfl,hb2,hv2⟩;rw [HGV.out.1,HGV.out.2,Int.toNat_natCast] at hv2;have S2:=Lib.hid (S1.out.next hb2);have HV2:=Lib.hid hv2;have g0:=S2.out.g0;have hl2:=S2.out.lt;have hN':N≤64:=by omega
 have hmk:=fun W=>yz kw rfl N (by omega) (by omega) W;clear hb2 hv2 g1;go_wp2_with fail
 have HBK:=Lib.hid (show Blk (w2.alloc (.cells (Array.replicate N (Value.bool false)) 4)) w2.heap.size 4 (jD (KW N es 0)).toArray from by
  have:=Blk.new w2 4 (Array.replicate N (Value.bool false));have e:(jD (KW N es 0)).toArray=Array.replicate N (Value.bool false):=by simp [KW,jD]
  rw [e]
  exact this)
 have hb3:=(Below.refl w2.heap.size w2).alloc (Nat.le_refl _) (.cells (Array.replicate N (Value.bool false)) 4);have HV3:=Lib.hid (HV2.out.below hb3 (Nat.le_refl _));have HB3:=Lib.hid (S2.out.below.trans (hb3.mono S2.out.below.size));have HG:=Lib.hid (show w.heap.size≤w2.heap.size from S2.out.below.size);have HB23:=Lib.hid hb3;generalize w2.alloc (.cells (Array.replicate N (Value.bool false)) 4)=w3 at *;obtain ⟨g,hgg⟩:∃g,g=w2.heap.size:=⟨_,rfl⟩;rw [←hgg] at HBK HG ⊢;have HGG:=Lib.hid hgg;clear hb3 hmk hgg g0
 go_loopg [13] N (fun k s13 wr=>∃i:Nat,s13 = .int .i64 i∧i≤N∧k=N-i∧Below w2.heap.size w2 wr∧Blk wr g 4 (jD (KW N es i)).toArray)
 case atStart=>exact ⟨0,rfl,Nat.zero_le _,rfl,HB23.out,HBK.out⟩
 case round=>
  obtain ⟨i,rfl,hi,hk,hb,hbl⟩:=hrel;have Hk:=Lib.hid hk;have HBR:=Lib.hid hb;have HBL:=Lib.hid hbl;clear hk hb hbl;by_cases hlt:i<N
  ·have hlt':(i:Int)<N:=by omega
   go_wp2_with fail;refine (aJ gv N i es wr (HV2.out.below HBR.out (Nat.le_refl _)) hlt (by omega)).mono ?_;rintro e w4 ⟨v4,rfl,hb4,ho4⟩;obtain ⟨A4,c4,rfl⟩:=jv ho4;have HB4:=Lib.hid (HBR.out.trans (hb4.mono HBR.out.size));have HBL4:=Lib.hid (HBL.out.below hb4 HBL.out.lt);obtain ⟨k4,hk4⟩:∃k,k=(jK es Prod.snd (i:Nat) es.length).length:=⟨_,rfl⟩;rw [←hk4];have HK4:=Lib.hid hk4;clear hb4 ho4 hk4;go_wp2_with fail;refine (Vg gv N i es w4 (HV2.out.below HB4.out (Nat.le_refl _)) hlt (by omega)).mono ?_;rintro e w5 ⟨v5,rfl,hb5,ho5⟩;obtain ⟨A5,c5,rfl⟩:=jv ho5;have HB5:=Lib.hid (HB4.out.trans (hb5.mono HB4.out.size));have HBL5:=Lib.hid (HBL4.out.below hb5 HBL4.out.lt);obtain ⟨k5,hk5⟩:∃k,k=(jK es Prod.fst (i:Nat) es.length).length:=⟨_,rfl⟩;rw [←hk5];have HK5:=Lib.hid hk5;have hlen:=Hi (n:=N) (i:=i) (es:=es) hi;have cv:=HBL5.out.bool (k:=i) (by omega);have fv:=HBL5.out.frozen i;generalize (KW N es i).getD i false=v at *
   have HT:=Lib.hid (show yJ es i=(((k4:Int)==0) != ((k5:Int)==0)) by
    unfold yJ;rw [←HK4.out,←HK5.out];congr 1
    ·rw [Bool.eq_iff_iff];simp
    ·rw [Bool.eq_iff_iff];simp)
   have HN:=Lib.hid (show Blk (w5.setCell ⟨g,i,none⟩ (.bool (yJ es i))) g 4 (jD (KW N es (i+1))).toArray by rw [←lA hlt];exact HBL5.out.setBool i _);have HBN:=Lib.hid (show Below w2.heap.size w2 (w5.setCell ⟨g,i,none⟩ (.bool (yJ es i))) from HB5.out.setCell (p:=⟨g,i,none⟩) (Nat.le_of_eq HGG.out.symm) _);rw [HT.out] at HN HBN;clear hb5 ho5 hk5 hlen;go_wp2_with fail
   go_roundg (N-(i+1))
   case measure=>rw [Hk.out];omega
   case rel=>exact ⟨i+1,by go_num,by omega,rfl,HBN.out,HN.out⟩
  ·have hlt':¬(i:Int)<N:=by omega
   have HE:=Lib.hid (show Blk wr g 4 (jD (dN N es)).toArray by
    have h1:=HBL.out;rw [show i=N by omega] at h1
    simpa [KW,dN] using h1)
   have HBF:=Lib.hid (S2.out.below.trans (HBR.out.mono S2.out.below.size));go_wp2_with fail;go_ret;exact ⟨g,rfl,HBF.out,HE.out⟩
set_option maxRecDepth 20000 in
set_option maxHeartbeats 4000000 in
theorem cP(n:Int)(A:Option Addr)(c:Nat)(es:List (Int×Int))(rs:List (List Int))(f0:Nat)(w:World)(hQ:jr w w.heap.size A (qG (QO n es rs)))(hP:RightP n es rs)(hf:f0<(jE n es rs).length) :
  Calls Tryz.prog 113 #[.slice A (2*es.length) c,.int .i64 ((jE n es rs).length:Nat),.int .i64 f0] w (cm (zw n es rs f0) w):=by
 have hm:=(jP hP.may).2.2;have hFl:=xn hP;have HRL:=Lib.hid (show (zw n es rs f0).length=(jE n es rs).length from yY _ _ _ _ _);have HRE:=Lib.hid (show zw n es rs f0=zu (jY n es rs) (yE es rs) (jE n es rs).length f0 (2*es.length) from rfl);have HFc:=Lib.hid (show ∀h,h<2*es.length→jY n es rs h<(jE n es rs).length from fun h hh=>(ya hP hh).1);have HKd:=Lib.hid (show ∀h,h<2*es.length→yE es rs h≤2 from fun h _=>by unfold yE xL;split<;>(try split)<;>omega);obtain ⟨F,hF⟩:∃F,F=(jE n es rs).length:=⟨_,rfl⟩;rw [←hF] at hFl hf HRL HRE HFc ⊢;rw [ZR] at hQ;have HQ:=Lib.hid hQ;obtain ⟨M,hM⟩:∃M,M=2*es.length:=⟨_,rfl⟩;rw [←hM] at HQ HFc HKd HRE ⊢;have hM1:M≤256:=by omega
 have hF1:F≤256:=by omega
 clear hF hP hQ hM;have HA:=Lib.hid (Blk.new w 3 #[.int .i64 (-1)]);have HBA:=Lib.hid ((Below.refl w.heap.size w).alloc (Nat.le_refl _) (.cells #[.int .i64 (-1)] 3));have HRP:=Lib.hid (cW (-1) w.heap.size F _ HA.out (by omega) (by omega))
 go_enter Tryz.func113,Tryz.ntmps113
 go_wp2_with fail;refine HRP.out.mono ?_;rintro e w2 ⟨g,rfl,hg2,hb2,hbl2⟩;have hf':(f0:Int)<F:=by omega
 have HBL2:=Lib.hid hbl2;have HB2:=Lib.hid (HBA.out.trans (hb2.mono HBA.out.size));have HGG:=Lib.hid (show w.heap.size≤g by have:=HBA.out.size;omega);have cv:=hbl2.int_ (k:=f0) (by simpa using hf);have fv:=hbl2.frozen f0;have HF5:=Lib.hid (show Blk (w2.setCell ⟨g,f0,none⟩ (.int .i64 1)) g 3 (jf (zu (jY n es rs) (yE es rs) F f0 0)).toArray by rw [XR];exact HBL2.out.setInt f0 1);have HB5:=Lib.hid (show Below w.heap.size w (w2.setCell ⟨g,f0,none⟩ (.int .i64 1)) from HB2.out.setCell (p:=⟨g,f0,none⟩) HGG.out _);generalize (List.replicate F (-1:Int)).getD f0 0=v at *;clear hg2 hb2 hbl2 HRP;go_wp2_with fail;generalize w2.setCell ⟨g,f0,none⟩ (.int .i64 1)=w6 at *;clear cv fv
 go_loopg [18] M (fun k s18 wr=>∃i:Nat,s18 = .int .i64 i∧i≤M∧k=M-i∧Below w.heap.size w wr∧Blk wr g 3 (jf (zu (jY n es rs) (yE es rs) F f0 i)).toArray)
 case atStart=>exact ⟨0,rfl,Nat.zero_le _,rfl,HB5.out,HF5.out⟩
 case round=>
  obtain ⟨i,rfl,hi,hk,hb,hr⟩:=hrel;have Hk:=Lib.hid hk;have HB:=Lib.hid hb;have HR:=Lib.hid hr;clear hk hb hr;by_cases hil:i<M
  ·have hil':(i:Int)<M:=by omega
   obtain ⟨ba,oa,rfl,hba,hca⟩:=HQ.out.qu (by omega);obtain ⟨d0,d1,d2,d3⟩:=hca i hil;have hkeep:∀j,wr.cell? ⟨ba,j,none⟩=w.cell? ⟨ba,j,none⟩:=fun j=>HB.out.cell (p:=⟨ba,j,none⟩) hba;have e0:=(hkeep _).trans d0;have e1:=(hkeep _).trans d1;have e2:=(hkeep _).trans d2;have e3:=(hkeep _).trans d3;have hfl:=HFc.out i hil;have hk2:=HKd.out i hil;have HS:=Lib.hid (XS (Fc:=jY n es rs) (Kd:=yE es rs) (F:=F) (f0:=f0) (k:=i));have HLR:=Lib.hid (yY (jY n es rs) (yE es rs) F f0 i);have HBD:=Lib.hid (show ∀x∈zu (jY n es rs) (yE es rs) F f0 i,-1≤x∧x≤i+1 from fun x hx=>Zz hx);obtain ⟨fc,hfc⟩:∃fc,fc=jY n es rs i:=⟨_,rfl⟩;obtain ⟨kd,hkd⟩:∃kd,kd=yE es rs i:=⟨_,rfl⟩;rw [←hfc] at e2 hfl HS;rw [←hkd] at e3 hk2 HS;have hfl':(fc:Int)<F:=by omega
   obtain ⟨ob,hob⟩:∃o,o=Obj.cells #[.int .i64 i,.int .i64 (vtx es i:Nat),.int .i64 (fc:Nat),.int .i64 (kd:Nat)] 47:=⟨_,rfl⟩;have HRA:=Lib.hid (HR.out.alloc (.cells #[.int .i64 i,.int .i64 (vtx es i:Nat),.int .i64 (fc:Nat),.int .i64 (kd:Nat)] 47));have HBL:=Lib.hid (HB.out.alloc HB.out.size (.cells #[.int .i64 i,.int .i64 (vtx es i:Nat),.int .i64 (fc:Nat),.int .i64 (kd:Nat)] 47));have hgw:=HR.out.lt;have fr:=HRA.out.frozen fc;have cr:=HRA.out.int_ (k:=fc) (by rw [HLR.out];exact hfl);have fr0:=HR.out.frozen fc;have cr0:=HR.out.int_ (k:=fc) (by rw [HLR.out];exact hfl)
   have hvb:=HBD.out ((zu (jY n es rs) (yE es rs) F f0 i).getD fc 0) (by
    rw [List.getD_eq_getElem?_getD,List.getElem?_eq_getElem (by rw [HLR.out];exact hfl)]
    exact List.getElem_mem _)
   obtain ⟨rv,hrv⟩:∃rv,rv=(zu (jY n es rs) (yE es rs) F f0 i).getD fc 0:=⟨_,rfl⟩;rw [←hrv] at cr cr0 hvb;have HRV:=Lib.hid hrv;clear hfc hkd hca d0 d1 d2 d3 hkeep hrv hob;by_cases hk:kd=2
   ·subst hk
    have HN0:=Lib.hid (show Blk (wr.setCell ⟨g,fc,none⟩ (.int .i64 (rv+1))) g 3 (jf (zu (jY n es rs) (yE es rs) F f0 (i+1))).toArray by
     rw [HS.out,if_pos rfl,←HRV.out];exact HR.out.setInt fc (rv+1))
    have HN:=Lib.hid (HN0.out.alloc (.cells #[.int .i64 i,.int .i64 (vtx es i:Nat),.int .i64 (fc:Nat),.int .i64 2] 47));have HBN0:=Lib.hid (HB.out.setCell (p:=⟨g,fc,none⟩) HGG.out (.int .i64 (rv+1)));have HBN:=Lib.hid (HBN0.out.alloc HBN0.out.size (.cells #[.int .i64 i,.int .i64 (vtx es i:Nat),.int .i64 (fc:Nat),.int .i64 2] 47));have hwv:IntKind.i64.wrap (rv+1)=rv+1:=by rw [IntKind.wrap_i64];omega
    go_wp2_with fail
    go_roundg (M-(i+1))
    case measure=>rw [Hk.out];omega
    case rel=>exact ⟨i+1,by go_num,by omega,rfl,HBN.out,HN.out⟩
   ·have hk':((kd:Int)==2)=false:=by rw [beq_eq_false_iff_ne];omega
    have HN:=Lib.hid (show Blk (wr.alloc (.cells #[.int .i64 i,.int .i64 (vtx es i:Nat),.int .i64 (fc:Nat),.int .i64 (kd:Nat)] 47)) g 3 (jf (zu (jY n es rs) (yE es rs) F f0 (i+1))).toArray by rw [HS.out,if_neg hk];exact HRA.out);clear hk;go_wp2_with fail
    go_roundg (M-(i+1))
    case measure=>rw [Hk.out];omega
    case rel=>exact ⟨i+1,by go_num,by omega,rfl,HBL.out,HN.out⟩
  ·have hil':¬(i:Int)<M:=by omega
   have HFIN:=Lib.hid (show Blk wr g 3 (jf (zw n es rs f0)).toArray by rw [HRE.out,show M=i by omega];exact HR.out);go_wp2_with fail;go_ret;refine ⟨g,?_,HB.out,HFIN.out,HGG.out⟩;rw [HRL.out];rfl
end Go.Proofs.YtneeknlhlkpnpaaGreat
namespace Go.Proofs.YtneeknlhlkpnpaaGreat
open Go.RowKit
def kD(rs:List (List Int))(x:Nat):Int:=(rs.getD x []).getD ((rs.getD x []).length-1) 0
def Za(es:List (Int×Int))(rs:List (List Int))(x:Nat):Int:=if yJ es x=true then kD rs x else -1
def zU(es:List (Int×Int))(rs:List (List Int))(i:Nat):List Int:=(List.range i).map (Za es rs)
def Zu(n:Int)(es:List (Int×Int))(rs:List (List Int)):Nat→Int
 | 0=>0
 | k+1=>if yJ es k=true∧(kD rs k).toNat%2=0 then ((jY n es rs (kD rs k).toNat:Nat):Int) else Zu n es rs k
theorem ar(es:List (Int×Int))(rs:List (List Int))(i:Nat):zU es rs (i+1)=zU es rs i++[Za es rs i]:=by simp [zU,List.range_succ]
theorem Um(es:List (Int×Int))(rs:List (List Int))(i:Nat):(zU es rs i).length=i:=by simp [zU]
theorem ed{n:Int}{es:List (Int×Int)}{rs:List (List Int)}(hP:RightP n es rs){x:Nat}(ht:yJ es x=true):x<rs.length∧0<(rs.getD x []).length ∧ ∃h:Nat,kD rs x=h∧h<2*es.length∧vtx es h=x:=by
 have hin:=yV hP
 have key:∃h,h<2*es.length∧vtx es h=x:=by
  unfold yJ at ht;by_cases h1:(jK es Prod.snd (x:Nat) es.length).length=0
  ·have h2:(jK es Prod.fst (x:Nat) es.length).length≠0:=fun e=>by rw [h1,e] at ht;simp at ht
   obtain ⟨a,ha⟩:=List.exists_mem_of_length_pos (Nat.pos_of_ne_zero h2);obtain ⟨i,_,hi,he⟩:=ql.1 ha;obtain ⟨h3,_,_⟩:=xD hin hi;refine ⟨2*i,by omega,?_⟩;have e:es.getD i (0,0)=es[i]:=by rw [List.getD_eq_getElem?_getD,List.getElem?_eq_getElem hi];rfl
   rw [e,h3] at he;simp only at he;omega
  ·obtain ⟨a,ha⟩:=List.exists_mem_of_length_pos (Nat.pos_of_ne_zero h1);obtain ⟨i,_,hi,he⟩:=ql.1 ha;obtain ⟨h3,_,_⟩:=xD hin hi;refine ⟨2*i+1,by omega,?_⟩;have e:es.getD i (0,0)=es[i]:=by rw [List.getD_eq_getElem?_getD,List.getElem?_eq_getElem hi];rfl
   rw [e,h3] at he;simp only at he;omega
 obtain ⟨h,hh,hv⟩:=key;obtain ⟨y,i,hy,hi,_,hv2⟩:=hP.pos hh;have hxy:y=x:=by rw [←hv,←hv2]
 subst hxy;have eg:rs.getD y []=rs[y]:=by rw [List.getD_eq_getElem?_getD,List.getElem?_eq_getElem hy];rfl
 refine ⟨hy,by rw [eg];omega,?_⟩;obtain ⟨d,h1,h2,h3⟩:=hP.nat hy (i:=rs[y].length-1) (by omega);refine ⟨d,?_,h2,h3⟩;unfold kD;rw [eg,List.getD_eq_getElem?_getD,List.getElem?_eq_getElem (by omega),Option.getD_some];exact h1
def dL(n:Int)(es:List (Int×Int))(ord:List Int)(outs:List (List Int))(w:World)(e:Ending)(w':World):Prop:=
 Below w.heap.size w w'∧((∃en C c,GoodP n es∧xk n.toNat es ord outs=some en∧e = .returned (.tuple #[.int .i64 (Zu n es (yo n.toNat outs en) n.toNat),.slice C n.toNat c,.int .i64 0])∧jr w' w'.heap.size C (jf (zU es (yo n.toNat outs en) n.toNat))) ∨
  (¬(GoodP n es∧(xk n.toNat es ord outs).isSome=true)∧e = .returned (.tuple #[.int .i64 0,.slice none 0 0,.int .i64 1])))
theorem UD{N:Nat}{es:List (Int×Int)}{i:Nat}(h:i<N):(dN N es).getD i false=yJ es i:=by
 unfold dN;rw [List.getD_eq_getElem?_getD,List.getElem?_map,List.getElem?_range h];rfl
set_option maxRecDepth 20000 in
set_option maxHeartbeats 4000000 in
theorem iq(n:Int)(A O U:Option Addr)(cap co cu:Nat)(es:List (Int×Int))(ord:List Int)(outs:List (List Int))(w:World)(hes:jr w w.heap.size A (jA es))(hcap:es.length≤cap)(hO:jr w w.heap.size O (jf ord))(hU:qm w w.heap.size U outs)(hl:es.length≤500)(hol:∀l∈outs,l.length≤1000)
  (hflat:∀en,GoodP n es→xk n.toNat es ord outs=some en→RightP n es (yo n.toNat outs en)∧xy n es (yo n.toNat outs en)=true) :
  Calls Tryz.prog 21 #[.agg #[.int .i64 n,.slice A es.length cap],.agg #[.slice O ord.length co,.slice U outs.length cu]] w (dL n es ord outs w):=by
 obtain ⟨wb,hwb⟩:∃wb,wb=w.alloc (.cells #[.int .i64 n,.slice A es.length cap] 24):=⟨_,rfl⟩;have hb0:Below w.heap.size w wb:=by rw [hwb];exact (Below.refl _ _).alloc (Nat.le_refl _) _
 have hz0:wb.heap.size=w.heap.size+1:=by rw [hwb];simp
 have hGB:Blk wb w.heap.size 24 #[.int .i64 n,.slice A es.length cap]:=by rw [hwb];exact Blk.new _ _ _
 have S1:=Lib.hid (PlanS.start (w:=wb) co cu ((hO.below hb0).more hb0.size) ((hU.below hb0).more hb0.size));have HES0:=Lib.hid ((hes.below hb0).more hb0.size);have HGB0:=Lib.hid hGB;have HB0:=Lib.hid hb0;have HOL:=Lib.hid hol;have HFL:=Lib.hid hflat;clear hes hO hU hol hGB hb0 hflat
 go_enter Tryz.func21,Tryz.ntmps21
 go_upto_region 1 with fail
 rw [←hwb];obtain ⟨gG,hgG⟩:∃g,g=w.heap.size:=⟨_,rfl⟩;obtain ⟨gP,hgP⟩:∃g,g=wb.heap.size:=⟨_,rfl⟩;rw [←hgP] at S1;rw [←hgG] at HGB0;have hb1:=S1.out.bel;have HGB1:=Lib.hid (HGB0.out.below hb1 HGB0.out.lt);have HES1:=Lib.hid ((HES0.out.below hb1).more hb1.size)
 try rw [show w.heap.size+1=gP by omega]
 try rw [←hgP]
 rw [←hgG];obtain ⟨w1,hw1⟩:∃w1,w1=wb.alloc (.cells #[.slice O ord.length co,.slice U outs.length cu] 28):=⟨_,rfl⟩;rw [←hw1] at S1 HGB1 HES1 hb1 ⊢;have HB1:=Lib.hid (HB0.out.trans (hb1.mono HB0.out.size));have hgw1:gG<w1.heap.size:=HGB1.out.lt;clear hw1 hwb hgG hgP hz0 hb1;have g0:=HGB1.out.cell 0;have g1:=HGB1.out.cell 1;have p0:=S1.out.p0;have p1:=S1.out.p1;simp only [List.getElem?_toArray,List.getElem?_cons_zero,List.getElem?_cons_succ] at g0 g1;go_wp2_with fail;refine (KD n A O U cap co cu es ord outs w1 HES1.out hcap S1.out.o S1.out.u hl HOL.out).mono ?_;rintro e w2 ⟨hb2,hcase⟩;have HB2:=Lib.hid (HB1.out.trans (hb2.mono HB1.out.size));have HGB2:=Lib.hid (HGB1.out.below hb2 hgw1);have HES2:=Lib.hid ((HES1.out.below hb2).more hb2.size);clear g0 g1 p0 p1 hb2 hgw1;have g0:=HGB2.out.cell 0;have g1:=HGB2.out.cell 1;simp only [List.getElem?_toArray,List.getElem?_cons_zero,List.getElem?_cons_succ] at g0 g1;rcases hcase with ⟨en,C,c,hgd,hrun,rfl,hrw⟩ | ⟨hno,rfl⟩
 ·have hrw:=hrw.at_;obtain ⟨N,rfl⟩:∃N:Nat,n=(N:Int):=⟨n.toNat,by have:=(jP hgd.may).1;omega⟩;rw [Int.toNat_natCast] at hrw hrun ⊢;obtain ⟨hRP,hAK⟩:=by have:=HFL.out en hgd (by rw [Int.toNat_natCast];exact hrun);rw [Int.toNat_natCast] at this;exact this
  have HGD:=Lib.hid (And.intro hgd hrun);have hN64:N≤64:=by have:=(jP hgd.may).2.1;omega
  have hm128:=(jP hgd.may).2.2;obtain ⟨rs,hrs⟩:∃rs,rs=yo N outs en:=⟨_,rfl⟩;have HRL:=Lib.hid (show rs.length=N by rw [hrs];simp [yo]);have HFIN:=Lib.hid (show yo N outs en=rs from hrs.symm);rw [←hrs] at hrw hRP hAK;have HRP:=Lib.hid hRP
  have HR2:=Lib.hid (show ∀l∈rs,l.length≤1000 from fun l hl=>by
   obtain ⟨x,hx,rfl⟩:=List.mem_iff_getElem.1 hl
   have h1:rs[x].length≤2*es.length:=by
    have hs:(rs[x].map Int.toNat).Nodup:=by
     rw [List.nodup_iff_pairwise_ne,List.pairwise_map];refine (List.nodup_iff_pairwise_ne.1 (hRP.nd x hx)).imp_of_mem fun {a b} ha hb h e=>h ?_;have h1:=hRP.at_ x hx a ha;have h2:=hRP.at_ x hx b hb;omega
    have:=List.Nodup.length_le_of_subset hs (l₂ :=List.range (2*es.length)) (fun a ha=>by
     obtain ⟨b,hb,rfl⟩:=List.mem_map.1 ha;have h2:=hRP.at_ x hx b hb
     exact List.mem_range.2 (by omega))
    simpa using this
   omega)
  have HAK:=Lib.hid (show dP N es rs=QO N es rs by unfold dP;rw [if_pos hAK]);have HRW:=Lib.hid hrw;clear hRP hAK hrw hrun hrs;have HANG:=Lib.hid (bZ N A C cap c es rs w2 HES2.out HRW.out (by rw [HRL.out];omega) HR2.out);rw [HRL.out] at HANG;go_wp2_with fail;refine HANG.out.mono ?_;clear HANG;rintro e w3 ⟨A3,c3,rfl,hb3,hc3,_⟩;rw [HAK.out] at hc3;rw [HAK.out,vS];rw [ZR] at hc3;have HB3:=Lib.hid (HB2.out.trans (hb3.mono HB2.out.size));have HGB3:=Lib.hid (HGB2.out.below hb3 HGB2.out.lt);have HES3:=Lib.hid ((HES2.out.below hb3).more hb3.size);have HRW3:=Lib.hid ((HRW.out.below hb3).more hb3.size);have HQ3:=Lib.hid hc3;clear hb3 hc3 g0 g1;have g0:=HGB3.out.cell 0;have g1:=HGB3.out.cell 1;simp only [List.getElem?_toArray,List.getElem?_cons_zero,List.getElem?_cons_succ] at g0 g1;go_wp2_with fail;refine (aM N A cap es w3 HES3.out hgd hl).mono ?_;rintro e w4 ⟨gt,rfl,hb4,hbl4⟩;have HB4:=Lib.hid (HB3.out.trans (hb4.mono HB3.out.size));have HRW4:=Lib.hid ((HRW3.out.below hb4).more hb4.size);have HQ4:=Lib.hid ((HQ3.out.below hb4).more hb4.size);have HTP:=Lib.hid hbl4;clear hb4 hbl4 g0 g1;go_wp2_with fail
  have HFc:=Lib.hid (show ∀h,h<2*es.length→jY N es rs h≤10000 from fun h hh=>by
   have h1:=(ya HRP.out hh).1;have h2:=xn HRP.out
   omega)
  go_loopg [4,5,27] N (fun k s4 s5 s27 wr=>∃i:Nat,s27 = .int .i64 i∧i≤N∧k=N-i∧s4 = .int .i64 (Zu N es rs i)∧Below w4.heap.size w4 wr∧wr.ownsRow w4.heap.size 3 1 s5 i (jf (zU es rs i)))
  case atStart=>exact ⟨0,rfl,Nat.zero_le _,rfl,rfl,Below.refl _ _,rfl,.inl ⟨rfl,rfl⟩⟩
  case round=>
   obtain ⟨i,rfl,hi,hk,rfl,hb,hown⟩:=hrel;have Hk:=Lib.hid hk;have HB:=Lib.hid hb;have HOW:=Lib.hid hown;obtain ⟨A5,c5,rfl⟩:=jv hown;clear hk hb hown;by_cases hil:i<N
   ·have hil':(i:Int)<N:=by omega
    have ct:=(HTP.out.below HB.out HTP.out.lt).bool (k:=i) (by simpa [dN] using hil);rw [UD hil] at ct;have hzw:=HB.out.size;have HGS:=Lib.hid (ar es rs i);have HGO:=Lib.hid (show Za es rs i=if yJ es i=true then kD rs i else -1 from rfl);have HOT:=Lib.hid (show Zu N es rs (i+1)=if yJ es i=true∧(kD rs i).toNat%2=0 then ((jY N es rs (kD rs i).toNat:Nat):Int) else Zu N es rs i from rfl);obtain ⟨ov,hov⟩:∃ov,ov=Zu N es rs i:=⟨_,rfl⟩;rw [←hov] at HOT ⊢
    cases ht:yJ es i with
    | false=>
     rw [ht] at ct HGO HOT;simp only [Bool.false_eq_true,false_and,if_false] at HGO HOT;have HGN:=Lib.hid (show zU es rs (i+1)=zU es rs i++[-1] by rw [HGS.out,HGO.out]);have HON:=Lib.hid (show ov=Zu N es rs (i+1) from HOT.out.symm);clear HGS HGO HOT ht hov;go_wp2_with (at_builtin;refine yC qz rfl _ _ rfl w4.heap.size (.slice A5 i c5) _ _ rfl wr.heap.size [.int .i64 (-1:Int)] rfl rfl HOW.out rfl rfl ?x2 ?x3 ?x4 ?_)
     case x2=>omega
     case x3=>omega
     try (case x4=>omega)
     intro v10 w10 ho10 hg10 hb10;have HBX:=Lib.hid (qb HB.out HOW.out hg10 hzw (Nat.le_refl _))
     have HOX:=Lib.hid (show w10.ownsRow w4.heap.size 3 1 v10 (i+1) (jf (zU es rs (i+1))) by
      rw [HGN.out]
      simpa [jf] using ho10)
     clear ho10 hg10 hb10;go_wp2_with fail
     go_roundg (N-(i+1))
     case measure=>rw [Hk.out];omega
     case rel=>exact ⟨i+1,by go_num,by omega,rfl,by rw [←HON.out],HBX.out,HOX.out⟩
    | true=>
     obtain ⟨hxr,hpos,h,hlh,hhM,hvx⟩:=ed HRP.out ht;rw [ht] at ct HGO HOT;rw [hlh] at HGO HOT;simp only [true_and,if_true,Int.toNat_natCast] at HGO HOT;have HGN:=Lib.hid (show zU es rs (i+1)=zU es rs i++[(h:Int)] by rw [HGS.out,HGO.out]);obtain ⟨bC,oC,eC,hbC,hrowC⟩:=HRW4.out (by omega);obtain ⟨Ai,ci,hcell,hrow⟩:=hrowC i hxr;have eg:rs.getD i []=rs[i]:=by rw [List.getD_eq_getElem?_getD,List.getElem?_eq_getElem hxr];rfl
     unfold kD at hlh;rw [eg] at hlh hpos;have hR2i:=HR2.out _ (List.getElem_mem hxr);obtain ⟨bl,ol,el,hbl,hcl⟩:=hrow.ints (by omega);have hcl2:=hcl (rs[i].length-1) (by omega);rw [List.getD_eq_getElem?_getD,List.getElem?_eq_getElem (by omega),Option.getD_some] at hlh;rw [hlh] at hcl2;subst eC el;have d0:=(HB.out.cell (p:=⟨bC,oC+i,none⟩) hbC).trans hcell;have d1:=(HB.out.cell (p:=⟨bl,ol+(rs[i].length-1),none⟩) hbl).trans hcl2;obtain ⟨L,hL⟩:∃L,L=rs[i].length-1:=⟨_,rfl⟩;have hL1:L+1≤1000:=by omega
     rw [show rs[i].length=L+1 by omega] at d0;rw [←hL] at d1;have hLc:((L+1:Nat):Int)-1=(L:Int):=by omega
     clear hL hrowC hrow hcl hcl2 hlh hcell eg hpos hR2i hxr ht HGS HGO hvx hbC hbl
     go_upto_region 10 with fail
     go_quiet (fail)
     have HB2q:=Lib.hid (below_drewN HB.out nq);have HOWq:=Lib.hid (show (wr.drewN nq).ownsRow w4.heap.size 3 1 (.slice A5 i c5) i (jf (zU es rs i)) from HOW.out);have hzq:=HB2q.out.size;generalize wr.drewN nq=wq at *;have htm:Int.tmod (h:Int) 2=((h%2:Nat):Int):=by rw [Int.tmod_eq_emod_of_nonneg (by omega)];omega
     clear d0 d1 ct hzw;rcases Nat.mod_two_eq_zero_or_one h with h2 | h2
     ·rw [h2] at htm;rw [if_pos h2] at HOT;obtain ⟨ba,oa,eA,hba,hca⟩:=HQ4.out.qu (by omega);subst eA;obtain ⟨_,_,z2,_⟩:=hca h hhM;have d2:=(HB2q.out.cell (p:=⟨ba,oa+h*4+2,none⟩) hba).trans z2;have HON:=Lib.hid HOT.out.symm;have hfv:=HFc.out h hhM;obtain ⟨fv,hfv2⟩:∃fv,fv=jY N es rs h:=⟨_,rfl⟩;rw [←hfv2] at d2 HON hfv;have hhM2:(h:Int)<((2*es.length:Nat):Int):=by omega
      clear hca z2 hov hba HOT h2 hfv2;go_wp2_with (at_builtin;refine yC qz rfl _ _ rfl w4.heap.size (.slice A5 i c5) _ _ rfl wq.heap.size [.int .i64 (h:Int)] rfl rfl HOWq.out rfl rfl ?x2 ?x3 ?x4 ?_)
      case x2=>omega
      case x3=>omega
      try (case x4=>omega)
      intro v10 w10 ho10 hg10 hb10;have HBX:=Lib.hid (qb HB2q.out HOWq.out hg10 hzq (Nat.le_refl _))
      have HOX:=Lib.hid (show w10.ownsRow w4.heap.size 3 1 v10 (i+1) (jf (zU es rs (i+1))) by
       rw [HGN.out]
       simpa [jf] using ho10)
      clear ho10 hg10 hb10;go_wp2_with fail
      go_roundg (N-(i+1))
      case measure=>rw [Hk.out];omega
      case rel=>exact ⟨i+1,by go_num,by omega,rfl,by rw [←HON.out],HBX.out,HOX.out⟩
     ·rw [h2] at htm;rw [if_neg (by omega)] at HOT;have HON:=Lib.hid HOT.out.symm;clear hov HOT h2;go_wp2_with (at_builtin;refine yC qz rfl _ _ rfl w4.heap.size (.slice A5 i c5) _ _ rfl wq.heap.size [.int .i64 (h:Int)] rfl rfl HOWq.out rfl rfl ?x2 ?x3 ?x4 ?_)
      case x2=>omega
      case x3=>omega
      try (case x4=>omega)
      intro v10 w10 ho10 hg10 hb10;have HBX:=Lib.hid (qb HB2q.out HOWq.out hg10 hzq (Nat.le_refl _))
      have HOX:=Lib.hid (show w10.ownsRow w4.heap.size 3 1 v10 (i+1) (jf (zU es rs (i+1))) by
       rw [HGN.out]
       simpa [jf] using ho10)
      clear ho10 hg10 hb10;go_wp2_with fail
      go_roundg (N-(i+1))
      case measure=>rw [Hk.out];omega
      case rel=>exact ⟨i+1,by go_num,by omega,rfl,by rw [←HON.out],HBX.out,HOX.out⟩
   ·have hie:i=N:=by omega
    have hil':¬(i:Int)<N:=by omega
    have HOF:=Lib.hid (show wr.ownsRow w4.heap.size 3 1 (.slice A5 N c5) N (jf (zU es rs N)) by rw [←hie];exact HOW.out);have HOV:=Lib.hid (show Zu N es rs i=Zu N es rs N by rw [hie]);have HIE:=Lib.hid hie;clear hie;go_wp2_with fail;go_ret3;refine ⟨HB4.out.trans (HB.out.mono HB4.out.size),.inl ⟨en,A5,c5,hgd,by rw [Int.toNat_natCast];exact HGD.out.2,?_,?_⟩⟩
    ·rw [Int.toNat_natCast,HFIN.out,←HOV.out,HIE.out];rfl
    ·rw [Int.toNat_natCast,HFIN.out];exact jr.of_own HOF.out
 ·have HNO:=Lib.hid hno;clear hno;go_wp2_with fail;go_ret3;exact ⟨HB2.out,.inr ⟨HNO.out,rfl⟩⟩
end Go.Proofs.YtneeknlhlkpnpaaGreat
namespace Go.Proofs.YtneeknlhlkpnpaaGreat
open Go.RowKit
def nz(x:Int):Bool:=x != 0
theorem iw(x:Int)(w:World):Calls Tryz.prog 115 #[.int .i64 x] w fun e w'=>e = .returned (.bool (nz x))∧Below w.heap.size w w':=by
 go_enter Tryz.func115,Tryz.ntmps115
 go_wp2
 go_ret;exact ⟨rfl,Below.refl _ _⟩
theorem XH(u:World)(args:Array Value):(callFunc 115 args).run Tryz.prog u = .ok (.enter 115 args) u:=by
 go_simp
theorem XG(A:Option Addr)(cap:Nat)(l:List Int)(w:World)(hlen:l.length≤1000)(h:jr w w.heap.size A (jf l)) :
  Calls Tryz.prog 114 #[.slice A l.length cap,.func (.func 115) #[] #[]] w fun e w'=>e = .returned (.bool (l.any nz))∧Below w.heap.size w w':=by
 have Hc:=Lib.hid (mr w.heap.size A cap l 115 #[] nz w hlen rfl h XH (fun i hi w' _=>iw l[i] w'));clear h
 go_enter Tryz.func114,Tryz.ntmps114
 go_wp2_with fail;refine Hc.out.mono ?_;rintro e w' ⟨r,rfl,hb,hr⟩;have Hr:=Lib.hid hr;clear hr;go_wp2_with fail;go_ret;refine ⟨jx ?_,hb⟩;rcases Hr.out with ⟨rfl,h⟩ | ⟨k,rfl,hk,hp,_⟩
 ·rw [show decide ((0:Int) ≤ -1)=false from rfl,eq_comm,List.any_eq_false];intro a ha;obtain ⟨i,hi,rfl⟩:=List.mem_iff_getElem.1 ha;have:=h i hi;rw [List.getD_eq_getElem?_getD,List.getElem?_eq_getElem hi,Option.getD_some] at this;rw [this];simp
 ·rw [decide_eq_true (by omega),eq_comm,List.any_eq_true];rw [List.getD_eq_getElem?_getD,List.getElem?_eq_getElem hk,Option.getD_some] at hp;exact ⟨_,List.getElem_mem hk,hp⟩
def R5.BFact.cellsQ(L:List (Nat×Nat×Nat×Nat)):R5.BFact [[]]:=⟨[],fun v w=>∃A c,v = .slice A L.length c∧jr w w.heap.size A (qG L),fun c _ _ _ w' hb ⟨A,c',e,hc⟩=>⟨A,c',e,by
 have hS:([[]]:List (List Nat)).getD c []=[]:=by cases c<;>rfl
 rw [hS] at hb
 exact (hc.below (hb.below (Nat.le_refl _) (by simp))).more hb.size⟩⟩
def R5.BFact.lenF(F:Nat):R5.BFact [[]]:=⟨[],fun v _=>∃A c,v = .slice A F c,fun _ _ _ _ _ _ h=>h⟩
def Yk(n:Int)(es:List (Int×Int))(rs:List (List Int))(great:List Int)(st:Option (List Int))(x:Nat):Option (List Int):=
 match st with
 | none=>none
 | some room=>if yJ es x=true then (if 0≤great.getD x 0∧great.getD x 0<((2*es.length:Nat):Int)∧vtx es (great.getD x 0).toNat=x then some (room.set (jY n es rs (great.getD x 0).toNat) (room.getD (jY n es rs (great.getD x 0).toNat) 0-1)) else none)
  else if great.getD x 0 = -1 then some room else none
def uJ(n:Int)(es:List (Int×Int))(rs:List (List Int))(great:List Int)(room:List Int)(k:Nat):Option (List Int):=(List.range k).foldl (Yk n es rs great) (some room)
noncomputable def zS(n:Int)(es:List (Int×Int))(rs:List (List Int))(outer:Int)(great:List Int):Bool:=
 if (jE n es rs).length=0 then decide (outer=0)&&decide (great.getD 0 0 = -1) else
  if 0≤outer∧outer<((jE n es rs).length:Int) then (match uJ n es rs great (zw n es rs outer.toNat) rs.length with | none=>false | some room=>!room.any nz) else false
noncomputable def vz(n:Int)(es:List (Int×Int))(rs:List (List Int))(outer:Int)(great:List Int):Bool:=
 xz n es&&((xy n es rs&&xP rs)&&(decide ((great.length:Int)=n)&&zS n es rs outer great))
section
variable {n:Int}{es:List (Int×Int)}{rs:List (List Int)}{great room:List Int}
theorem zX{k:Nat}:uJ n es rs great room (k+1)=Yk n es rs great (uJ n es rs great room k) k:=by
 unfold uJ;rw [List.range_succ,List.foldl_append];rfl
theorem JI{k:Nat}(h:uJ n es rs great room k=none):∀j,k≤j→uJ n es rs great room j=none:=by
 intro j hj
 induction j with
 | zero=>rw [show 0=k by omega];exact h
 | succ j ih=>
  by_cases e:k=j+1
  ·rw [←e];exact h
  ·rw [zX,ih (by omega)];rfl
theorem ix{k:Nat}{r':List Int}(h:uJ n es rs great room k=some r'):r'.length=room.length ∧ ∀x∈r',∃y∈room,y-k≤x∧x≤y:=by
 induction k generalizing r' with
 | zero=>
  injection h with h;subst h;exact ⟨rfl,fun x hx=>⟨x,hx,by omega,by omega⟩⟩
 | succ k ih=>
  rw [zX] at h
  cases hq:uJ n es rs great room k with
  | none=>rw [hq] at h;cases h
  | some r1=>
   rw [hq] at h;obtain ⟨h1,h2⟩:=ih hq;unfold Yk at h;simp only at h
   have keep:∀x∈r1,∃y∈room,y-((k+1:Nat):Int)≤x∧x≤y:=fun x hx=>by
    obtain ⟨y,hy,h3,h4⟩:=h2 x hx;exact ⟨y,hy,by omega,h4⟩
   split at h
   ·split at h
    ·injection h with h;subst h;refine ⟨by rw [List.length_set];exact h1,fun x hx=>?_⟩;generalize jY n es rs (great.getD k 0).toNat=f at hx;by_cases hf:f<r1.length
     ·rcases List.mem_or_eq_of_mem_set hx with hx | hx
      ·exact keep x hx
      ·obtain ⟨y,hy,h3,h4⟩:=h2 r1[f] (List.getElem_mem hf);rw [List.getD_eq_getElem?_getD,List.getElem?_eq_getElem hf,Option.getD_some] at hx;exact ⟨y,hy,by omega,by omega⟩
     ·rw [List.set_eq_of_length_le (by omega)] at hx;exact keep x hx
    ·cases h
   ·split at h
    ·injection h with h;subst h;exact ⟨h1,keep⟩
    ·cases h
end
end Go.Proofs.YtneeknlhlkpnpaaGreat
namespace Go.Proofs.YtneeknlhlkpnpaaGreat
open Go.RowKit
set_option maxRecDepth 20000 in
set_option maxHeartbeats 8000000 in
theorem my(n:Int)(A C G:Option Addr)(cap ccap cg:Nat)(es:List (Int×Int))(rs:List (List Int))(outer:Int)(great:List Int)(w:World)(hes:jr w w.heap.size A (jA es))(hcap:es.length≤cap)(hrs:qm w w.heap.size C rs)(hr1:rs.length≤1000)(hr2:∀l∈rs,l.length≤1000)(hgr:jr w w.heap.size G (jf great))(hgl:great.length≤1000)(hl:es.length≤500) :
  Calls Tryz.prog 61 #[.agg #[.int .i64 n,.slice A es.length cap],.slice C rs.length ccap,.int .i64 outer,.slice G great.length cg] w (fun e w'=>e = .returned (.bool (vz n es rs outer great))∧Below w.heap.size w w'):=by
 have S1:=Lib.hid (SG.start n cap hes hrs);have HR2:=Lib.hid hr2;have HGR:=Lib.hid hgr;have HF0:=Lib.hid (show vz n es rs outer great=(xz n es&&((xy n es rs&&xP rs)&&(decide ((great.length:Int)=n)&&zS n es rs outer great))) from rfl)
 have HFR:=Lib.hid (show zS n es rs outer great=if (jE n es rs).length=0 then decide (outer=0)&&decide (great.getD 0 0 = -1) else
  if 0≤outer∧outer<((jE n es rs).length:Int) then (match uJ n es rs great (zw n es rs outer.toNat) rs.length with | none=>false | some room=>!room.any nz) else false from rfl)
 clear hes hrs hr2 hgr
 go_enter Tryz.func61,Tryz.ntmps61
 go_upto_region 1 with fail
 obtain ⟨gG,hgG⟩:∃g,g=w.heap.size:=⟨_,rfl⟩;rw [←hgG];obtain ⟨w1,hw1⟩:∃w1,w1=w.alloc (.cells #[.int .i64 n,.slice A es.length cap] 24):=⟨_,rfl⟩;rw [←hw1] at S1 ⊢;have HGB1:=Lib.hid S1.out.b;rw [←hgG] at HGB1;have HGG:=Lib.hid hgG;clear hgG hw1;have g0:=HGB1.out.cell 0;have g1:=HGB1.out.cell 1;simp only [List.getElem?_toArray,List.getElem?_cons_zero,List.getElem?_cons_succ] at g0 g1;go_wp2_with fail;refine (VG n A cap es w1 S1.out.es hcap).mono ?_;rintro e w2 ⟨cd,a,v,rfl,hb2,hc⟩;have HC:=Lib.hid hc;have S2:=Lib.hid (S1.out.next hb2);have HGB2:=Lib.hid (HGB1.out.below hb2 HGB1.out.lt);have BEL:=Lib.hid S2.out.below;have hfd:=Qv cd a v w2;clear hb2 hc g0 g1;have g0:=HGB2.out.cell 0;have g1:=HGB2.out.cell 1;simp only [List.getElem?_toArray,List.getElem?_cons_zero,List.getElem?_cons_succ] at g0 g1;by_cases h0:cd=0
 ·have h0':(cd != 0)=false:=by rw [h0];rfl
  have HGOOD:=Lib.hid (HC.out.1 h0)
  have HF1:=Lib.hid (show vz n es rs outer great=((xy n es rs&&xP rs)&&(decide ((great.length:Int)=n)&&zS n es rs outer great)) by
   rw [HF0.out,show xz n es=true from jB.2 HGOOD.out,Bool.true_and])
  clear h0;go_wp2_with fail;refine (bX n A C cap ccap es rs w2 S2.out.es S2.out.rs hr1 HR2.out).mono ?_;rintro e w3 ⟨rfl,hb3⟩;have S3:=Lib.hid (S2.out.next hb3);have HGB3:=Lib.hid (HGB2.out.below hb3 HGB2.out.lt);have BEL:=Lib.hid S3.out.below;clear hb3 g0 g1 hfd;have g0:=HGB3.out.cell 0;have g1:=HGB3.out.cell 1;simp only [List.getElem?_toArray,List.getElem?_cons_zero,List.getElem?_cons_succ] at g0 g1
  cases hab:xy n es rs&&xP rs with
  | false=>
   have HF2:=Lib.hid (show vz n es rs outer great=false by rw [HF1.out,hab,Bool.false_and]);clear hab;go_wp2_with fail;go_ret;exact ⟨jx HF2.out.symm,BEL.out⟩
  | true=>
   have HF2:=Lib.hid (show vz n es rs outer great=(decide ((great.length:Int)=n)&&zS n es rs outer great) by rw [HF1.out,hab,Bool.true_and]);rw [Bool.and_eq_true] at hab;have HASK:=Lib.hid hab.1;clear hab;by_cases hln:(great.length:Int)=n
   ·have hln':((great.length:Int) != n)=false:=by rw [bne_eq_false_iff_eq];exact hln
    have HF3:=Lib.hid (show vz n es rs outer great=zS n es rs outer great by rw [HF2.out,decide_eq_true hln,Bool.true_and]);have HP:=Lib.hid (qZ.1 (by have h:=HASK.out;unfold xy at h;simp only [Bool.and_eq_true] at h;exact h.1:yn n es rs=true));have HAR:=Lib.hid (show dP n es rs=QO n es rs by unfold dP;rw [if_pos HASK.out]);have HLN:=Lib.hid hln;clear hln;obtain ⟨F,hF⟩:∃F,F=(jE n es rs).length:=⟨_,rfl⟩;have HFE:=Lib.hid hF;have hFl:F≤1000:=by have:=xn HP.out;have:=(jP HP.out.may).2.2;omega
    rw [←hF] at HFR;obtain ⟨Q,hQ⟩:∃Q,Q=QO n es rs:=⟨_,rfl⟩;rw [←hQ] at HAR;have HQE:=Lib.hid hQ;have HQL:=Lib.hid (show Q.length=2*es.length by rw [hQ];exact vS n es rs);clear hF hQ
    go_upto_region 3 with fail
    refine R5.wp_region_b [[]] [0,0,0,0,0,0,0,0,0]
     [([],.val (.agg #[.int .i64 n,.slice A es.length cap])),([],.val (.slice C rs.length ccap)),([0,1],.cellsQ Q),([],.val (.agg #[.int .i64 n,.slice A es.length cap])),([],.val (.slice C rs.length ccap)),([3,4],.lenF F),([5],.val (.int .i64 (F:Nat))),([2],.cellsQ Q),([6],.val (.int .i64 (F:Nat)))] [7,8] (by kernel_rfl) (by kernel_rfl) (fun us=>?_) ?_
    ·refine R5.pgo_pure _ rfl rfl (fun wv hw hu=>⟨.agg #[.int .i64 n,.slice A es.length cap],?_,rfl⟩) ?_
     ·have tok:=True.intro;have zy0:wv.cell? ⟨gG,0,none⟩=some (.int .i64 n):=((R5.BW.in_ hw [] rfl (by kernel_rfl):But [] w3.drew wv).blk HGB3.out.drew (by simp)).cell 0;have zy1:wv.cell? ⟨gG,1,none⟩=some (.slice A es.length cap):=((R5.BW.in_ hw [] rfl (by kernel_rfl):But [] w3.drew wv).blk HGB3.out.drew (by simp)).cell 1;clear hw hu;go_simp
     refine R5.pgo_pure _ rfl rfl (fun wv hw hu=>⟨.slice C rs.length ccap,?_,rfl⟩) ?_
     ·have tok:=True.intro;clear hw hu;go_simp
     refine R3.pgo_op _ rfl rfl (fun K wv hw hu hK=>?_) ?_
     ·have tok:=True.intro;have h0:us 0 = .agg #[.int .i64 n,.slice A es.length cap]:=hu.1;have h1:us 1 = .slice C rs.length ccap:=hu.2.1;have h0:us 0 = .agg #[.int .i64 n,.slice A es.length cap]:=hu.1;have h1:us 1 = .slice C rs.length ccap:=hu.2.1;have hbv:=(R5.BW.in_ hw [] rfl (by kernel_rfl):But [] w3.drew wv).undrew.below (Nat.le_refl _) (by simp);have SV:=S3.out.next hbv
      have hAN:=bZ n A C cap ccap es rs wv SV.es SV.rs hr1 HR2.out;rw [HAR.out] at hAN;refine yI (f:=16) (args:=#[.agg #[.int .i64 n,.slice A es.length cap],.slice C rs.length ccap]) ?_ (hAN.mono ?_)
      ·clear hK hw hu hbv SV hAN;go_simp
      rintro e z ⟨A2,c2,rfl,hzb,hzc,_⟩;exact ⟨_,rfl,hK _ _ (But.of_below _ hzb (Nat.le_refl _)) ⟨A2,c2,rfl,hzc⟩⟩
     refine R5.pgo_pure _ rfl rfl (fun wv hw hu=>⟨.agg #[.int .i64 n,.slice A es.length cap],?_,rfl⟩) ?_
     ·have tok:=True.intro;have zy0:wv.cell? ⟨gG,0,none⟩=some (.int .i64 n):=((R5.BW.in_ hw [] rfl (by kernel_rfl):But [] w3.drew wv).blk HGB3.out.drew (by simp)).cell 0;have zy1:wv.cell? ⟨gG,1,none⟩=some (.slice A es.length cap):=((R5.BW.in_ hw [] rfl (by kernel_rfl):But [] w3.drew wv).blk HGB3.out.drew (by simp)).cell 1;clear hw hu;go_simp
     refine R5.pgo_pure _ rfl rfl (fun wv hw hu=>⟨.slice C rs.length ccap,?_,rfl⟩) ?_
     ·have tok:=True.intro;clear hw hu;go_simp
     refine R3.pgo_op _ rfl rfl (fun K wv hw hu hK=>?_) ?_
     ·have tok:=True.intro;have h3:us 3 = .agg #[.int .i64 n,.slice A es.length cap]:=hu.1;have h4:us 4 = .slice C rs.length ccap:=hu.2.1;have h3:us 3 = .agg #[.int .i64 n,.slice A es.length cap]:=hu.1;have h4:us 4 = .slice C rs.length ccap:=hu.2.1;have hbv:=(R5.BW.in_ hw [] rfl (by kernel_rfl):But [] w3.drew wv).undrew.below (Nat.le_refl _) (by simp);have SV:=S3.out.next hbv
      have hAN:=Wl n A C cap ccap es rs wv SV.es SV.rs hr1 HR2.out;refine yI (f:=50) (args:=#[.agg #[.int .i64 n,.slice A es.length cap],.slice C rs.length ccap]) ?_ (hAN.mono ?_)
      ·clear hK hw hu hbv SV hAN;go_simp
      rintro e z ⟨A2,c2,rfl,hzb,_⟩;rw [←HFE.out];exact ⟨_,rfl,hK _ _ (But.of_below _ hzb (Nat.le_refl _)) ⟨A2,c2,rfl⟩⟩
     refine R3.pgo_val _ rfl rfl (fun wv hw hu=>?_) ?_
     ·have tok:=True.intro;obtain ⟨A5,c5,h5⟩:=hu.1;refine ⟨.int .i64 (F:Nat),wv,?_,But.refl _ _,rfl⟩;clear hw hu;go_simp
     refine R3.pgo_val _ rfl rfl (fun wv hw hu=>?_) ?_
     ·have tok:=True.intro;obtain ⟨A2,c2,h2,hc2⟩:=hu.1;refine ⟨us 2,wv,?_,But.refl _ _,A2,c2,h2,hc2⟩;rw [h2];clear hw hu hc2;go_simp
     refine R3.pgo_val _ rfl rfl (fun wv hw hu=>?_) ?_
     ·have tok:=True.intro;have h6:us 6 = .int .i64 (F:Nat):=hu.1;refine ⟨.int .i64 (F:Nat),wv,?_,But.refl _ _,rfl⟩;clear hw hu;go_simp
     trivial
    ·intro us w4 hw hu;obtain ⟨A7,c7,h7,hc7⟩:∃A c,us 7 = .slice A Q.length c∧jr w4 w4.heap.size A (qG Q):=hu.1;have h8:us 8 = .int .i64 (F:Nat):=hu.2.1;have hb4:=(R5.BW.in_ hw [] rfl (by kernel_rfl):But [] w3.drew w4).undrew.below (Nat.le_refl _) (by simp);have S4:=Lib.hid (S3.out.next hb4);have HGB4:=Lib.hid (HGB3.out.below hb4 HGB3.out.lt);have BEL:=Lib.hid S4.out.below;have HQ4:=Lib.hid hc7;clear hw hu hb4 hc7 g0 g1;simp only [kx];go_simp;rw [HQL.out];clear h7 h8;have g0:=HGB4.out.cell 0;have g1:=HGB4.out.cell 1;simp only [List.getElem?_toArray,List.getElem?_cons_zero,List.getElem?_cons_succ] at g0 g1;obtain ⟨N,hN⟩:∃N:Nat,n=(N:Int):=⟨great.length,HLN.out.symm⟩;subst hN;have hgN:great.length=N:=by have:=HLN.out;omega
     have HGN:=Lib.hid hgN;have HRL:=Lib.hid (show rs.length=N by have:=HP.out.len;omega);have hN0:0<N:=by have:=(jP HP.out.may).1;omega
     have hN64:N≤64:=by have:=(jP HP.out.may).2.1;omega
     have HGR4:=Lib.hid ((HGR.out.below BEL.out).more BEL.out.size);have hgl2:great.length<1001:=by omega
     by_cases hF0:F=0
     ·have hF0':((F:Int)==0)=true:=by rw [hF0];rfl
      rw [if_pos hF0] at HFR;by_cases ho:outer=0
      ·have ho':(outer==0)=true:=by rw [ho];rfl
       have HFX:=Lib.hid (show vz N es rs outer great=(great.getD 0 0 == -1) by rw [HF3.out,HFR.out,decide_eq_true ho,Bool.true_and,Bool.eq_iff_iff,decide_eq_true_eq,beq_iff_eq]);obtain ⟨bg,og,rfl,hbg,hcg⟩:=HGR4.out.ints (by omega);have cg0:=hcg 0 (by omega);have hgl3:(0:Int)<(great.length:Int):=by omega
       rw [show great[0]=great.getD 0 0 by rw [List.getD_eq_getElem?_getD,List.getElem?_eq_getElem (by omega)];rfl] at cg0;rw [Nat.add_zero] at cg0;generalize great.getD 0 0=gv at *;clear ho hF0 hcg hgN;go_wp2_with fail;go_ret;exact ⟨jx HFX.out.symm,BEL.out⟩
      ·have ho':(outer==0)=false:=by rw [beq_eq_false_iff_ne];exact ho
       have HFX:=Lib.hid (show vz N es rs outer great=false by rw [HF3.out,HFR.out,decide_eq_false ho,Bool.false_and]);clear ho hF0 hgN;go_wp2_with fail;go_ret;exact ⟨jx HFX.out.symm,BEL.out⟩
     ·have hF0':((F:Int)==0)=false:=by rw [beq_eq_false_iff_ne];omega
      rw [if_neg hF0] at HFR;by_cases ho:0≤outer
      ·by_cases ho2:outer<(F:Int)
       ·rw [if_pos ⟨ho,ho2⟩] at HFR;obtain ⟨f0,rfl⟩:∃f0:Nat,outer=f0:=⟨outer.toNat,by omega⟩;rw [Int.toNat_natCast] at HFR;have ho3:¬(F:Int)≤(f0:Int):=by omega
        have hf0:f0<F:=by omega
        clear ho hF0 hgN;have HRM:=cP N A7 c7 es rs f0 w4 (by rw [←HQE.out];exact HQ4.out) HP.out (by rw [←HFE.out];exact hf0);rw [←HFE.out] at HRM;obtain ⟨room,hroom⟩:∃room,room=zw N es rs f0:=⟨_,rfl⟩;rw [←hroom] at HRM HFR;have HRLE:=Lib.hid (show room.length=F by rw [hroom,HFE.out];exact yY _ _ _ _ _)
        have HRSM:=Lib.hid (show ∀x∈room,-1≤x∧x≤1000 from fun x hx=>by
         rw [hroom] at hx;have:=Zz hx;have:=(jP HP.out.may).2.2
         omega)
        have HFc:=Lib.hid (show ∀h,h<2*es.length→jY N es rs h<F from fun h hh=>by rw [HFE.out];exact (ya HP.out hh).1);clear hroom;go_wp2_with fail;refine HRM.mono ?_;rintro e w5 ⟨g,rfl,hb5,hbl5,hgg⟩;rw [HRLE.out];have S5:=Lib.hid (S4.out.next hb5);have HGB5:=Lib.hid (HGB4.out.below hb5 HGB4.out.lt);have HR5:=Lib.hid hbl5;have HG5:=Lib.hid (And.intro hgg hb5);clear HRM hb5 hbl5 g0 g1 hgg;have g0:=HGB5.out.cell 0;have g1:=HGB5.out.cell 1;simp only [List.getElem?_toArray,List.getElem?_cons_zero,List.getElem?_cons_succ] at g0 g1;go_wp2_with fail;refine (aM N A cap es w5 S5.out.es HGOOD.out hl).mono ?_;rintro e w6 ⟨gt,rfl,hb6,hbl6⟩;have HTP:=Lib.hid hbl6;have HR6:=Lib.hid (HR5.out.below hb6 HR5.out.lt);have HB46:=Lib.hid (HG5.out.2.trans (hb6.mono HG5.out.2.size));have HB46s:=HB46.out.size;have hgw4:w4.heap.size≤g:=HG5.out.1;clear hb6 hbl6 g0 g1;go_wp2_with fail
        go_loopg [63] N (fun k s63 wr=>∃(i:Nat) (r':List Int),s63 = .int .i64 i∧i≤N∧k=N-i∧uJ N es rs great room i=some r'∧Below w4.heap.size w4 wr∧Blk wr g 3 (jf r').toArray∧Blk wr gt 4 (jD (dN N es)).toArray)
        case atStart=>exact ⟨0,room,rfl,Nat.zero_le _,rfl,rfl,HB46.out,HR6.out,HTP.out⟩
        case round=>
         obtain ⟨i,r',rfl,hi,hk,hgo,hb,hbl,hbt⟩:=hrel;have Hk:=Lib.hid hk;have HB:=Lib.hid hb;have HBL:=Lib.hid hbl;have HBT:=Lib.hid hbt;have HGO:=Lib.hid hgo;have hri:=ix hgo;have HRL':=Lib.hid (show r'.length=F by rw [hri.1,HRLE.out])
         have HRS':=Lib.hid (show ∀x∈r',-101≤x∧x≤1000 from fun x hx=>by
          obtain ⟨y,hy,h1,h2⟩:=hri.2 x hx;have:=HRSM.out y hy
          omega)
         have BELR:=Lib.hid (BEL.out.trans (hb.mono BEL.out.size));clear hk hb hbl hbt hgo hri;by_cases hil:i<N
         ·have hil':(i:Int)<N:=by omega
          have ct:=HBT.out.bool (k:=i) (by simpa [dN] using hil);rw [UD hil] at ct;obtain ⟨bg,og,eG,hbg,hcg⟩:=HGR4.out.ints (by have:=HGN.out;omega);subst eG;have cg0:=(HB.out.cell (p:=⟨bg,og+i,none⟩) hbg).trans (hcg i (by have:=HGN.out;omega));have hgil:(i:Int)<(great.length:Int):=by have:=HGN.out;omega
          have HST:=Lib.hid (show Yk N es rs great (some r') i=if yJ es i=true then (if 0≤great.getD i 0∧great.getD i 0<((2*es.length:Nat):Int)∧vtx es (great.getD i 0).toNat=i then some (r'.set (jY N es rs (great.getD i 0).toNat) (r'.getD (jY N es rs (great.getD i 0).toNat) 0-1)) else none)
           else if great.getD i 0 = -1 then some r' else none from rfl)
          rw [show great[i]'(by have:=HGN.out;omega)=great.getD i 0 by rw [List.getD_eq_getElem?_getD,List.getElem?_eq_getElem (by have:=HGN.out;omega)];rfl] at cg0;generalize great.getD i 0=gv at *;clear hcg hbg
          cases ht:yJ es i with
          | false=>
           rw [ht] at ct HST;rw [if_neg (by decide)] at HST;by_cases hv:gv = -1
           ·have hv':(gv == -1)=true:=by rw [hv];rfl
            rw [if_pos hv] at HST;have HN:=Lib.hid (show uJ N es rs great room (i+1)=some r' by rw [zX,HGO.out];exact HST.out);clear hv ht HST;go_wp2_with fail
            go_roundg (N-(i+1))
            case measure=>rw [Hk.out];omega
            case rel=>exact ⟨i+1,r',by go_num,by omega,rfl,HN.out,HB.out,HBL.out,HBT.out⟩
           ·have hv':(gv == -1)=false:=by rw [beq_eq_false_iff_ne];exact hv
            rw [if_neg hv] at HST
            have HFX:=Lib.hid (show vz N es rs f0 great=false by
           rw [HF3.out,HFR.out,HRL.out,JI (k:=i+1) (by rw [zX,HGO.out];exact HST.out) N (by omega)])
            clear hv ht HST;go_wp2_with fail;go_ret;exact ⟨jx HFX.out.symm,BELR.out⟩
          | true=>
           rw [ht] at ct HST;rw [if_pos rfl] at HST;by_cases hv0:0≤gv
           ·obtain ⟨h,rfl⟩:∃h:Nat,gv=h:=⟨gv.toNat,by omega⟩;rw [Int.toNat_natCast] at HST;by_cases hv1:h<2*es.length
            ·have hv1':(h:Int)<((2*es.length:Nat):Int):=by omega
             obtain ⟨ba,oa,eA,hba,hca⟩:=(by have h9:=HQ4.out;rw [HQE.out,ZR] at h9;exact h9:jr w4 w4.heap.size A7 (qG (quL (vtx es) (jY N es rs) (yE es rs) (2*es.length)))).qu (by omega);subst eA;obtain ⟨_,z1,z2,_⟩:=hca h hv1;have d1:=(HB.out.cell (p:=⟨ba,oa+h*4+1,none⟩) hba).trans z1;have d2:=(HB.out.cell (p:=⟨ba,oa+h*4+2,none⟩) hba).trans z2;have hfv:=HFc.out h hv1;obtain ⟨fv,hfv2⟩:∃fv,fv=jY N es rs h:=⟨_,rfl⟩;obtain ⟨vv,hvv⟩:∃vv,vv=vtx es h:=⟨_,rfl⟩;rw [←hfv2] at d2 HST hfv;rw [←hvv] at d1 HST;clear hca z1 z2 hba hfv2 hvv;by_cases hvx:vv=i
             ·have hvx':((vv:Int)==(i:Int))=true:=by rw [hvx,beq_self_eq_true]
              rw [if_pos ⟨by omega,hv1',hvx⟩] at HST;have HN:=Lib.hid (show uJ N es rs great room (i+1)=some (r'.set fv (r'.getD fv 0-1)) by rw [zX,HGO.out];exact HST.out);have hfF:(fv:Int)<(F:Int):=by omega
              have hfr:fv<r'.length:=by rw [HRL'.out];exact hfv
              have cr:=HBL.out.int_ (k:=fv) hfr;have fr:=HBL.out.frozen fv
              have hvb:=HRS'.out (r'.getD fv 0) (by
               rw [List.getD_eq_getElem?_getD,List.getElem?_eq_getElem hfr]
               exact List.getElem_mem _)
              have HN1:=Lib.hid (HBL.out.setInt fv (r'.getD fv 0-1));have HNB:=Lib.hid (HB.out.setCell (p:=⟨g,fv,none⟩) hgw4 (.int .i64 (r'.getD fv 0-1)));have HNT:=Lib.hid (HBT.out.far (p:=⟨g,fv,none⟩) (fun e=>pQ HBT.out HBL.out (by decide) e) (.int .i64 (r'.getD fv 0-1)));generalize r'.getD fv 0=rv at *;have hwv:IntKind.i64.wrap (rv-1)=rv-1:=by rw [IntKind.wrap_i64];omega
              clear hvx ht HST hfr hv1;go_wp2_with fail
              go_roundg (N-(i+1))
              case measure=>rw [Hk.out];omega
              case rel=>exact ⟨i+1,r'.set fv (rv-1),by go_num,by omega,rfl,HN.out,HNB.out,HN1.out,HNT.out⟩
             ·have hvx':((vv:Int)==(i:Int))=false:=by rw [beq_eq_false_iff_ne];omega
              rw [if_neg (fun h=>hvx h.2.2)] at HST
              have HFX:=Lib.hid (show vz N es rs f0 great=false by
           rw [HF3.out,HFR.out,HRL.out,JI (k:=i+1) (by rw [zX,HGO.out];exact HST.out) N (by omega)])
              clear hvx ht HST hv1;go_wp2_with fail;go_ret;exact ⟨jx HFX.out.symm,BELR.out⟩
            ·have hv1':¬(h:Int)<((2*es.length:Nat):Int):=by omega
             rw [if_neg (fun h=>hv1' h.2.1)] at HST
             have HFX:=Lib.hid (show vz N es rs f0 great=false by
           rw [HF3.out,HFR.out,HRL.out,JI (k:=i+1) (by rw [zX,HGO.out];exact HST.out) N (by omega)])
             clear hv1 ht HST;go_wp2_with fail;go_ret;exact ⟨jx HFX.out.symm,BELR.out⟩
           ·have hv0':¬gv≥0:=by omega
            rw [if_neg (fun h=>hv0 h.1)] at HST
            have HFX:=Lib.hid (show vz N es rs f0 great=false by
           rw [HF3.out,HFR.out,HRL.out,JI (k:=i+1) (by rw [zX,HGO.out];exact HST.out) N (by omega)])
            clear ht HST;go_wp2_with fail;go_ret;exact ⟨jx HFX.out.symm,BELR.out⟩
         ·have hil':¬(i:Int)<N:=by omega
          have HFX:=Lib.hid (show vz N es rs f0 great = !r'.any nz by
           have e1:i=N:=by omega
           have h9:=HGO.out;rw [e1] at h9
           rw [HF3.out,HFR.out,HRL.out,h9])
          have HCN:=XG (some ⟨g,0,none⟩) F r' wr (by rw [HRL'.out];exact hFl) ((jr.of_blk (R:=#[]) (by simpa using HBL.out)).more HBL.out.lt);rw [HRL'.out] at HCN;have HCN:=Lib.hid HCN;go_wp2_with fail;refine HCN.out.mono ?_;rintro e w7 ⟨rfl,hb7⟩;have BEL7:=Lib.hid (BELR.out.trans (hb7.mono BELR.out.size));generalize r'.any nz=bb at *;clear hb7;go_wp2_with fail;go_ret;exact ⟨jx HFX.out.symm,BEL7.out⟩
       ·rw [if_neg (fun h=>ho2 h.2)] at HFR;have HFX:=Lib.hid (show vz N es rs outer great=false by rw [HF3.out,HFR.out]);have ho3:(F:Int)≤outer:=by omega
        clear hF0 hgN;go_wp2_with fail;go_ret;exact ⟨jx HFX.out.symm,BEL.out⟩
      ·rw [if_neg (fun h=>ho h.1)] at HFR;have HFX:=Lib.hid (show vz N es rs outer great=false by rw [HF3.out,HFR.out]);have ho3:outer<0:=by omega
       clear hF0 hgN;go_wp2_with fail;go_ret;exact ⟨jx HFX.out.symm,BEL.out⟩
   ·have hln':((great.length:Int) != n)=true:=by rw [bne_iff_ne];exact hln
    have HF3:=Lib.hid (show vz n es rs outer great=false by rw [HF2.out,decide_eq_false hln,Bool.false_and]);clear hln;go_wp2_with fail;go_ret;exact ⟨jx HF3.out.symm,BEL.out⟩
 ·have h0':(cd != 0)=true:=by rw [bne_iff_ne];exact h0
  have HF1:=Lib.hid (show vz n es rs outer great=false by
   rw [HF0.out,show xz n es=false from Xu.2 (fun h=>h0 (HC.out.2 h)),Bool.false_and])
  clear h0;go_wp2_with fail;go_ret;exact ⟨jx HF1.out.symm,BEL.out⟩
end Go.Proofs.YtneeknlhlkpnpaaGreat
