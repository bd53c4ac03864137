import Derived.Test.YtneeknlhlkpnpaaGreatZHalv
import Derived.Test.YtneeknlhlkpnpaaGreatZFollow
import Derived.Test.YtneeknlhlkpnpaaGreatZSameRot
import Derived.Test.YtneeknlhlkpnpaaGreatZRRun
import Derived.Test.YtneeknlhlkpnpaaGreatZAng0
import Derived.Test.YtneeknlhlkpnpaaGreatZFits
import Derived.Test.YtneeknlhlkpnpaaGreatZReg
import Derived.Test.YtneeknlhlkpnpaaGreatZEul
/-
 rise.Back: what it computes. (Printed by backgen.py.) Written by an AI agent.
-/
namespace Go.Proofs.YtneeknlhlkpnpaaGreat
open Go.RowKit
def nc(n:Int)(es:List (Int×Int))(rs:List (List Int))(w:World)(e:Ending)(w':World):Prop:=
 Below w.heap.size w w'∧((¬(GoodP n es∧RightP n es rs)∧e = .returned (.tuple #[.agg #[.slice none 0 0,.slice none 0 0],.int .i64 1])) ∨
  (GoodP n es∧RightP n es rs∧GK n.toNat es rs∧e = .returned (.tuple #[.agg #[.slice none 0 0,.slice none 0 0],.int .i64 3])) ∨
  ∃ord outs en O co U cu,GoodP n es∧RightP n es rs∧xk n.toNat es ord outs=some en∧xo (jS n.toNat outs en) rs=true∧e = .returned (.tuple #[.agg #[.slice O ord.length co,.slice U outs.length cu],.int .i64 0])∧jr w' w'.heap.size O (jf ord)∧qm w' w'.heap.size U outs)
theorem VQ{N:Nat}{es:List (Int×Int)}{rs:List (List Int)}(hR:RightP N es rs):∀l∈rs,l.length≤2*es.length:=fun l hl=>by
 obtain ⟨x,hx,rfl⟩:=List.mem_iff_getElem.1 hl
 have hs:(rs[x].map Int.toNat).Nodup:=by
  rw [List.nodup_iff_pairwise_ne,List.pairwise_map];refine (List.nodup_iff_pairwise_ne.1 (hR.nd x hx)).imp_of_mem fun {a b} ha hb h e=>h ?_;have h1:=hR.at_ x hx a ha;have h2:=hR.at_ x hx b hb;omega
 have:=List.Nodup.length_le_of_subset hs (l₂ :=List.range (2*es.length)) (fun a ha=>by
  obtain ⟨b,hb,rfl⟩:=List.mem_map.1 ha;have h2:=hR.at_ x hx b hb
  exact List.mem_range.2 (by omega))
 simpa using this
theorem mw{N s:Nat}{es:List (Int×Int)}(hg:GoodP N es)(hs:s<N)(h0:inD es s=0):qU N es Prod.snd=[(s:Int)]:=by
 have h1:=hg.src;rw [Int.toNat_natCast] at h1;have hm:s∈xg N es Prod.snd:=vL.2 ⟨hs,zn.1 h0⟩;unfold qU
 match h:xg N es Prod.snd with
 | []=>rw [h] at hm;cases hm
 | [x]=>rw [h] at hm;rw [List.mem_singleton.1 hm];rfl
 | x::y::t=>rw [h] at h1;simp at h1
def oj{B:Nat}(n:Nat)(F:List (List Int)):PFact B:=⟨[25,3],[],fun _ v w=>(∃A c,v = .slice A n c)∧qo w B v F,fun _ hT _ _ _ _ he h=>⟨h.1,h.2.evo he (hT _ (by simp)) (hT _ (by simp))⟩,fun _ _ _ _ _ h=>h⟩
theorem qo.evoD{B base:Nat}{T:List TypeId}{w w':World}{v:Value}{F:List (List Int)}(h:qo w base v F)(he:Evo B T w.drew w')(hT:T=[]):qo w' base v F:=by
 subst hT;have h':qo w.drew base v F:=h;exact h'.evo he (by simp) (by simp)
def oq{B:Nat}(v0:Value)(F:List (List Int)):PFact B:=⟨[25,3],[],fun _ _ w=>qo w B v0 F,fun _ hT _ _ _ _ he h=>h.evo he (hT _ (by simp)) (hT _ (by simp)),fun _ _ _ _ _ h=>h⟩
def rz{B:Nat}(n:Nat)(xs:List Value)(gp:Nat)(w0:World):PFact B:=⟨[],[],fun _ v _=>∃A c,v = .slice A n c ∧ ∀wz,Evo gp [28,25] w0 wz→jr wz wz.heap.size A xs,fun _ _ _ _ _ _ _ h=>h,fun _ _ _ _ _ h=>h⟩
def rk{B:Nat}(i j:Nat)(t:TypeId):PFact B:=
 ⟨[t],[i,j],fun us v w=>∃g,v = .slice (some ⟨g,0,none⟩) 2 2∧B≤g∧Blk w g t #[us i,us j],fun _ hT _ _ _ _ he ⟨g,hv,hg,hb⟩=>⟨g,hv,hg,hb.evo he (.inr (hT t (by simp)))⟩,
  fun _ _ h _ _ ⟨g,hv,hg,hb⟩=>⟨g,hv,hg,by rw [←h i (by simp),←h j (by simp)];exact hb⟩⟩
theorem xC{tmps:Array Value}{W:World}{g:Nat}{c:Value}{cs:Array Value}(hp:tmps.getD 4 undef = .pointer (some ⟨g,0,none⟩))(hc:tmps.getD 5 undef=c)(hb:Blk W g 28 cs)(hs:cs.size=2) :
  (results Tryz.f26 tmps).run Tryz.prog W = .ok (.tuple #[.agg cs,c]) W:=by
 have hp':tmps[4]?.getD undef = .pointer (some ⟨g,0,none⟩):=by simpa using hp
 have hc':tmps[5]?.getD undef=c:=by simpa using hc
 simp [results,Tryz.results26,hp',hc',asAddr,run_loadVar_row W g _ _ cs _ _ hb Tryz.underlying28 rfl (by rw [hs];kernel_rfl)]
theorem QF{w:World}{g:Nat}{a0 b0:Value}(h:Blk w g 28 #[a0,b0])(a b:Value):Blk ((w.setCell ⟨g,0,none⟩ a).setCell ⟨g,1,none⟩ b) g 28 #[a,b]:=(h.set_ 0 a).set_ 1 b
theorem ue{B:Nat}{w0 w:World}(hb:Below B w0 w){g:Nat}(hg:B≤g)(a b:Value):Below B w0 ((w.setCell ⟨g,0,none⟩ a).setCell ⟨g,1,none⟩ b):=(hb.setCell (p:=⟨g,0,none⟩) hg a).setCell (p:=⟨g,1,none⟩) hg b
theorem lT{B:Nat}{w:World}{g:Nat}{a0 b0:Value}(h:Blk w g 28 #[a0,b0])(hg:B≤g)(a b:Value):Evo B [28] w ((w.setCell ⟨g,0,none⟩ a).setCell ⟨g,1,none⟩ b):=(Evo.set_ h (List.mem_singleton.2 rfl) hg 0 a).trans (Evo.set_ (h.set_ 0 a) (List.mem_singleton.2 rfl) hg 1 b)
set_option maxRecDepth 20000 in
set_option maxHeartbeats 16000000 in
theorem iN(n:Int)(A C:Option Addr)(cap cc:Nat)(es:List (Int×Int))(rs:List (List Int))(w:World)(hes:jr w w.heap.size A (jA es))(hcap:es.length≤cap)(hrs:vn w w.heap.size C rs)(hr1:rs.length≤1000)(hr2:∀l∈rs,l.length≤1000) :
  Calls Tryz.prog 26 #[.agg #[.int .i64 n,.slice A es.length cap],.slice C rs.length cc] w (nc n es rs w):=by
 obtain ⟨wb,hwb⟩:∃wb,wb=w.alloc (.cells #[.int .i64 n,.slice A es.length cap] 24):=⟨_,rfl⟩;have hb0:Below w.heap.size w wb:=by rw [hwb];exact (Below.refl _ _).alloc (Nat.le_refl _) _
 have hz0:wb.heap.size=w.heap.size+1:=by rw [hwb];simp
 have hGB:Blk wb w.heap.size 24 #[.int .i64 n,.slice A es.length cap]:=by rw [hwb];exact Blk.new _ _ _
 obtain ⟨w1,hw1⟩:∃w1,w1=wb.alloc (.cells #[.slice none 0 0,.slice none 0 0] 28):=⟨_,rfl⟩;have hb1:Below w.heap.size w w1:=by rw [hw1];exact hb0.alloc hb0.size _
 have hz1:w1.heap.size=w.heap.size+2:=by rw [hw1];simp;omega
 have HGB:=Lib.hid (show Blk w1 w.heap.size 24 #[.int .i64 n,.slice A es.length cap] by rw [hw1];exact hGB.alloc _);have HRB:=Lib.hid (show Blk w1 (w.heap.size+1) 28 #[.slice none 0 0,.slice none 0 0] by rw [hw1,←hz0];exact Blk.new _ _ _);have HES:=Lib.hid ((hes.below hb1).more hb1.size);have HRS:=Lib.hid ((hrs.below hb1).more hb1.size);have HB1:=Lib.hid hb1;have HR2:=Lib.hid hr2;clear hes hrs hr2 hGB hb0 hb1
 go_enter Tryz.func26,Tryz.ntmps26
 go_upto_region 1 with fail
 rw [←hwb,←hw1];obtain ⟨gG,hgG⟩:∃g,g=w.heap.size:=⟨_,rfl⟩;rw [←hgG] at HGB HRB ⊢;have HGG:=Lib.hid hgG;have hgl:gG+1<w1.heap.size:=by omega
 have HK:=Lib.hid (show ∀wr,Below w1.heap.size w1 wr→wr.cell? ⟨gG,0,none⟩=some (.int .i64 n)∧wr.cell? ⟨gG,1,none⟩=some (.slice A es.length cap)∧jr wr wr.heap.size A (jA es)∧vn wr wr.heap.size C rs∧Blk wr (gG+1) 28 #[.slice none 0 0,.slice none 0 0]∧Below w.heap.size w wr from fun wr hb=>by
  have k0:=(HGB.out.below hb (by omega)).cell 0;have k1:=(HGB.out.below hb (by omega)).cell 1;simp only [List.getElem?_toArray,List.getElem?_cons_zero,List.getElem?_cons_succ] at k0 k1
  exact ⟨k0,k1,(HES.out.below hb).more hb.size,(HRS.out.below hb).more hb.size,HRB.out.below hb hgl,HB1.out.trans (hb.mono HB1.out.size)⟩)
 obtain ⟨g0,g1,_⟩:=HK.out w1 (Below.refl _ _);clear hwb hw1 hz0 hgG;go_wp2_with fail;refine (VG n A cap es w1 HES.out hcap).mono ?_;rintro e w2 ⟨c2,a2,v2,rfl,hb2,hc2⟩;have HB2:=Lib.hid hb2;have hfld:=fun (W:World)=>Qv c2 a2 v2 W;clear hb2 g0 g1;obtain ⟨g0,g1,hE2,hR2,hP2,hW2⟩:=HK.out w2 HB2.out;have HE2:=Lib.hid hE2;have HRR2:=Lib.hid hR2;have HP2:=Lib.hid hP2;have HW2:=Lib.hid hW2;clear hE2 hR2 hP2 hW2;by_cases hc0:c2=0
 case neg=>
  have HNG:=Lib.hid (show ¬GoodP n es from fun h=>hc0 (hc2.2 h));have hcn:(c2 != 0)=true:=by simpa using hc0
  have f0:=HP2.out.cell 0;have f1:=HP2.out.cell 1;have r0:=HP2.out.frozen 0;have r1:=HP2.out.frozen 1;simp only [List.getElem?_toArray,List.getElem?_cons_zero,List.getElem?_cons_succ] at f0 f1;clear hc0 hc2;go_wp2_with fail;refine bodyPost_ret (xC rfl rfl (QF HP2.out (.slice none 0 0) (.slice none 0 0)) rfl) (by rfl) ?_;exact ⟨ue HW2.out (by have:=HGG.out;omega) _ _,.inl ⟨fun h=>HNG.out h.1,rfl⟩⟩
 case pos=>
 have hg:=hc2.1 hc0;have hcn:(c2 != 0)=false:=by simpa using hc0
 obtain ⟨N,rfl⟩:∃N:Nat,n=(N:Int):=⟨n.toNat,by have:=(jP hg.may).1;omega⟩;have hN64:N≤64:=by have:=(jP hg.may).2.1;omega
 have hm128:=(jP hg.may).2.2;have HGD:=Lib.hid hg;clear hc0 hc2 hg;go_wp2_with fail;refine (Vi N A C cap cc es rs w2 HE2.out HRR2.out.at_ hr1 HR2.out).mono ?_;rintro e w3 ⟨rfl,hb3⟩;have HB3:=Lib.hid (HB2.out.trans (hb3.mono HB2.out.size));clear hb3 g0 g1 hfld hcn;obtain ⟨g0,g1,hE3,hR3,hP3,hW3⟩:=HK.out w3 HB3.out;have HE3:=Lib.hid hE3;have HRR3:=Lib.hid hR3;have HP3:=Lib.hid hP3;have HW3:=Lib.hid hW3;clear hE3 hR3 hP3 hW3 HE2 HRR2 HP2 HW2
 cases hrb:yn N es rs with
 | false=>
  have HNR:=Lib.hid (show ¬RightP N es rs from fun h=>by rw [qZ.2 h] at hrb;cases hrb);have f0:=HP3.out.cell 0;have f1:=HP3.out.cell 1;have r0:=HP3.out.frozen 0;have r1:=HP3.out.frozen 1;simp only [List.getElem?_toArray,List.getElem?_cons_zero,List.getElem?_cons_succ] at f0 f1;clear hrb;go_wp2_with fail;refine bodyPost_ret (xC rfl rfl (QF HP3.out (.slice none 0 0) (.slice none 0 0)) rfl) (by rfl) ?_;exact ⟨ue HW3.out (by have:=HGG.out;omega) _ _,.inl ⟨fun h=>HNR.out h.2,rfl⟩⟩
 | true=>
 have HR:=Lib.hid (qZ.1 hrb);obtain ⟨s,hsN,hs0,hsu⟩:=ZD HGD.out;have HSN:=Lib.hid hsN;have HS0:=Lib.hid hs0;have HSU:=Lib.hid hsu;have HBV:=Lib.hid (mw HGD.out hsN hs0);have HRL:=Lib.hid (show rs.length=N by have:=HR.out.len;omega);clear hrb hs0 hsu;go_wp2_with fail;refine (um N A cap es w3 HE3.out).mono ?_;rintro e w4 ⟨gv,rfl,hb4,hv4⟩;rw [(Ze HGD.out).1,(Ze HGD.out).2,Int.toNat_natCast] at hv4;have HV4:=Lib.hid hv4;have HB4:=Lib.hid (HB3.out.trans (hb4.mono HB3.out.size));clear hb4 hv4 g0 g1;go_wp2_with fail;have hso:=VO gv N es w4 HV4.out (by omega) (by omega);rw [HBV.out] at hso;have HSO:=Lib.hid hso;clear hso;refine HSO.out.mono ?_;rintro e w5 ⟨v5,rfl,hb5,ho5⟩;obtain ⟨A5,c5,rfl⟩:=jv ho5;have HB5:=Lib.hid (HB4.out.trans (hb5.mono HB4.out.size));obtain ⟨q5,f5,rfl,hq5,hc5⟩:=(jr.of_own ho5:jr w5 w5.heap.size A5 (jf [(s:Int)])).ints (by simp);have c0:=hc5 0 (by simp);simp only [List.getElem_cons_zero,Nat.add_zero] at c0;obtain ⟨g0,g1,hE5,hR5,hP5,hW5⟩:=HK.out w5 HB5.out;have HE5:=Lib.hid hE5;have HRR5:=Lib.hid hR5;clear hE5 hR5 hP5 hW5 hb5 ho5 hc5 HE3 HRR3 HP3 HW3;go_wp2_with fail;refine (bX N A C cap cc es rs w5 HE5.out HRR5.out.at_ hr1 HR2.out).mono ?_;rintro e w6 ⟨rfl,hb6⟩;have HB6:=Lib.hid (HB5.out.trans (hb6.mono HB5.out.size));clear hb6 g0 g1 c0;obtain ⟨g0,g1,hE6,hR6,hP6,hW6⟩:=HK.out w6 HB6.out;have HE6:=Lib.hid hE6;have HRR6:=Lib.hid hR6;have HP6:=Lib.hid hP6;have HW6:=Lib.hid hW6;clear hE6 hR6 hP6 hW6 HE5 HRR5
 cases hab:(xy N es rs&&xP rs) with
 | false=>
  have HNB:=Lib.hid (show GK N es rs from .inl hab);have f0:=HP6.out.cell 0;have f1:=HP6.out.cell 1;have r0:=HP6.out.frozen 0;have r1:=HP6.out.frozen 1;simp only [List.getElem?_toArray,List.getElem?_cons_zero,List.getElem?_cons_succ] at f0 f1;clear hab;go_wp2_with fail;refine bodyPost_ret (xC rfl rfl (QF HP6.out (.slice none 0 0) (.slice none 0 0)) rfl) (by rfl) ?_;exact ⟨ue HW6.out (by have:=HGG.out;omega) _ _,.inr (.inl ⟨HGD.out,HR.out,by rw [Int.toNat_natCast];exact HNB.out,rfl⟩)⟩
 | true=>
 have HBI:=Lib.hid (show xP rs=true by simp only [Bool.and_eq_true] at hab;exact hab.2)
 have HRL2:=Lib.hid (show ∀l∈rs,∀a∈l,∃d:Nat,a=d∧d≤100000 from fun l hl a ha=>by
  obtain ⟨x,hx,rfl⟩:=List.getElem_of_mem hl;obtain ⟨i,hi,rfl⟩:=List.getElem_of_mem ha;obtain ⟨d,h1,h2,_⟩:=HR.out.nat hx hi
  exact ⟨d,h1,by omega⟩)
 clear hab
 go_upto_region 7 with fail
 obtain ⟨w7,hw7⟩:∃w7,w7=w6.alloc (.cells #[.slice none 0 0,.slice none 0 0] 28):=⟨_,rfl⟩;obtain ⟨gp,hgp⟩:∃g,g=w6.heap.size:=⟨_,rfl⟩;have hb67:Below gp w6 w7:=by rw [hw7,hgp];exact (Below.refl _ _).alloc (Nat.le_refl _) _
 have hz7:w7.heap.size=gp+1:=by rw [hw7,hgp];simp
 have HQ7:=Lib.hid (show Blk w7 gp 28 #[.slice none 0 0,.slice none 0 0] by rw [hw7,hgp];exact Blk.new _ _ _);have HB67:=Lib.hid hb67;have HGP:=Lib.hid hgp;have HZ7:=Lib.hid hz7;rw [←hw7,←hgp];clear hw7 hgp hb67 hz7 g0 g1
 have HRR:=Lib.hid (show ∀wr,Below gp w6 wr→vn wr gp C rs from fun wr hb=>by
  have h1:=HRR6.out;rw [←HGP.out] at h1
  exact h1.below hb)
 go_wp2_with fail
 go_loopg [40,9] rs.length (fun k s40 s9 wr=>∃i:Nat,s40 = .int .i64 i∧i≤rs.length∧k=rs.length-i∧Below gp w6 wr∧gp<wr.heap.size ∧ ∃v,Blk wr gp 28 #[.slice none 0 0,v]∧qo wr gp v ((rs.take i).map yM))
 case atStart=>exact ⟨0,rfl,Nat.zero_le _,rfl,HB67.out,by have:=HZ7.out;omega,_,HQ7.out,⟨[],World.ownsRow_nil _ _ _ _,fun i hi=>absurd hi (by simp)⟩⟩
 case round=>
  obtain ⟨i,rfl,hi,hk,hbr,hgr,v,hq,hown⟩:=hrel;have Hk:=Lib.hid hk;have HBr:=Lib.hid hbr;have HQ:=Lib.hid hq;have HOWN:=Lib.hid hown;have hFl:((rs.take i).map yM).length=i:=by rw [List.length_map,List.length_take];omega
  obtain ⟨Av,cv,rfl⟩:∃A c,v = .slice A i c:=by
   obtain ⟨sl,h1,_⟩:=hown;rw [hFl] at h1;exact jv h1
  have HFL:=Lib.hid hFl;clear hk hbr hq hown hFl;by_cases hlt:i<rs.length
  ·have hlt':(i:Int)<rs.length:=by omega
   obtain ⟨b2,o2,rfl,hb2,hc2⟩:=(HRR.out wr HBr.out) (by omega);obtain ⟨Ai,ci,e0,hCi,hci⟩:=hc2 i hlt;have HCi:=Lib.hid (hCi.more (Nat.le_of_lt hgr));have hll:=HR2.out _ (List.getElem_mem hlt);have HLN:=Lib.hid (HRL2.out _ (List.getElem_mem hlt))
   have HT:=Lib.hid (show (rs.take (i+1)).map yM=(rs.take i).map yM++[yM rs[i]] by
    rw [List.take_succ_eq_append_getElem hlt,List.map_append];rfl)
   clear hc2 hCi;generalize rs[i]=l at *
   go_upto_region 10 with fail
   refine R3.wp_region_i gp [[],[25],[28]] [0,0,0,0,0,1,0,2]
    [([],.val (.pointer (some ⟨gp,1,none⟩))),([0],.val (.slice Av i cv)),([],.val (.slice Ai l.length ci)),([2],.own 3 1 (yM l).length (jf (yM l))),([3],rp 3 25),([1,3,4],oj (i+1) ((rs.take i).map yM++[yM l])),([],.val (.pointer (some ⟨gp,1,none⟩))),([5,6],rn gp 5 28 (fun u=>#[.slice none 0 0,u]))] [5,7] (by kernel_rfl) (by kernel_rfl) (fun us=>?_) ?_
   ·refine R3.pgo_pure _ rfl rfl (fun wv hw hu=>⟨.pointer (some ⟨gp,1,none⟩),?_,rfl⟩) ?_
    ·have tok:=True.intro;clear hw hu;go_simp
    refine R3.pgo_pure _ rfl rfl (fun wv hw hu=>⟨.slice Av i cv,?_,rfl⟩) ?_
    ·have tok:=True.intro;have h0:us 0 = .pointer (some ⟨gp,1,none⟩):=hu.1;have zy:wv.cell? ⟨gp,1,none⟩=some (.slice Av i cv):=(HQ.out.drew.evo hw (.inr (of_decide_eq_true (by kernel_rfl)))).cell 1;clear hw hu;go_simp
    refine R3.pgo_pure _ rfl rfl (fun wv hw hu=>⟨.slice Ai l.length ci,?_,rfl⟩) ?_
    ·have tok:=True.intro;clear hw hu;go_simp
    refine R3.pgo_op _ rfl rfl (fun K wv hw hu hK=>?_) ?_
    ·have tok:=True.intro;have h2:us 2 = .slice Ai l.length ci:=hu.1;have hbl:=lq (by kernel_rfl) hw;have hsz:gp≤wv.heap.size:=Nat.le_trans (Nat.le_of_lt hgr) hw.size;refine yI (f:=72) (args:=#[.slice Ai l.length ci]) ?_ ((de Ai ci l wv ((HCi.out.drew.below hbl).more hbl.size) hll HLN.out).mono ?_)
     ·clear hK hw hu;go_simp
     rintro e w' ⟨v,rfl,hb,ho⟩;obtain ⟨A',c',rfl⟩:=jv ho;exact ⟨_,rfl,hK _ _ (Evo.of_below hb) ⟨_,_,rfl,qh ho hsz⟩⟩
    refine R3.pgo_op _ rfl rfl (fun K wv hw hu hK=>?_) ?_
    ·have tok:=True.intro;obtain ⟨A3,c3,h3,ho3⟩:=hu.1;have hsz:gp≤wv.heap.size:=Nat.le_trans (Nat.le_of_lt hgr) hw.size;have hfin:=hK (.slice (some ⟨wv.heap.size,0,none⟩) 1 1) (wv.alloc (.cells #[us 3] 25)) (Evo.of_below ((Below.refl _ _).alloc (Nat.le_refl _) _)) ⟨_,rfl,hsz,Blk.new _ _ _,by rw [h3];rfl⟩;refine xu (v:=.slice (some ⟨wv.heap.size,0,none⟩) 1 1) (w':=wv.alloc (.cells #[us 3] 25)) ?_ hfin;rw [h3];clear hw hu hK hfin ho3;go_simp
    refine R3.pgo_op _ rfl rfl (fun K wv hw hu hK=>?_) ?_
    ·have tok:=True.intro;have h1:us 1 = .slice Av i cv:=hu.1;obtain ⟨A3,c3,h3,ho3⟩:=hu.2.1;obtain ⟨g5,h4,hg5,hb5,_⟩:=hu.2.2.1;have hF:qo wv gp (.slice Av i cv) ((rs.take i).map yM):=HOWN.out.evoD hw (by kernel_rfl);obtain ⟨sl,how,h2⟩:=hF;have hsv:gp≤wv.heap.size:=Nat.le_trans (Nat.le_of_lt hgr) hw.size;rw [h3] at hb5 ho3;have how2:wv.ownsRow gp 25 1 (.slice Av i cv) i sl:=by rw [HFL.out] at how;exact how
     refine zE mD _ _ rfl (by repeat (first | (with_reducible exact (qg _ _ _ (by simp [qF])).trans h1) | (with_reducible refine yk _ _ _ _ _ (by decide) ?_))) how2 (by repeat (first | (with_reducible exact (qg _ _ _ (by simp [qF])).trans h4) | (with_reducible refine yk _ _ _ _ _ (by decide) ?_))) (jr.blk' (xs:=[.slice A3 (yM l).length c3]) hb5) rfl rfl (by omega) (by omega) hsv fun v' w' ho' hgr' hd=>?_;refine hK _ _ (Evo.of_grown how hgr' (by simp) (Nat.le_refl _)) ⟨jv ho',qo.push how h2 ho3 hgr' (by rw [HFL.out];exact ho')⟩
    refine R3.pgo_pure _ rfl rfl (fun wv hw hu=>⟨.pointer (some ⟨gp,1,none⟩),?_,rfl⟩) ?_
    ·have tok:=True.intro;clear hw hu;go_simp
    refine R3.pgo_skip _ rfl rfl (fun wv hw hu=>?_) ?_
    ·have tok:=True.intro;have h6:us 6 = .pointer (some ⟨gp,1,none⟩):=hu.2.1;obtain ⟨⟨A5,c5,h5⟩,_⟩:(∃A c,us 5 = .slice A (i+1) c)∧_:=hu.1;have hbv:=HQ.out.drew.evo hw (.inr (of_decide_eq_true (by kernel_rfl)));have fy:=hbv.frozen 1;have zy:wv.cell? ⟨gp,1,none⟩=some (.slice Av i cv):=hbv.cell 1;refine ⟨wv.setCell ⟨gp,1,none⟩ (us 5),?_,Evo.set_ hbv (by simp) (Nat.le_refl _) 1 _,(show Blk (wv.setCell ⟨gp,1,none⟩ (us 5)) gp 28 #[.slice none 0 0,us 5] from by simpa using hbv.set_ 1 (us 5))⟩;rw [h5];clear hw hu hbv;go_simp
    trivial
   ·intro us w9 hw hu;obtain ⟨⟨A5',c5',h5⟩,hF5⟩:(∃A c,us 5 = .slice A (i+1) c)∧qo w9 gp (us 5) ((rs.take i).map yM++[yM l]):=hu.1;have hB9:Blk w9 gp 28 #[.slice none 0 0,us 5]:=hu.2.1;rw [h5,←HT.out] at hF5;rw [h5] at hB9;have HX:=Lib.hid (And.intro (HBr.out.trans ((vG (hw.below (Nat.le_of_lt hgr))).mono (Nat.le_refl _))) (And.intro (Nat.lt_of_lt_of_le hgr (show wr.heap.size≤w9.heap.size from hw.size)) (And.intro hB9 hF5)));clear hw hu hF5 hB9 e0;simp only [kx];go_simp;go_wp2_with fail
    go_roundg (rs.length-(i+1))
    case measure=>rw [Hk.out];omega
    case rel=>exact ⟨i+1,by go_num,by omega,rfl,HX.out.1,HX.out.2.1,_,HX.out.2.2.1,HX.out.2.2.2⟩
  ·have hie:i=rs.length:=by omega
   have hlt':¬(i:Int)<rs.length:=by omega
   have hF0:qo wr gp (.slice Av rs.length cv) (rs.map yM):=by
    have h1:=HOWN.out;rw [hie,List.take_length] at h1;exact h1
   obtain ⟨gU,rfl,hgU⟩:∃gU,Av=some ⟨gU,0,none⟩∧gp≤gU:=by
    obtain ⟨sl0,how0,_⟩:=hF0;obtain ⟨gU,_,_,e0,hgU,_⟩:=xO how0 (by rw [List.length_map,HRL.out];omega);injection e0 with e0 _ _;exact ⟨gU,e0,hgU⟩
   have HF:=Lib.hid (show qo wr gp (.slice (some ⟨gU,0,none⟩) rs.length cv) (rs.map yM) by
    have h1:=HOWN.out;rw [hie,List.take_length] at h1
    exact h1)
   have HQL:=Lib.hid (show Blk wr gp 28 #[.slice none 0 0,.slice (some ⟨gU,0,none⟩) rs.length cv] by have h1:=HQ.out;rw [hie] at h1;exact h1);have HGU:=Lib.hid hgU;obtain ⟨wL,rfl⟩:∃x,x=wr:=⟨_,rfl⟩;have hsl:s<rs.length:=by rw [HRL.out];exact hsN
   have hsl':(s:Int)<rs.length:=by omega
   obtain ⟨b2,o2,rfl,hb2,hc2⟩:=(HRR.out wL HBr.out) (by omega);obtain ⟨As,cs,e0,hCs,hcs⟩:=hc2 s hsl;have HCs:=Lib.hid (hCs.more (Nat.le_of_lt hgr));have hll:=HR2.out _ (List.getElem_mem hsl);have HLN:=Lib.hid (HRL2.out _ (List.getElem_mem hsl));have HSR:=Lib.hid (show rs.getD s []=rs[s] by rw [List.getD_eq_getElem?_getD,List.getElem?_eq_getElem hsl];rfl);clear hc2 hCs hF0 hgU HQ HOWN hie hi hlt;generalize rs[s]=lS at *;go_wp2_with fail;refine (dn As cs lS wL HCs.out hll HLN.out).mono ?_;rintro e w8 ⟨v8,rfl,hb8,ho8⟩;have HB8:=Lib.hid hb8;have HO8:=Lib.hid ho8;obtain ⟨fi,hfi⟩:∃fi,fi=uU lS:=⟨_,rfl⟩;have HFI:=Lib.hid hfi;rw [←hfi] at HO8;have hfl:fi.length≤1000:=by rw [hfi,VU];exact hll
   obtain ⟨Af,cf,rfl⟩:∃A c,v8 = .slice A fi.length c:=by rw [hfi];exact jv ho8
   clear hb8 ho8 hfi e0
   go_upto_region 14 with fail
   obtain ⟨M,hM⟩:∃M:Nat,M=max fi.length 1:=⟨_,rfl⟩;have hMx:max (fi.length:Int) 1=(M:Int):=by omega
   have HM:=Lib.hid (show ∀k:Nat,k<M↔k<fi.length∨k=0 from fun k=>by omega);have hM2:M≤1001:=by omega
   have hgp8:gp<w8.heap.size:=Nat.lt_of_lt_of_le hgr HB8.out.size;have HF8:=Lib.hid (HF.out.below HB8.out (Nat.le_refl _));have HQ8:=Lib.hid (HQL.out.below HB8.out hgr)
   have HKW:=Lib.hid (show ∀wr,Evo gp [28,25] w8 wr→wr.cell? ⟨gG,0,none⟩=some (.int .i64 N)∧wr.cell? ⟨gG,1,none⟩=some (.slice A es.length cap)∧jr wr wr.heap.size A (jA es)∧vn wr wr.heap.size (some ⟨b2,o2,none⟩) rs∧Blk wr (gG+1) 28 #[.slice none 0 0,.slice none 0 0]∧Below w.heap.size w wr from fun wr he=>by
    have h1:Below gp w6 wr:=(HBr.out.trans (HB8.out.mono (Nat.le_of_lt hgr))).trans (he.below (Nat.le_of_lt hgp8));rw [HGP.out] at h1
    exact HK.out wr (HB6.out.trans (h1.mono HB6.out.size)))
   have HSL:=Lib.hid (show ∀X,((rs.map yM).set s X).length=rs.length from fun X=>by simp);have HKO:=Lib.hid (show ∀k,zO N es (outsK rs s k) from fun k=>lY HGD.out HR.out HBI.out hsN HSU.out HS0.out k);have HKE:=Lib.hid (show ∀k,(rs.map yM).set s (rot fi k)=outsK rs s k from fun k=>by unfold outsK;rw [HSR.out,HFI.out]);have HKL:=Lib.hid (show ∀k,(outsK rs s k).length=N from fun k=>by rw [xA,HRL.out])
   have HSF:=Lib.hid (show (rs.map yM).set s ((rs.map yM).getD s [])=rs.map yM by
    rw [List.getD_eq_getElem?_getD,List.getElem?_eq_getElem (by rw [List.length_map];exact hsl)]
    exact List.set_getElem_self _)
   rw [hMx];clear hM hMx
   go_loopg [60] M (fun kk s60 wr=>∃k:Nat,s60 = .int .i64 k∧k≤M∧kk=M-k∧Evo gp [28,25] w8 wr∧gp<wr.heap.size∧(∃oA on oc X,Blk wr gp 28 #[.slice oA on oc,.slice (some ⟨gU,0,none⟩) rs.length cv]∧qo wr gp (.slice (some ⟨gU,0,none⟩) rs.length cv) ((rs.map yM).set s X)) ∧ ∀k',k'<k→Ye N es rs s k')
   case atStart=>exact ⟨0,rfl,Nat.zero_le _,rfl,Evo.refl _ _ _,hgp8,⟨none,0,0,_,HQ8.out,by rw [HSF.out];exact HF8.out⟩,fun k' h=>absurd h (Nat.not_lt_zero _)⟩
   case round=>
    obtain ⟨k,rfl,hkM,hkk,hev,hgpr,⟨oA,on,oc,X,hq,hfo⟩,hnp⟩:=hrel;have Hkk:=Lib.hid hkk;have HEV:=Lib.hid hev;have HQ:=Lib.hid hq;have HFO:=Lib.hid hfo;have HNP:=Lib.hid hnp;clear hkk hev hq hfo hnp;by_cases hlt:k<M
    ·have hlt2:(k:Int)<M:=by omega
     have hkf:k≤fi.length:=by rcases (HM.out k).1 hlt with h | h<;>omega
     have HO8r:=Lib.hid (show wr.ownsRow wL.heap.size 3 1 (.slice Af fi.length cf) fi.length (jf fi) from qA HO8.out HEV.out (by decide))
     go_upto_region 16 with fail
     refine R3.wp_region_i gp [[],[25]] [0,0,0,0,0,0,0,0,0,0,0,0,1]
      [([],.val (.pointer (some ⟨gp,1,none⟩))),([0],.val (.slice (some ⟨gU,0,none⟩) rs.length cv)),([],.val (.int .i64 (s:Nat))),([],.val (.slice Af fi.length cf)),([],.val (.int .i64 (k:Nat))),([3,4],rz (fi.length-k) (jf (fi.drop k)) gp wr),([],.val (.slice Af fi.length cf)),([],.val (.int .i64 (k:Nat))),([6,7],rz k (jf (fi.take k)) gp wr),([5,8],rk 5 8 25),([5,8,9],.own 3 1 fi.length (jf (rot fi k))),([1,2],.val (.pointer (some ⟨gU,s,none⟩))),([10,11],oq (.slice (some ⟨gU,0,none⟩) rs.length cv) ((rs.map yM).set s (rot fi k)))] [12] (by kernel_rfl) (by kernel_rfl) (fun us=>?_) ?_
     ·refine R3.pgo_pure _ rfl rfl (fun wv hw hu=>⟨.pointer (some ⟨gp,1,none⟩),?_,rfl⟩) ?_
      ·have tok:=True.intro;clear hw hu;go_simp
      refine R3.pgo_pure _ rfl rfl (fun wv hw hu=>⟨.slice (some ⟨gU,0,none⟩) rs.length cv,?_,rfl⟩) ?_
      ·have tok:=True.intro;have h0:us 0 = .pointer (some ⟨gp,1,none⟩):=hu.1;have zy:wv.cell? ⟨gp,1,none⟩=some (.slice (some ⟨gU,0,none⟩) rs.length cv):=(HQ.out.drew.evo hw (.inr (of_decide_eq_true (by kernel_rfl)))).cell 1;clear hw hu;go_simp
      refine R3.pgo_pure _ rfl rfl (fun wv hw hu=>⟨.int .i64 (s:Nat),?_,rfl⟩) ?_
      ·have tok:=True.intro;clear hw hu;go_simp
      refine R3.pgo_pure _ rfl rfl (fun wv hw hu=>⟨.slice Af fi.length cf,?_,rfl⟩) ?_
      ·have tok:=True.intro;clear hw hu;go_simp
      refine R3.pgo_pure _ rfl rfl (fun wv hw hu=>⟨.int .i64 (k:Nat),?_,rfl⟩) ?_
      ·have tok:=True.intro;clear hw hu;go_simp
      refine R3.pgo_val _ rfl rfl (fun wv hw hu=>?_) ?_
      ·have tok:=True.intro;have h3:us 3 = .slice Af fi.length cf:=hu.1;have h4:us 4 = .int .i64 (k:Nat):=hu.2.1;have h3:us 3 = .slice Af fi.length cf:=hu.1;have h4:us 4 = .int .i64 (k:Nat):=hu.2.1;have hki:(k:Int)≤fi.length:=by omega
       have hk0:(0:Int)≤k:=by omega
       rcases HO8r.out.2 with ⟨e,e0⟩ | ⟨gf,cap',cur,e,hgf,hbf,hrest⟩
       ·injection e with e1 e2 e3;have hk00:k=0:=by omega
        subst e1 e3 hk00;refine ⟨.slice none fi.length 0,wv,?_,Evo.refl _ _ _,none,0,by simp,fun wz hz=>jr.of_own (qA HO8r.out hz (by decide))⟩;rw [e2] at h3;rw [e2];clear hw hu;go_simp
       ·injection e with e1 _ e3;subst e1 e3;have hcf:fi.length≤cf:=hrest.1;have hkc:(k:Int)≤cf:=by omega
        have hkf':¬(fi.length:Int)<k:=by omega
        refine ⟨.slice (if cf=k then some ⟨gf,0,none⟩ else some ⟨gf,0+k,none⟩) (fi.length-k) (cf-k),wv,?_,Evo.refl _ _ _,_,_,rfl,fun wz hz=>(Wj k cf hcf (jr.of_own (qA HO8r.out hz (by decide))))⟩;clear hw hu hbf hrest;go_simp
      refine R3.pgo_pure _ rfl rfl (fun wv hw hu=>⟨.slice Af fi.length cf,?_,rfl⟩) ?_
      ·have tok:=True.intro;clear hw hu;go_simp
      refine R3.pgo_pure _ rfl rfl (fun wv hw hu=>⟨.int .i64 (k:Nat),?_,rfl⟩) ?_
      ·have tok:=True.intro;clear hw hu;go_simp
      refine R3.pgo_val _ rfl rfl (fun wv hw hu=>?_) ?_
      ·have tok:=True.intro;have h6:us 6 = .slice Af fi.length cf:=hu.1;have h7:us 7 = .int .i64 (k:Nat):=hu.2.1;have h6:us 6 = .slice Af fi.length cf:=hu.1;have h7:us 7 = .int .i64 (k:Nat):=hu.2.1;have hki:(k:Int)≤fi.length:=by omega
       have hk0:(0:Int)≤k:=by omega
       rcases HO8r.out.2 with ⟨e,e0⟩ | ⟨gf,cap',cur,e,hgf,hbf,hrest⟩
       ·injection e with e1 e2 e3;have hk00:k=0:=by omega
        subst e1 e3 hk00;refine ⟨.slice none 0 0,wv,?_,Evo.refl _ _ _,none,0,rfl,fun wz hz=>by rw [List.take_zero];exact jr.nil⟩;clear hw hu;go_simp
       ·injection e with e1 _ e3;subst e1 e3;have hcf:fi.length≤cf:=hrest.1;have hkc:(k:Int)≤cf:=by omega
        refine ⟨.slice (some ⟨gf,0,none⟩) k cf,wv,?_,Evo.refl _ _ _,_,_,rfl,fun wz hz=>(Wi k (jr.of_own (qA HO8r.out hz (by decide))))⟩;clear hw hu hbf hrest;go_simp
      refine R3.pgo_op _ rfl rfl (fun K wv hw hu hK=>?_) ?_
      ·have tok:=True.intro;obtain ⟨A5',c5',h5,_⟩:=hu.1;obtain ⟨A8',c8',h8,_⟩:=hu.2.1;have hsz:gp≤wv.heap.size:=Nat.le_trans (Nat.le_of_lt hgpr) hw.size;have hfin:=hK (.slice (some ⟨wv.heap.size,0,none⟩) 2 2) (wv.alloc (.cells #[us 5,us 8] 25)) (Evo.of_below ((Below.refl _ _).alloc (Nat.le_refl _) _)) ⟨_,rfl,hsz,Blk.new _ _ _⟩;refine xu (v:=.slice (some ⟨wv.heap.size,0,none⟩) 2 2) (w':=wv.alloc (.cells #[us 5,us 8] 25)) ?_ hfin;rw [h5,h8];clear hw hu hK hfin;go_simp
      refine R3.pgo_op _ rfl rfl (fun K wv hw hu hK=>?_) ?_
      ·have tok:=True.intro;obtain ⟨A5',c5',h5,hcl5⟩:=hu.1;obtain ⟨A8',c8',h8,hcl8⟩:=hu.2.1;obtain ⟨q,h9,hq9,hb9⟩:=hu.2.2.1;have hsz:gp≤wv.heap.size:=Nat.le_trans (Nat.le_of_lt hgpr) hw.size;have hevo:Evo gp [28,25] wr wv:=(Evo.of_below ((Below.refl wr.heap.size wr).drew)).trans (Evo.of_below (lq (by kernel_rfl) hw));rw [h5,h8] at hb9;refine yI (f:=74) (args:=#[.slice (some ⟨q,0,none⟩) 2 2]) ?_ ((aD fi k hkf wv q A5' A8' c5' c8' hb9 (hcl5 wv hevo) (hcl8 wv hevo) (by omega)).mono ?_)
       ·clear hK hw hu hevo hcl5 hcl8 hb9;go_simp
       rintro e w' ⟨A',c',rfl,hb,ho⟩;exact ⟨_,rfl,hK _ _ (Evo.of_below hb) ⟨_,_,rfl,qh ho hsz⟩⟩
      refine R3.pgo_pure _ rfl rfl (fun wv hw hu=>⟨.pointer (some ⟨gU,s,none⟩),?_,rfl⟩) ?_
      ·have tok:=True.intro;have h1:us 1 = .slice (some ⟨gU,0,none⟩) rs.length cv:=hu.1;have h2:us 2 = .int .i64 (s:Nat):=hu.2.1;clear hw hu;go_simp
      refine R3.pgo_skip _ rfl rfl (fun wv hw hu=>?_) ?_
      ·have tok:=True.intro;have h11:us 11 = .pointer (some ⟨gU,s,none⟩):=hu.2.1;obtain ⟨A',c',h10,ho10⟩:=hu.1;have h11:us 11 = .pointer (some ⟨gU,s,none⟩):=hu.2.1;rw [h10] at ho10;have hF:qo wv gp (.slice (some ⟨gU,0,none⟩) ((rs.map yM).set s X).length cv) ((rs.map yM).set s X):=by rw [HSL.out];exact HFO.out.evoD hw (by kernel_rfl)
       obtain ⟨hF',hE',⟨u0,zc⟩,fz⟩:=qo.set_ (x:=s) (A:=A') (c:=c') (f:=rot fi k) hF (by rw [HSL.out];exact hsl) (by rw [qM];exact ho10);rw [HSL.out,List.set_set,qM] at hF';rw [qM] at hE';refine ⟨wv.setCell ⟨gU,s,none⟩ (us 10),?_,by rw [h10];exact hE',by rw [h10];exact hF'⟩;rw [h10];clear hw hu hF hF' hE' ho10;go_simp
      trivial
     ·intro us w9 hw hu;have hF9:qo w9 gp (.slice (some ⟨gU,0,none⟩) rs.length cv) ((rs.map yM).set s (rot fi k)):=hu.1;have he9:=(Evo.of_below (B:=gp) (T:=[28,25]) (Below.refl wr.heap.size wr).drew).trans (hw.mono (T':=[28,25]) (by decide));have HQ9:=Lib.hid (show Blk w9 gp 28 #[.slice oA on oc,.slice (some ⟨gU,0,none⟩) rs.length cv] from HQ.out.drew.evo hw (.inr (by decide)));have HEV9:=Lib.hid (HEV.out.trans he9);have hgp9:gp<w9.heap.size:=Nat.lt_of_lt_of_le hgpr he9.size;rw [HKE.out] at hF9;have HF9:=Lib.hid hF9;clear hw hu hF9 he9;simp only [kx];go_simp;have HRC9:=Lib.hid (show ∃A' c',(.slice (some ⟨gU,0,none⟩) rs.length cv:Value) = .slice A' (outsK rs s k).length c'∧vn w9 w9.heap.size A' (outsK rs s k) from HF9.out.rowsC)
      have hrc9:vn w9 w9.heap.size (some ⟨gU,0,none⟩) (outsK rs s k):=by
       obtain ⟨A',c',e,h⟩:=HRC9.out;injection e with e1 _ _;rw [e1];exact h
      obtain ⟨g0,g1,hE9,_⟩:=HKW.out w9 HEV9.out;have q0:=HQ9.out.cell 0;have q1:=HQ9.out.cell 1;simp only [List.getElem?_toArray,List.getElem?_cons_zero,List.getElem?_cons_succ] at q0 q1;have hord:=dh N A (some ⟨gU,0,none⟩) cap cv es (outsK rs s k) w9 hE9 hcap hrc9.at_ HGD.out (HKO.out k) (HKL.out k);rw [xA] at hord;have HORD:=Lib.hid hord;clear hE9 hrc9 hord;go_wp2_with fail;refine HORD.out.mono ?_;rintro e w10 ⟨l,A10,c10,rfl,hb10,ho10,hgr10⟩;have HO10:=Lib.hid ho10;have HGR:=Lib.hid hgr10;have HB10:=Lib.hid hb10;have HEV10:=Lib.hid (HEV9.out.trans (Evo.of_below hb10));have HQ10:=Lib.hid (HQ9.out.below hb10 HQ9.out.lt);have HF10:=Lib.hid (HF9.out.below hb10 (Nat.le_refl _));have hgp10:gp<w10.heap.size:=Nat.lt_of_lt_of_le hgp9 hb10.size;have hlt3:k+1≤M:=hlt;clear hb10 ho10 hgr10 g0 g1 q0 q1;by_cases hlN:l.length=N
      case neg=>
       have HNK:=Lib.hid (show ∀k',k'<k+1→Ye N es rs s k' from fun k' h=>by
        by_cases e:k'=k
        ·rw [e];obtain ⟨r2,en2,h1,h2,h3⟩:=HGR.out;exact WP h1 h2 h3 hlN
        ·exact HNP.out k' (by omega))
       rw [decide_eq_false hlN];clear hlN;rw [←HKE.out k] at HF10;go_wp2_with fail
       go_roundg (M-(k+1))
       case measure=>rw [Hkk.out];omega
       case rel=>exact ⟨k+1,by go_num,hlt3,rfl,HEV10.out,hgp10,⟨_,_,_,_,HQ10.out,HF10.out⟩,HNK.out⟩
      case pos=>
       rw [decide_eq_true hlN];have HLN2:=Lib.hid hlN;clear hlN;have q0:=HQ10.out.cell 0;have q1:=HQ10.out.cell 1;have f0:=HQ10.out.frozen 0;simp only [List.getElem?_toArray,List.getElem?_cons_zero,List.getElem?_cons_succ] at q0 q1
       go_upto_region 20 with fail
       obtain ⟨w11,hw11⟩:∃x,x=w10.setCell ⟨gp,0,none⟩ (.slice A10 l.length c10):=⟨_,rfl⟩;have hE11:Evo gp [28] w10 w11:=by rw [hw11];exact Evo.set_ HQ10.out (List.mem_singleton.2 rfl) (Nat.le_refl _) 0 _
       have HQ11:=Lib.hid (show Blk w11 gp 28 #[.slice A10 l.length c10,.slice (some ⟨gU,0,none⟩) rs.length cv] by rw [hw11];simpa using HQ10.out.set_ 0 (.slice A10 l.length c10));have HEV11:=Lib.hid (HEV10.out.trans (hE11.mono (T':=[28,25]) (by decide)));have HF11:=Lib.hid (HF10.out.evo hE11 (by decide) (by decide));have HO11:=Lib.hid (qA HO10.out hE11 (by decide));have hgp11:gp<w11.heap.size:=Nat.lt_of_lt_of_le hgp10 hE11.size;rw [←hw11];clear hw11 hE11 q0 q1 f0;obtain ⟨g0,g1,hE',hRR',_⟩:=HKW.out w11 HEV11.out;have q0:=HQ11.out.cell 0;have q1:=HQ11.out.cell 1;simp only [List.getElem?_toArray,List.getElem?_cons_zero,List.getElem?_cons_succ] at q0 q1
       have hrc11:vn w11 w11.heap.size (some ⟨gU,0,none⟩) (outsK rs s k):=by
        obtain ⟨A',c',e,h⟩:=HF11.out.rowsC;injection e with e1 _ _;rw [e1];exact h
       have hol:∀l∈outsK rs s k,l.length≤1000:=fun l hl=>by
        obtain ⟨x,hx,rfl⟩:=List.getElem_of_mem hl;have h1:=(HKO.out k x (by rw [←HKL.out k];exact hx)).length_eq;rw [List.getD_eq_getElem?_getD,List.getElem?_eq_getElem hx,Option.getD_some] at h1;have:=qd es Prod.fst (x:Nat) es.length;omega
       have htn:=KD N A A10 (some ⟨gU,0,none⟩) cap c10 cv es (yd l) (outsK rs s k) w11 hE' hcap (by exact jr.of_own HO11.out) hrc11.at_ (by omega) hol;rw [xA,uG] at htn;have HTN:=Lib.hid htn;clear hE' hRR' hrc11 hol htn;go_wp2_with fail;refine HTN.out.mono ?_;rintro e w12 ⟨hb12,hc12⟩;rw [Int.toNat_natCast] at hc12;have HEV12:=Lib.hid (HEV11.out.trans (Evo.of_below hb12));have HQ12:=Lib.hid (HQ11.out.below hb12 HQ11.out.lt);have HF12:=Lib.hid (HF11.out.below hb12 (Nat.le_refl _));have HO12:=Lib.hid (jT HO11.out hb12 (Nat.le_refl _));have hgp12:gp<w12.heap.size:=Nat.lt_of_lt_of_le hgp11 hb12.size;clear hb12 g0 g1 q0 q1;rcases hc12 with ⟨en,C12,c12,_,hrun,rfl,hrw⟩ | ⟨hno,rfl⟩
       case inr=>
        have HNK:=Lib.hid (show ∀k',k'<k+1→Ye N es rs s k' from fun k' h=>by
         by_cases e:k'=k
         ·rw [e];obtain ⟨r2,en2,h1,h2,h3⟩:=HGR.out;exact WO h1 h2 h3 (fun h=>hno ⟨HGD.out,h⟩)
         ·exact HNP.out k' (by omega))
        clear hno;rw [←HKE.out k] at HF12;go_wp2_with fail
        go_roundg (M-(k+1))
        case measure=>rw [Hkk.out];omega
        case rel=>exact ⟨k+1,by go_num,hlt3,rfl,HEV12.out,hgp12,⟨_,_,_,_,HQ12.out,HF12.out⟩,HNK.out⟩
       case inl=>
        obtain ⟨pl,rF,s',hPl⟩:=Zy HGD.out hrun;have hwr:=hPl.wrapped;have hrt:=VQ hPl.right;rw [hwr] at hrw;have HRUN:=Lib.hid hrun;obtain ⟨mt,hmt⟩:∃mt,mt=jS N (outsK rs s k) en:=⟨_,rfl⟩;rw [←hmt] at hrw hrt;have HMT:=Lib.hid hmt;have HMTL:=Lib.hid (show mt.length=N by rw [hmt,qB]);obtain ⟨_,_,_,hRR',hPR',_⟩:=HKW.out w12 HEV12.out;have hsm:=fV C12 (some ⟨b2,o2,none⟩) c12 cc mt rs w12 hrw hRR' (by rw [HMTL.out];omega) hr1 (fun l hl=>by have:=hrt l hl;omega) (fun _=>HR2.out);rw [HMTL.out] at hsm;have HSM:=Lib.hid hsm;clear hPl hwr hrt hrw hrun hmt hRR' hPR' hsm;obtain ⟨sb,hsb⟩:∃sb,sb=xo mt rs:=⟨_,rfl⟩;rw [←hsb] at HSM;have HSB:=Lib.hid hsb;clear hsb
        cases sb with
        | false=>
         go_wp2_with fail;refine HSM.out.mono ?_;rintro e w13 ⟨rfl,hb13⟩
         have HNK:=Lib.hid (show ∀k',k'<k+1→Ye N es rs s k' from fun k' h=>by
          by_cases e:k'=k
          ·rw [e];obtain ⟨r2,en2,h1,h2,h3⟩:=HGR.out;exact WQ h1 h2 h3 HRUN.out (by rw [←HMT.out];exact HSB.out.symm)
          ·exact HNP.out k' (by omega))
         have HEV13:=Lib.hid (HEV12.out.trans (Evo.of_below hb13));have HQ13:=Lib.hid (HQ12.out.below hb13 HQ12.out.lt);have HF13:=Lib.hid (HF12.out.below hb13 (Nat.le_refl _));have hgp13:gp<w13.heap.size:=Nat.lt_of_lt_of_le hgp12 hb13.size;clear hb13;rw [←HKE.out k] at HF13;go_wp2_with fail
         go_roundg (M-(k+1))
         case measure=>rw [Hkk.out];omega
         case rel=>exact ⟨k+1,by go_num,hlt3,rfl,HEV13.out,hgp13,⟨_,_,_,_,HQ13.out,HF13.out⟩,HNK.out⟩
        | true=>
         go_wp2_with fail;refine HSM.out.mono ?_;rintro e w13 ⟨rfl,hb13⟩;have HEV13:=Lib.hid (HEV12.out.trans (Evo.of_below hb13));have HQ13:=Lib.hid (HQ12.out.below hb13 HQ12.out.lt);have HF13:=Lib.hid (HF12.out.below hb13 (Nat.le_refl _));have HO13:=Lib.hid (jT HO12.out hb13 (Nat.le_refl _));obtain ⟨_,_,_,_,hPR,hW13⟩:=HKW.out w13 HEV13.out;have HPR:=Lib.hid hPR;have HW13:=Lib.hid hW13;have q0:=HQ13.out.cell 0;have q1:=HQ13.out.cell 1;have r0:=hPR.cell 0;have r1:=hPR.cell 1;have f0:=hPR.frozen 0;have f1:=hPR.frozen 1;simp only [List.getElem?_toArray,List.getElem?_cons_zero,List.getElem?_cons_succ] at q0 q1 r0 r1;clear hb13 hPR hW13;go_wp2_with fail;refine bodyPost_ret (xC rfl rfl (QF HPR.out (.slice A10 l.length c10) (.slice (some ⟨gU,0,none⟩) rs.length cv)) rfl) (by rfl) ?_;have hE:=lT (B:=0) HPR.out (Nat.zero_le _) (.slice A10 l.length c10) (.slice (some ⟨gU,0,none⟩) rs.length cv);refine ⟨ue HW13.out (by have:=HGG.out;omega) _ _,.inr (.inr ⟨yd l,outsK rs s k,en,A10,c10,some ⟨gU,0,none⟩,cv,HGD.out,HR.out,by rw [Int.toNat_natCast];exact HRUN.out,by rw [Int.toNat_natCast,←HMT.out];exact HSB.out.symm,by rw [uG,xA];rfl,jr.of_own (qA HO13.out hE (by decide)),?_⟩)⟩;obtain ⟨A',c',e,h⟩:=(HF13.out.evo hE (by decide) (by decide)).rowsC;injection e with e1 _ _;have h2:=h.at_;rw [←e1] at h2;exact h2
    ·have hkm:k=M:=by omega
     have hlt2:¬(k:Int)<M:=by omega
     have HNB:=Lib.hid (show GK N es rs from .inr fun s' h1 h2 k' h3=>by
      have e:=HSU.out s' h1 h2;rw [e] at h3 ⊢;refine HNP.out k' ?_;rw [hkm];refine (HM.out k').2 ?_;rw [HSR.out,←HFI.out] at h3
      exact h3)
     obtain ⟨_,_,_,_,hPR,hW13⟩:=HKW.out wr HEV.out;have HPR:=Lib.hid hPR;have HW13:=Lib.hid hW13;have r0:=hPR.cell 0;have r1:=hPR.cell 1;have f0:=hPR.frozen 0;have f1:=hPR.frozen 1;simp only [List.getElem?_toArray,List.getElem?_cons_zero,List.getElem?_cons_succ] at r0 r1;clear hPR hW13 hkm;go_wp2_with fail;refine bodyPost_ret (xC rfl rfl (QF HPR.out (.slice none 0 0) (.slice none 0 0)) rfl) (by rfl) ?_;exact ⟨ue HW13.out (by have:=HGG.out;omega) _ _,.inr (.inl ⟨HGD.out,HR.out,by rw [Int.toNat_natCast];exact HNB.out,rfl⟩)⟩
end Go.Proofs.YtneeknlhlkpnpaaGreat
