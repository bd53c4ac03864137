import Derived.Test.YtneeknlhlkpnpaaGreatZFrm
import Derived.Test.YtneeknlhlkpnpaaGreatZEul
import Derived.Test.YtneeknlhlkpnpaaGreatZAng1
import Derived.Test.YtneeknlhlkpnpaaGreatZPts1
import Derived.Test.YtneeknlhlkpnpaaGreatZWeb
/-
 Faces as orbits of half edges; a face's room. Written by an AI agent.
-/
namespace Go.Proofs.YtneeknlhlkpnpaaGreat
open Go.RowKit
section
variable {n:Int}{es:List (Int×Int)}{rs:List (List Int)}
theorem dT(hR:RightP n es rs){f:Nat}(hf:f<(jo n es rs).length):∃c,c<2*es.length ∧ ∀x:Nat,(x:Int)∈(jo n es rs).getD f []↔Orb (nxf es rs) c x:=by
 rw [vO hR] at hf ⊢;obtain ⟨c,hc,_,e,_⟩:=Yb (nxf es rs) (2*es.length) hf;refine ⟨c,hc,fun x=>?_⟩;rw [e];exact KA (vG hR) hc x
theorem UU(hR:RightP n es rs){h k:Nat}(hh:h<2*es.length)(hk:k<2*es.length):jT n es rs h=jT n es rs k↔Orb (nxf es rs) (ot h) (ot k):=by
 obtain ⟨hf,hm⟩:=yh hR hh;obtain ⟨c,hc,hrow⟩:=dT hR hf;have h1:=(hrow _).1 hm;have hP:=vG hR;constructor
 ·intro e;have h2:=(yh hR hk).2;rw [←e] at h2;exact (h1.symm hP hc).trans ((hrow _).1 h2)
 ·intro o;exact ((eC hR hk hf).2 ((hrow _).2 (h1.trans o))).symm
theorem mI(hR:RightP n es rs){f:Nat}(hf:f<(jo n es rs).length):∃h,h<2*es.length∧jT n es rs h=f:=by
 obtain ⟨c,hc,hrow⟩:=dT hR hf;refine ⟨ot c,vA hc,(eC hR (vA hc) hf).2 ?_⟩;rw [kI];exact (hrow _).2 (Orb.refl _ _)
end
section
variable {Fc Kd:Nat→Nat}
theorem Qd{F f0 k f:Nat}(hf:f<F):(eJ Fc Kd F f0 k).getD f 0=(if f=f0 then (1:Int) else -1)+(((List.range k).countP fun h=>decide (Kd h=2)&&decide (Fc h=f):Nat):Int):=by
 unfold eJ;rw [List.getD_eq_getElem?_getD,List.getElem?_map,List.getElem?_range hf];rfl
end
end Go.Proofs.YtneeknlhlkpnpaaGreat
/-
 forest.Parts: the High angles joined. (Printed by partsgen.py.) Written by an AI agent.
-/
namespace Go.Proofs.YtneeknlhlkpnpaaGreat
open Go.RowKit Go.Maps
theorem xA.drew{w:World}{gw g len cap F:Nat}{R:Array Value}{ro:Nat→Nat}(h:xA w gw g len cap F R ro):xA w.drew gw g len cap F R ro:=by
 obtain ⟨l,h⟩:=h;exact ⟨l,h.b.drew,h.c.drew,h.ll,h.web,h.root,h.ne⟩
def R5.BFact.web{Ss:List (List Nat)}(d gw gl len cap F:Nat)(R:Array Value)(ro:Nat→Nat)(h1:∀c,c≠d→gw∉Ss.getD c [])(h2:∀c,c≠d→gl∉Ss.getD c []):R5.BFact Ss:=⟨[d],fun _ w=>xA w gw gl len cap F R ro,
 fun c hc v w w' hb hB=>hB.but hb (h1 c fun e=>by subst e;simp at hc) (h2 c fun e=>by subst e;simp at hc)⟩
set_option maxRecDepth 100000 in
set_option maxHeartbeats 4000000 in
theorem sJ(gb gw gl lcap F N gh ch:Nat)(H:List zu)(ro:Nat→Nat)(hro:ro=roH F H)(R:Array Value)(w wc:World)(b:Bool)(hbt:b=true)(hW:xA wc gw gl (F+N) lcap F R id)(hH:jr wc wc.heap.size (some ⟨gh,0,none⟩) (jV H))(hG:wc.cell? ⟨gb,0,none⟩=some (.int .i64 N))(hlt:gl<wc.heap.size∧gw<wc.heap.size∧gh<wc.heap.size∧gb<wc.heap.size)(hne:gh≠gl∧gb≠gl∧gw≠gl)(hIn:InH F N H)(hlen:F+N≤1000)(hHl:H.length≤1000)(hB:Below w.heap.size w wc)(hBw:w.heap.size≤gl∧w.heap.size≤wc.heap.size)(u0 u1 u3 u6 u8 u9 u10 u11 u12 u13 u14 u15 u16 u17 u18 u19 u20 u21 u22 u23 u24 u25 u26 u27 u28 u29 u30 u31 u32 u33 u34 u35 u36 u37 u38 u39 u40 u41 u42 u43 u44 u45 u46 u47 u48 u49 u50 u51 u52 u53 u54 u55 u56 u57 u58 u59 u60 u61 u62 u63 u64 u65 u66 u67 u68 u69 u70 u71 u72 u73 u74 u75 u76 u77 u78 u79 u80 u81 u82 u83 u84 u85 u86 u87 u88 u89 u90 u91 u92 u93 u94 u95 u96 u97 u98 u99 u100 u101 u102 u103 u104 u105 u106 u107 u108 u109 u110 u111 u112 u113 u114 u115 u116 u117 u118 u119 u120 u121 u122 u123 u124 u125 u126 u127 u128 u129 u130 u131 u132 u133 u134 u135 u136 u137 u138 u139 u140 u141 u142 u143 u144 u145 u146 u147 u148 u149 u150 u151 u152 u153 u154 u155 u156 u157 u158 u159 u160 u161 u162 u163 u164 u165 u166:Value)(K:Act→World→Prop)(hK:∀a0 w0,Code.wp Tryz.prog (YR (vH 5 ((Tryz.f33.body).getD .skip))) (bodyPost Tryz.prog Tryz.f33 (vX b H ro F N w)) a0 w0→K a0 w0)(K4:Act→World→Prop)(hK4:∀a0 w0,Code.wp Tryz.prog (YR (uS (vH 5 ((Tryz.f33.body).getD .skip)))) (Exit.then K (bodyPost Tryz.prog Tryz.f33 (vX b H ro F N w))) a0 w0→K4 a0 w0):Code.wp Tryz.prog (uS (uS (vH 5 ((Tryz.f33.body).getD .skip)))) (Exit.then K4 (Exit.then K (bodyPost Tryz.prog Tryz.f33 (vX b H ro F N w)))) ⟨#[u0,u1,.pointer (some ⟨gb,0,none⟩),u3,.slice none 0 0,.pointer (some ⟨gw,0,none⟩),u6,.slice (some ⟨gh,0,none⟩) H.length ch,u8,u9,u10,u11,u12,u13,u14,u15,u16,u17,u18,u19,u20,u21,u22,u23,u24,u25,u26,u27,u28,u29,u30,u31,u32,u33,u34,u35,u36,u37,u38,u39,u40,u41,u42,u43,u44,u45,u46,u47,u48,u49,u50,u51,u52,u53,u54,u55,u56,u57,u58,u59,u60,u61,u62,u63,u64,u65,u66,u67,u68,u69,u70,u71,u72,u73,u74,u75,u76,u77,u78,u79,u80,u81,u82,u83,u84,u85,u86,u87,u88,u89,u90,u91,u92,u93,u94,u95,u96,u97,u98,u99,u100,u101,u102,u103,u104,u105,u106,u107,u108,u109,u110,u111,u112,u113,u114,u115,u116,u117,u118,u119,u120,u121,u122,u123,u124,u125,u126,u127,u128,u129,u130,u131,u132,u133,u134,u135,u136,u137,u138,u139,u140,u141,u142,u143,u144,u145,u146,u147,u148,u149,u150,u151,u152,u153,u154,u155,u156,u157,u158,u159,u160,u161,u162,u163,u164,u165,u166],[]⟩ wc:=by
 conv=>arg 2;whnf
 conv at hK=>intro a0 w0;arg 1;arg 2;whnf
 conv at hK4=>intro a0 w0;arg 1;arg 2;whnf
 have HRO:=Lib.hid hro;have HW:=Lib.hid hW;have HH:=Lib.hid hH;have HG:=Lib.hid hG;have HLT:=Lib.hid hlt;have HI:=Lib.hid hIn;have HB:=Lib.hid hB;have HBW:=Lib.hid hBw;have HBT:=Lib.hid hbt;have HNE:=Lib.hid hne;clear hro hne hW hH hG hlt hIn hB hBw hbt;go_wp2_with fail
 go_loopg [56] H.length (fun k s56 wr=>∃i:Nat,s56 = .int .i64 i∧i≤H.length∧k=H.length-i∧xA wr gw gl (F+N) lcap F R (roH F (H.take i))∧jr wr wr.heap.size (some ⟨gh,0,none⟩) (jV H)∧wr.cell? ⟨gb,0,none⟩=some (.int .i64 N)∧Below w.heap.size w wr∧wc.heap.size≤wr.heap.size)
 case atStart=>exact ⟨0,rfl,Nat.zero_le _,rfl,HW.out,HH.out,HG.out,HB.out,Nat.le_refl _⟩
 case round=>
  obtain ⟨i,rfl,hi,hk,hW1,hH1,hG1,hB1,hs1⟩:=hrel;have Hk:=Lib.hid hk;have HW1:=Lib.hid hW1;have HH1:=Lib.hid hH1;have HG1:=Lib.hid hG1;have HB1:=Lib.hid hB1;have HS1:=Lib.hid hs1;clear hk hW1 hH1 hG1 hB1 hs1;by_cases hlt:i<H.length
  ·have hlt':(i:Int)<H.length:=by omega
   obtain ⟨q0,q1,q2,q3⟩:=pA HH1.out hlt;have hqm:=HI.out _ (List.getElem_mem hlt);have HST:=Lib.hid (show roH F (H.take (i+1))=yU (roH F (H.take i)) H[i].2.2.1 (F+H[i].2.1) by rw [List.take_succ_eq_append_getElem hlt,Yc]);obtain ⟨f,hf⟩:∃f,f=H[i].2.2.1:=⟨_,rfl⟩;obtain ⟨x,hx⟩:∃x,x=H[i].2.1:=⟨_,rfl⟩;rw [←hf,←hx] at HST hqm;rw [←hf] at q2;rw [←hx] at q1;clear hf hx;have hfl:f<F+N:=by omega
   have hxl:F+x<F+N:=by omega
   have hxl':(F:Int)+(x:Int)≤1000:=by omega
   have HFX:=Lib.hid (show ((F:Int)+(x:Int))=((F+x:Nat):Int) by omega);generalize H[i].1=qa at q0;generalize H[i].2.2.2=qd at q3;obtain ⟨rp,hrp⟩:∃rp,rp=roH F (H.take i):=⟨_,rfl⟩;rw [←hrp] at HW1 HST;clear hrp;have hab:=(Below.refl wr.heap.size wr).alloc (Nat.le_refl _) (.cells #[.int .i64 (qa:Nat),.int .i64 (x:Nat),.int .i64 (f:Nat),.int .i64 (qd:Nat)] 47);have hba:=Blk.new wr 47 #[.int .i64 (qa:Nat),.int .i64 (x:Nat),.int .i64 (f:Nat),.int .i64 (qd:Nat)];have HAB:=Lib.hid hab;have HBA:=Lib.hid hba;clear hab hba;obtain ⟨gA,hgA⟩:∃gA,gA=wr.heap.size:=⟨_,rfl⟩
   go_upto_region 13 with fail
   generalize hw1:wr.alloc (.cells #[.int .i64 (qa:Nat),.int .i64 (x:Nat),.int .i64 (f:Nat),.int .i64 (qd:Nat)] 47)=w1 at *;clear hw1;have HW2:=Lib.hid (HW1.out.keep HAB.out (Nat.le_refl _));have HH2:=Lib.hid ((HH1.out.below HAB.out).more HAB.out.size);have HG2:=Lib.hid ((HAB.out.cell (p:=⟨gb,0,none⟩) (by have:=HLT.out;have:=HS1.out;show gb<wr.heap.size;omega)).trans HG1.out);have HB2:=Lib.hid (HB1.out.trans (HAB.out.mono HB1.out.size));have HS2:=Lib.hid (Nat.le_trans HS1.out HAB.out.size);rw [←hgA] at HBA;rw [←hgA];clear q0 q1 q2 q3 HW1 HH1 HG1 HB1 HS1 HAB hgA
   refine R5.wp_region_b [[],[gl]] [0,0,0,0,0,0,0,0,0,0,1]
    [([],.val (.pointer (some ⟨gw,0,none⟩))),([],.val (.pointer (some ⟨gA,2,none⟩))),([1],.val (.int .i64 (f:Nat))),([],.val (.pointer (some ⟨gw,0,none⟩))),([3],.val (.pointer (some ⟨gw,0,none⟩))),([4],.val (.pointer (some ⟨gw,1,none⟩))),([5],.val (.int .i64 F)),([],.val (.pointer (some ⟨gA,1,none⟩))),([7],.val (.int .i64 (x:Nat))),([6,8],.val (.int .i64 ((F+x:Nat):Int))),([0,2,9],.web 1 gw gl (F+N) lcap F R (yU rp f (F+x)) (by have:=HNE.out.2.2;intro c hc;match c with | 0=>simp | 1=>exact absurd rfl hc | c+2=>simp) (by intro c hc;match c with | 0=>simp | 1=>exact absurd rfl hc | c+2=>simp))] [10] (by kernel_rfl) (by kernel_rfl) (fun us=>?_) ?_
   ·refine R5.pgo_pure _ rfl rfl (fun wv hw hu=>⟨.pointer (some ⟨gw,0,none⟩),?_,rfl⟩) ?_
    ·have tok:=True.intro;clear hw hu;go_simp
    refine R5.pgo_pure _ rfl rfl (fun wv hw hu=>⟨.pointer (some ⟨gA,2,none⟩),?_,rfl⟩) ?_
    ·have tok:=True.intro;clear hw hu;go_simp
    refine R5.pgo_pure _ rfl rfl (fun wv hw hu=>⟨.int .i64 (f:Nat),?_,rfl⟩) ?_
    ·have tok:=True.intro;have h1:us 1 = .pointer (some ⟨gA,2,none⟩):=hu.1;have zy:wv.cell? ⟨gA,2,none⟩=some (.int .i64 (f:Nat)):=((R5.BW.in_ hw [] rfl (by kernel_rfl)).blk HBA.out.drew (by simp)).cell 2;clear hw hu;go_simp
    refine R5.pgo_pure _ rfl rfl (fun wv hw hu=>⟨.pointer (some ⟨gw,0,none⟩),?_,rfl⟩) ?_
    ·have tok:=True.intro;clear hw hu;go_simp
    refine R5.pgo_pure _ rfl rfl (fun wv hw hu=>⟨.pointer (some ⟨gw,0,none⟩),?_,rfl⟩) ?_
    ·have tok:=True.intro;have h3:us 3 = .pointer (some ⟨gw,0,none⟩):=hu.1;clear hw hu;go_simp
    refine R5.pgo_pure _ rfl rfl (fun wv hw hu=>⟨.pointer (some ⟨gw,1,none⟩),?_,rfl⟩) ?_
    ·have tok:=True.intro;have h4:us 4 = .pointer (some ⟨gw,0,none⟩):=hu.1;clear hw hu;go_simp
    refine R5.pgo_pure _ rfl rfl (fun wv hw hu=>⟨.int .i64 F,?_,rfl⟩) ?_
    ·have tok:=True.intro;have h5:us 5 = .pointer (some ⟨gw,1,none⟩):=hu.1;have zy:wv.cell? ⟨gw,1,none⟩=some (.int .i64 F):=(HW2.out.drew.but (R5.BW.in_ hw [] rfl (by kernel_rfl)) (by simp) (by simp)).cellF;clear hw hu;go_simp
    refine R5.pgo_pure _ rfl rfl (fun wv hw hu=>⟨.pointer (some ⟨gA,1,none⟩),?_,rfl⟩) ?_
    ·have tok:=True.intro;clear hw hu;go_simp
    refine R5.pgo_pure _ rfl rfl (fun wv hw hu=>⟨.int .i64 (x:Nat),?_,rfl⟩) ?_
    ·have tok:=True.intro;have h7:us 7 = .pointer (some ⟨gA,1,none⟩):=hu.1;have zy:wv.cell? ⟨gA,1,none⟩=some (.int .i64 (x:Nat)):=((R5.BW.in_ hw [] rfl (by kernel_rfl)).blk HBA.out.drew (by simp)).cell 1;clear hw hu;go_simp
    refine R5.pgo_pure _ rfl rfl (fun wv hw hu=>⟨.int .i64 ((F+x:Nat):Int),?_,rfl⟩) ?_
    ·have tok:=True.intro;have h6:us 6 = .int .i64 F:=hu.1;have h8:us 8 = .int .i64 (x:Nat):=hu.2.1;clear hw hu;go_simp;rw [HFX.out,IntKind.wrap_i64];omega
    refine R3.pgo_op _ rfl rfl (fun K wv hw hu hK=>?_) ?_
    ·have tok:=True.intro;have h0:us 0 = .pointer (some ⟨gw,0,none⟩):=hu.1;have h2:us 2 = .int .i64 (f:Nat):=hu.2.1;have h9:us 9 = .int .i64 ((F+x:Nat):Int):=hu.2.2.1;have hWv:=HW2.out.drew.but (R5.BW.in_ hw [] rfl (by kernel_rfl)) (by simp) (by simp);refine zL (f:=86) (args:=#[.pointer (some ⟨gw,0,none⟩),.int .i64 (f:Nat),.int .i64 ((F+x:Nat):Int)]) ?_ ((nY gw gl (F+N) lcap F f (F+x) R rp wv hWv hfl hxl hlen).mono ?_)
     ·clear hK hw hu hWv;go_simp
     rintro e z ⟨rfl,hz,hz2⟩;exact ⟨_,rfl,hK _ _ hz hz2⟩
    trivial
   ·intro us w6 hw hu;have hsw:xA w6 gw gl (F+N) lcap F R (yU rp f (F+x)):=hu.1;have hb6':But [gl] w1.drew w6:=R5.BW.in_ hw [1] rfl (by kernel_rfl);have hb6:=hb6'.undrew;have HW6:=Lib.hid hsw
    have HH6:=Lib.hid (show jr w6 w6.heap.size (some ⟨gh,0,none⟩) (jV H) from (kq hb6 HH2.out (by
     intro e
     exact HNE.out.1 (by simpa using e)) (Nat.le_refl _)).more hb6.size)
    have HG6:=Lib.hid (show w6.cell? ⟨gb,0,none⟩=some (.int .i64 N) from Ym hb6 HG2.out (by
     intro e
     exact HNE.out.2.1 (by simpa using e)) (by have:=HLT.out;have:=HS2.out;omega))
    have HB6:=Lib.hid (show Below w.heap.size w w6 from HB2.out.trans (hb6.below HB2.out.size (by
     intro k hk;have h1:=HBW.out;have h2:k=gl:=by simpa using hk
     omega)))
    have HS6:=Lib.hid (Nat.le_trans HS2.out hb6.size);clear hw hu hsw hb6 hb6' HW2 HH2 HG2 HB2 HS2 HBA;simp only [Jw];go_simp;go_wp2_with fail
    go_roundg (H.length-(i+1))
    case measure=>rw [Hk.out];omega
    case rel=>exact ⟨i+1,by go_num,by omega,rfl,by rw [HST.out];exact HW6.out,HH6.out,HG6.out,HB6.out,HS6.out⟩
  ·have hie:i=H.length:=by omega
   have HWF:=Lib.hid (show xA wr gw gl (F+N) lcap F R ro by
    have:=HW1.out;rw [hie,List.take_length,←HRO.out] at this
    exact this)
   have hlt':¬(i:Int)<H.length:=by omega
   clear hie hlt hi HW1;have hmm:=@run_makeMap Tryz.prog;have HMM:=Lib.hid (World.ownsMap_made (H:=Unit) wr Tryz.prog 3 (plainElem Tryz.prog 3));have HBM:=Lib.hid ((Below.refl wr.heap.size wr).alloc (Nat.le_refl _) (.map #[] 0));have hzm:=World.size_alloc wr (.map #[] 0)
   go_upto_region 16 with fail
   have HLT3:=Lib.hid (show gl<wr.heap.size+1∧gw<wr.heap.size+1∧wr.heap.size<wr.heap.size+1∧gh<wr.heap.size+1∧gb<wr.heap.size+1 by
    have:=HLT.out;have:=HS1.out;omega)
   have HNE3:=Lib.hid (show wr.heap.size≠gl∧gb≠wr.heap.size∧gh≠wr.heap.size∧gw≠wr.heap.size by
    have:=HLT.out;have:=HS1.out;omega)
   exact sI gb gw gl lcap F N wr.heap.size gh ch (wr.heap.size+1) H ro R w _ b HBT.out (HWF.out.keep HBM.out (Nat.le_refl _)) HMM.out ((HH1.out.below HBM.out).more HBM.out.size) ((HBM.out.cell (p:=⟨gb,0,none⟩) (by have:=HLT.out;have:=HS1.out;show gb<wr.heap.size;omega)).trans HG1.out) HLT3.out ⟨HNE3.out.1,HNE.out.1,HNE.out.2.1,HNE3.out.2.1,HNE3.out.2.2.1,HNE3.out.2.2.2⟩ HI.out (by rw [HRO.out];exact uQ HI.out) hlen hHl (HB1.out.trans (HBM.out.mono HB1.out.size)) ⟨HBW.out.1,HB1.out.size,hzm⟩ _ _ _ _ _ _ _ _ _ _ _ _ _ _ _ _ _ _ _ _ _ _ _ _ _ _ _ _ _ _ _ _ _ _ _ _ _ _ _ _ _ _ _ _ _ _ _ _ _ _ _ _ _ _ _ _ _ _ _ _ _ _ _ _ _ _ _ _ _ _ _ _ _ _ _ _ _ _ _ _ _ _ _ _ _ _ _ _ _ _ _ _ _ _ _ _ _ _ _ _ _ _ _ _ _ _ _ _ _ _ _ _ _ _ _ _ _ _ _ _ _ _ _ _ _ _ _ _ _ _ _ _ _ _ _ _ _ _ _ _ _ _ _ _ _ _ _ _ _ _ _ _ _ _ _ _ _ _ _ _ _ _ _ (by assumption) _ (by assumption)
end Go.Proofs.YtneeknlhlkpnpaaGreat
/-
 forest.Parts: the web made, its angles. (Printed by partsgen.py.) Written by an AI agent.
-/
namespace Go.Proofs.YtneeknlhlkpnpaaGreat
open Go.RowKit Go.Maps
theorem pi{L x:Nat}(hx:x<L):ldr ((List.range L).map Int.ofNat) x=x:=by
 unfold ldr;rw [List.getD_eq_getElem?_getD,List.getElem?_map,List.getElem?_range hx];rfl
theorem sB(L:Nat):WebP ((List.range L).map Int.ofNat):=by
 refine ⟨fun x hx=>?_,fun x hx=>?_⟩<;>simp at hx<;>first
  | (rw [pi hx];omega)
  | (rw [List.getD_eq_getElem?_getD,List.getElem?_map,List.getElem?_range hx];simp)
theorem rf{L x:Nat}(hx:x<L):xF ((List.range L).map Int.ofNat) x=x:=vW (pi hx) x
set_option maxRecDepth 100000 in
set_option maxHeartbeats 4000000 in
theorem sK(N cap ccap F:Nat)(A C:Option Addr)(es:List (Int×Int))(rs:List (List Int))(H:List zu)(hH:H=(yl (N:Int) es rs).filter hiQ)(ro:Nat→Nat)(hro:ro=roH F H)(w ws wc:World)(b:Bool)(hbt:b=true)(hS:SG w ws (N:Int) A cap es C rs)(hwb:Blk wc ws.heap.size 132 #[.slice none 0 0,.int .i64 F])(hbl:Below ws.heap.size ws wc)(hsz:wc.heap.size=ws.heap.size+1)(hr1:rs.length≤1000)(hr2:∀l∈rs,l.length≤1000)(hask:xp (N:Int) es rs=true)(hIn:InH F N H)(hN0:0<N)(hlen:F+N≤1000)(hHl:(yl (N:Int) es rs).length≤1000)(u0 u3 u6 u7 u8 u9 u10 u11 u12 u13 u14 u15 u16 u17 u18 u19 u20 u21 u22 u23 u24 u25 u26 u27 u28 u29 u30 u31 u32 u33 u34 u35 u36 u37 u38 u39 u40 u41 u42 u43 u44 u45 u46 u47 u48 u49 u50 u51 u52 u53 u54 u55 u56 u57 u58 u59 u60 u61 u62 u63 u64 u65 u66 u67 u68 u69 u70 u71 u72 u73 u74 u75 u76 u77 u78 u79 u80 u81 u82 u83 u84 u85 u86 u87 u88 u89 u90 u91 u92 u93 u94 u95 u96 u97 u98 u99 u100 u101 u102 u103 u104 u105 u106 u107 u108 u109 u110 u111 u112 u113 u114 u115 u116 u117 u118 u119 u120 u121 u122 u123 u124 u125 u126 u127 u128 u129 u130 u131 u132 u133 u134 u135 u136 u137 u138 u139 u140 u141 u142 u143 u144 u145 u146 u147 u148 u149 u150 u151 u152 u153 u154 u155 u156 u157 u158 u159 u160 u161 u162 u163 u164 u165 u166:Value)(K:Act→World→Prop)(hK:∀a0 w0,Code.wp Tryz.prog (YR (vH 3 ((Tryz.f33.body).getD .skip))) (bodyPost Tryz.prog Tryz.f33 (vX b H ro F N w)) a0 w0→K a0 w0)(K4:Act→World→Prop)(hK4:∀a0 w0,Code.wp Tryz.prog (YR (uS (vH 3 ((Tryz.f33.body).getD .skip)))) (Exit.then K (bodyPost Tryz.prog Tryz.f33 (vX b H ro F N w))) a0 w0→K4 a0 w0):Code.wp Tryz.prog (uS (uS (vH 3 ((Tryz.f33.body).getD .skip)))) (Exit.then K4 (Exit.then K (bodyPost Tryz.prog Tryz.f33 (vX b H ro F N w)))) ⟨#[u0,.slice C rs.length ccap,.pointer (some ⟨w.heap.size,0,none⟩),u3,.slice none 0 0,.pointer (some ⟨ws.heap.size,0,none⟩),u6,u7,u8,u9,u10,u11,u12,u13,u14,u15,u16,u17,u18,u19,u20,u21,u22,u23,u24,u25,u26,u27,u28,u29,u30,u31,u32,u33,u34,u35,u36,u37,u38,u39,u40,u41,u42,u43,u44,u45,u46,u47,u48,u49,u50,u51,u52,u53,u54,u55,u56,u57,u58,u59,u60,u61,u62,u63,u64,u65,u66,u67,u68,u69,u70,u71,u72,u73,u74,u75,u76,u77,u78,u79,u80,u81,u82,u83,u84,u85,u86,u87,u88,u89,u90,u91,u92,u93,u94,u95,u96,u97,u98,u99,u100,u101,u102,u103,u104,u105,u106,u107,u108,u109,u110,u111,u112,u113,u114,u115,u116,u117,u118,u119,u120,u121,u122,u123,u124,u125,u126,u127,u128,u129,u130,u131,u132,u133,u134,u135,u136,u137,u138,u139,u140,u141,u142,u143,u144,u145,u146,u147,u148,u149,u150,u151,u152,u153,u154,u155,u156,u157,u158,u159,u160,u161,u162,u163,u164,u165,u166],[]⟩ wc:=by
 conv=>arg 2;whnf
 conv at hK=>intro a0 w0;arg 1;arg 2;whnf
 conv at hK4=>intro a0 w0;arg 1;arg 2;whnf
 subst hH;have HRO:=Lib.hid hro;have HS:=Lib.hid hS;have HWB:=Lib.hid hwb;have HBL:=Lib.hid hbl;have HR:=Lib.hid (And.intro hr1 hr2);have HAK:=Lib.hid hask;have HI:=Lib.hid hIn;have HBT:=Lib.hid hbt;have HFN:=Lib.hid (show IntKind.i64.wrap ((F:Int)+(N:Int))=((F+N:Nat):Int) by rw [IntKind.wrap_i64];omega);have HZ:=Lib.hid hsz;clear hro hS hwb hbl hr1 hr2 hask hIn hbt hsz;have S1:=Lib.hid (HS.out.next HBL.out);have g0:=S1.out.g0;have zF:=HWB.out.cell 1;simp only [List.getElem?_toArray,List.getElem?_cons_zero,List.getElem?_cons_succ] at zF;have hFN:(F:Int)+(N:Int)≤1000:=by omega
 go_quiet (fail)
 rw [HFN.out];have hbn:=below_drewN (Below.refl wc.heap.size wc) nq;have HWB2:=Lib.hid (HWB.out.below hbn HWB.out.lt);have HBL2:=Lib.hid (show Below ws.heap.size ws (wc.drewN nq) from below_drewN HBL.out nq);have HZ2:=Lib.hid (show ws.heap.size+1≤(wc.drewN nq).heap.size from by have:=hbn.size;have:=HZ.out;omega);clear hbn;generalize wc.drewN nq=w2 at *;clear g0 zF HWB HBL S1 HZ;go_wp2_with fail
 go_loopg [36] (F+N) (fun k s36 wr=>∃(x:Nat) (lv:Value),s36 = .int .i64 x∧x≤F+N∧k=F+N-x∧wr.ownsRow (ws.heap.size+1) 3 1 lv x (jf ((List.range x).map Int.ofNat))∧Blk wr ws.heap.size 132 #[lv,.int .i64 F]∧Below ws.heap.size ws wr∧ws.heap.size+1≤wr.heap.size)
 case atStart=>exact ⟨0,.slice none 0 0,rfl,Nat.zero_le _,rfl,World.ownsRow_nil _ _ _ _,HWB2.out,HBL2.out,HZ2.out⟩
 case round=>
  obtain ⟨x,lv,rfl,hx,hk,ho,hb,hbl,hs⟩:=hrel;have Hk:=Lib.hid hk;have HO:=Lib.hid ho;have HB:=Lib.hid hb;have HBL3:=Lib.hid hbl;clear hk ho hb hbl HWB2 HBL2;by_cases hlt:x<F+N
  ·have hlt':(x:Int)<(F+N:Nat):=by omega
   have c0:=HB.out.cell 0;simp only [List.getElem?_toArray,List.getElem?_cons_zero] at c0;have how:=HO.out;go_wp2_with (at_builtin;refine yX qY rfl _ _ rfl (ws.heap.size+1) lv x _ rfl wr.heap.size [.int .i64 (x:Int)] rfl rfl how rfl rfl ?h2 ?h3 ?h4 ?_)
   case h2=>omega
   case h3=>omega
   case h4=>exact hs
   intro v1 w3 ho hg hd;obtain ⟨A1,cc1,rfl⟩:=jA ho;have hev:=(Evo.of_grown (T:=[3]) (B:=ws.heap.size+1) how hg (by simp) (Nat.le_refl _)).below hs;have hB3:=HB.out.below hev (Nat.lt_succ_self _);have f0:=hB3.frozen 0;have z0:=hB3.cell 0;simp only [List.getElem?_toArray,List.getElem?_cons_zero] at z0;have hbt:=But.set_ w3 (show ws.heap.size∈[ws.heap.size] by simp) 0 (.slice A1 (x+1) cc1);have HB4:=Lib.hid (show Blk (w3.setCell ⟨ws.heap.size,0,none⟩ (.slice A1 (x+1) cc1)) ws.heap.size 132 #[.slice A1 (x+1) cc1,.int .i64 F] by simpa using hB3.set_ 0 (.slice A1 (x+1) cc1))
   have HO4:=Lib.hid (show (w3.setCell ⟨ws.heap.size,0,none⟩ (.slice A1 (x+1) cc1)).ownsRow (ws.heap.size+1) 3 1 (.slice A1 (x+1) cc1) (x+1) (jf ((List.range (x+1)).map Int.ofNat)) by
    have h1:=vD ho hbt (fun g hg=>by have h9:g=ws.heap.size:=(by simpa using hg);omega)
    have e1:jf ((List.range (x+1)).map Int.ofNat)=jf ((List.range x).map Int.ofNat)++[.int .i64 (x:Int)]:=by
     rw [List.range_succ];simp [jf]
    rw [e1]
    exact h1)
   have HBL4:=Lib.hid ((HBL3.out.trans (hev.mono (Nat.le_succ _))).trans (hbt.below (Nat.le_trans (Nat.le_succ _) (Nat.le_trans hs hev.size)) (fun k hk=>by have h9:k=ws.heap.size:=(by simpa using hk);omega)));have hs4:=Nat.le_trans hs (Nat.le_trans hev.size hbt.size);clear ho hg hd how hev hB3 hbt c0;go_wp2_with fail
   go_roundg (F+N-(x+1))
   case measure=>rw [Hk.out];omega
   case rel=>exact ⟨x+1,_,by go_num,by omega,rfl,HO4.out,HB4.out,HBL4.out,hs4⟩
  ·have hxe:x=F+N:=by omega
   have HON:=Lib.hid (show wr.ownsRow (ws.heap.size+1) 3 1 lv (F+N) (jf ((List.range (F+N)).map Int.ofNat)) by
    have:=HO.out;rw [hxe] at this
    exact this)
   have hlt':¬(x:Int)<(F+N:Nat):=by omega
   clear hxe hlt hx HO;obtain ⟨gl,lcap,R,rfl,hgl,hbg,_⟩:=vT HON.out (by omega);have HWE:=Lib.hid (show xA wr ws.heap.size gl (F+N) lcap F R id from ⟨(List.range (F+N)).map Int.ofNat,HB.out,hbg,by simp,sB _,fun y hy=>rf hy,by omega⟩);have HGL:=Lib.hid (And.intro hgl hbg.lt);have S2:=Lib.hid (HS.out.next HBL3.out);have g0:=S2.out.g0;have g1:=S2.out.g1;clear hbg hgl HON HB;go_wp2_with fail;refine (GR (N:Int) A C cap ccap es rs wr S2.out.es S2.out.rs HR.out.1 HR.out.2).mono ?_;rintro e w5 ⟨A5,c5,rfl,hb5,hq⟩;obtain ⟨gh,rfl,hgh,hblk,hcl⟩:=hq HAK.out;have HBK:=Lib.hid hblk;have HB5:=Lib.hid hb5;have HGH:=Lib.hid (And.intro hgh hblk.lt);have HCL:=Lib.hid hcl;clear hq hgh hblk hcl hb5 g0 g1;go_wp2_with fail;refine (oE gh c5 (yl (N:Int) es rs) w5 HBK.out hHl HCL.out).mono ?_;rintro e w6 ⟨ch,rfl,hb6,hc6⟩;have HC6:=Lib.hid hc6;have HB6:=Lib.hid hb6;clear hb6 hc6
   have HNEG:=Lib.hid (show gh≠gl∧w.heap.size≠gl∧ws.heap.size≠gl∧ws.heap.size≠gh∧w.heap.size≠gh by
    have:=HGL.out;have:=HGH.out;have:=S2.out.lt;have:=HS.out.lt;omega)
   have HLT6:=Lib.hid (show gl<w6.heap.size∧ws.heap.size<w6.heap.size∧gh<w6.heap.size∧w.heap.size<w6.heap.size by
    have:=HGL.out;have:=HGH.out;have:=HB6.out.size;have:=HB5.out.size;have:=HS.out.lt;omega)
   have HW6:=Lib.hid (((HWE.out.keep HB5.out (Nat.le_refl _)).but HB6.out (by
    intro e;exact HNEG.out.2.2.2.1 (by simpa using e)) (by
    intro e;have h9:gl=gh:=by simpa using e
    exact HNEG.out.1 h9.symm)))
   have HG6:=Lib.hid (show w6.cell? ⟨w.heap.size,0,none⟩=some (.int .i64 N) from Ym HB6.out (S2.out.next HB5.out).g0 (by
    intro e
    exact HNEG.out.2.2.2.2 (by simpa using e)) (S2.out.next HB5.out).lt)
   have HBW6:=Lib.hid (show Below w.heap.size w w6 from (S2.out.next HB5.out).below.trans (HB6.out.below (S2.out.next HB5.out).below.size (by
    intro k hk;have h1:=HGH.out;have h2:k=gh:=by simpa using hk
    have h3:=S2.out.lt
    omega)))
   go_upto_region 10 with fail
   exact sJ w.heap.size ws.heap.size gl lcap F N gh ch _ ro HRO.out R w w6 b HBT.out HW6.out HC6.out HG6.out ⟨HLT6.out.1,HLT6.out.2.1,HLT6.out.2.2.1,HLT6.out.2.2.2⟩ ⟨HNEG.out.1,HNEG.out.2.1,HNEG.out.2.2.1⟩ HI.out hlen (Nat.le_trans (List.length_filter_le _ _) hHl) HBW6.out ⟨by have:=HGL.out;have:=HS.out.lt;omega,HBW6.out.size⟩ _ _ _ _ _ _ _ _ _ _ _ _ _ _ _ _ _ _ _ _ _ _ _ _ _ _ _ _ _ _ _ _ _ _ _ _ _ _ _ _ _ _ _ _ _ _ _ _ _ _ _ _ _ _ _ _ _ _ _ _ _ _ _ _ _ _ _ _ _ _ _ _ _ _ _ _ _ _ _ _ _ _ _ _ _ _ _ _ _ _ _ _ _ _ _ _ _ _ _ _ _ _ _ _ _ _ _ _ _ _ _ _ _ _ _ _ _ _ _ _ _ _ _ _ _ _ _ _ _ _ _ _ _ _ _ _ _ _ _ _ _ _ _ _ _ _ _ _ _ _ _ _ _ _ _ _ _ _ _ _ _ _ _ _ (by assumption) _ (by assumption)
end Go.Proofs.YtneeknlhlkpnpaaGreat
/-
 forest.Parts, whole. (Printed by partsgen.py.) Written by an AI agent.
-/
namespace Go.Proofs.YtneeknlhlkpnpaaGreat
open Go.RowKit Go.Maps
theorem sb{n:Int}{es:List (Int×Int)}{rs:List (List Int)}(ha:xp n es rs=true):∀q∈yl n es rs,q.2.2.1<(jo n es rs).length∧q.2.1<rs.length:=by
 have hR:=yF ha;intro q hq;unfold yl at hq;rw [if_pos ha] at hq;obtain ⟨h,hh,rfl⟩:=List.mem_map.1 hq;have hh:=List.mem_range.1 hh;exact ⟨(yh hR hh).1,xc (ya hR) hh⟩
theorem QZ{n:Int}{es:List (Int×Int)}{rs:List (List Int)}(ha:xp n es rs=true):(yl n es rs).length=2*es.length:=by
 unfold yl;rw [if_pos ha,cV]
theorem zz{n:Int}{es:List (Int×Int)}{rs:List (List Int)}(ha:xp n es rs=true):InH (jo n es rs).length rs.length ((yl n es rs).filter hiQ):=fun q hq=>sb ha q (List.mem_filter.1 hq).1
set_option maxRecDepth 100000 in
set_option maxHeartbeats 4000000 in
theorem Zs(n:Int)(A C:Option Addr)(cap ccap:Nat)(es:List (Int×Int))(rs:List (List Int))(w:World)(hes:jr w w.heap.size A (jD es))(hrs:qz w w.heap.size C rs)(hr1:rs.length≤1000)(hr2:∀l∈rs,l.length≤1000)(hcap:es.length≤cap) :
  Calls Tryz.prog 33 #[.agg #[.int .i64 n,.slice A es.length cap],.slice C rs.length ccap] w (vX (zn n es rs) ((yl n es rs).filter hiQ) (roH (jo n es rs).length ((yl n es rs).filter hiQ)) (jo n es rs).length rs.length w):=by
 have S1:=Lib.hid (SG.start n cap hes hrs);have HR2:=Lib.hid hr2;clear hes hrs hr2
 cases hf:zn n es rs with
 | false=>
  go_enter Tryz.func33,Tryz.ntmps33
  go_upto_region 1 with fail
  generalize w.alloc (.cells #[.int .i64 n,.slice A es.length cap] 24)=w1 at *;have g0:=S1.out.g0;have g1:=S1.out.g1;go_wp2_with fail;refine (dS n A C cap ccap es rs w1 S1.out.es S1.out.rs hr1 HR2.out hcap).mono ?_;rintro e w2 ⟨rfl,hb2⟩;have S2:=Lib.hid (S1.out.next hb2);rw [hf];clear hb2 S1 g0 g1 hf;go_wp2_with fail;go_ret;exact ⟨_,rfl,S2.out.below,fun _=>rfl,fun h=>by cases h⟩
 | true=>
  have hA:=zN hf;have hP:=yF hA;have hn:n=(rs.length:Int):=hP.len.symm;subst hn;obtain ⟨s,hs,_⟩:=kp (xM hf);have hm:=qv hP.may;have hfl:=kM hP;have HA:=Lib.hid hA
  have HL:=Lib.hid (show (jo (rs.length:Int) es rs).length+rs.length≤1000∧(yl (rs.length:Int) es rs).length≤1000 by
   rw [QZ hA]
   omega)
  have HF:=Lib.hid hf;clear hm hfl hA hP hf
  go_enter Tryz.func33,Tryz.ntmps33
  go_upto_region 1 with fail
  generalize w.alloc (.cells #[.int .i64 (rs.length:Int),.slice A es.length cap] 24)=w1 at *;have g0:=S1.out.g0;have g1:=S1.out.g1;go_wp2_with fail;refine (dS (rs.length:Int) A C cap ccap es rs w1 S1.out.es S1.out.rs hr1 HR2.out hcap).mono ?_;rintro e w2 ⟨rfl,hb2⟩;have S2:=Lib.hid (S1.out.next hb2);have g0:=S2.out.g0;have g1:=S2.out.g1;rw [HF.out];clear hb2 S1;go_wp2_with fail;refine (GE (rs.length:Int) A C cap ccap es rs w2 S2.out.es S2.out.rs hr1 HR2.out).mono ?_;rintro e w3 ⟨A6,c6,rfl,hb3,_⟩;have S3:=Lib.hid (S2.out.next hb3);clear hb3 S2 g0 g1
  go_upto_region 4 with fail
  exact sK rs.length cap ccap (jo (rs.length:Int) es rs).length A C es rs _ rfl _ rfl w w3 _ true rfl S3.out (Blk.new w3 132 #[.slice none 0 0,.int .i64 ((jo (rs.length:Int) es rs).length:Nat)]) ((Below.refl w3.heap.size w3).alloc (Nat.le_refl _) _) (World.size_alloc w3 _) hr1 HR2.out HA.out (zz HA.out) (by omega) HL.out.1 HL.out.2 _ _ _ _ _ _ _ _ _ _ _ _ _ _ _ _ _ _ _ _ _ _ _ _ _ _ _ _ _ _ _ _ _ _ _ _ _ _ _ _ _ _ _ _ _ _ _ _ _ _ _ _ _ _ _ _ _ _ _ _ _ _ _ _ _ _ _ _ _ _ _ _ _ _ _ _ _ _ _ _ _ _ _ _ _ _ _ _ _ _ _ _ _ _ _ _ _ _ _ _ _ _ _ _ _ _ _ _ _ _ _ _ _ _ _ _ _ _ _ _ _ _ _ _ _ _ _ _ _ _ _ _ _ _ _ _ _ _ _ _ _ _ _ _ _ _ _ _ _ _ _ _ _ _ _ _ _ _ _ _ _ _ _ _ (by assumption) _ (by assumption)
end Go.Proofs.YtneeknlhlkpnpaaGreat
