import Derived.Test.YtneeknlhlkpnpaaGreatZPtM
import Derived.Test.YtneeknlhlkpnpaaGreatZWeb
/-
 forest.Parts: its last loop: the angles counted. (Printed by partsgen.py.) Written by an AI agent.
-/
namespace Go.Proofs.YtneeknlhlkpnpaaGreat
open Go.RowKit Go.Maps
theorem iQ:Keyed Tryz.prog 3:=int_keyed Tryz.underlying3
theorem aA(w:World):(zeroValue 3).run Tryz.prog w = .ok (.int .i64 0) w:=by kernel_rfl
theorem UV{c:Nat}(h:c≤100000):(Lit.int .i64 (c:Nat)).wf=true:=WalkArith.wf_i64 (by omega)
/-- how many angles the part at place k has -/
def cA(ro:Nat→Nat)(H:List zu)(k:Nat):Nat:=H.countP fun q=>decide (pos ro (ro q.2.2.1)=k)
theorem rX(ro:Nat→Nat){H:List zu}{i:Nat}(hi:i<H.length)(k:Nat):cA ro (H.take (i+1)) k=if k=pos ro (ro H[i].2.2.1) then cA ro (H.take i) (pos ro (ro H[i].2.2.1))+1 else cA ro (H.take i) k:=by
 unfold cA;rw [List.take_succ_eq_append_getElem hi,List.countP_append];by_cases h:k=pos ro (ro H[i].2.2.1)
 ·subst h;simp
 ·rw [if_neg h];have h2:¬pos ro (ro H[i].2.2.1)=k:=fun e=>h e.symm;simp [h2]
theorem tG(ro:Nat→Nat)(H:List zu)(i k:Nat):cA ro (H.take i) k≤H.length:=Nat.le_trans List.countP_le_length (by simp;omega)
theorem pA{w:World}{g i:Nat}{Q:List zu}(h:jr w w.heap.size (some ⟨g,0,none⟩) (jV Q))(hi:i<Q.length) :
  w.cell? ⟨g,i*4,none⟩=some (.int .i64 (Q[i].1:Nat))∧w.cell? ⟨g,i*4+1,none⟩=some (.int .i64 (Q[i].2.1:Nat))∧w.cell? ⟨g,i*4+2,none⟩=some (.int .i64 (Q[i].2.2.1:Nat))∧w.cell? ⟨g,i*4+3,none⟩=some (.int .i64 (Q[i].2.2.2:Nat)):=by
 have hq:∀(Q:List zu) (i:Nat) (hi:i<Q.length),(jV Q)[i*4]? = some (.int .i64 (Q[i].1:Nat))∧(jV Q)[i*4+1]? = some (.int .i64 (Q[i].2.1:Nat))∧(jV Q)[i*4+2]? = some (.int .i64 (Q[i].2.2.1:Nat))∧(jV Q)[i*4+3]? = some (.int .i64 (Q[i].2.2.2:Nat)):=by
  intro Q
  induction Q with
  | nil=>intro i hi;cases hi
  | cons q Q ih=>
   intro i hi
   cases i with
   | zero=>exact ⟨rfl,rfl,rfl,rfl⟩
   | succ i=>
    have:=ih i (by simpa using hi);rw [show (i+1)*4=i*4+4 by omega];exact this
 obtain ⟨b,off,e,hb,hc⟩:=h (by
  have:=(List.getElem?_eq_some_iff.1 (hq Q i hi).1).1
  omega)
 injection e with e;injection e with e1 e2 _;subst e1 e2;obtain ⟨h0,h1,h2,h3⟩:=hq Q i hi;have c0:=hc _ _ h0;have c1:=hc _ _ h1;have c2:=hc _ _ h2;have c3:=hc _ _ h3;rw [Nat.zero_add] at c0 c1 c2 c3;exact ⟨c0,c1,c2,c3⟩
def vX(b:Bool)(H:List zu)(ro:Nat→Nat)(F N:Nat)(w:World)(e:Ending)(w':World):Prop:=∃v,e = .returned v∧Below w.heap.size w w'∧(b=false→v = .slice none 0 0)∧(b=true → ∃rv,PartM w' w.heap.size v (pos ro F) (rlB ro F N) (cA ro H) rv)
theorem xA.but{S:List Nat}{w w':World}{gw g len cap F:Nat}{R:Array Value}{ro:Nat→Nat}(h:xA w gw g len cap F R ro)(hb:But S w w')(h1:gw∉S)(h2:g∉S):xA w' gw g len cap F R ro:=by
 obtain ⟨l,h⟩:=h;exact ⟨l,hb.blk h.b h1,hb.blk h.c h2,h.ll,h.web,h.root,h.ne⟩
theorem But.grown{g:Nat}{w w':World}(h:But [g] w w'):w.grownBy w' (some g):=⟨h.os,h.tape,h.output,h.size,fun k hk hn=>h.block k hk (by
 intro e;have:k=g:=by simpa using e
 exact hn (by rw [this]))⟩
theorem PartM.mono{w:World}{B B' m:Nat}{v:Value}{rl:Nat→List Int}{an:Nat→Nat}{rv:Nat→Value}(h:PartM w B v m rl an rv)(hb:B'≤B):PartM w B' v m rl an rv:=⟨qT h.own hb,h.rows.mono hb⟩
set_option maxRecDepth 100000 in
set_option maxHeartbeats 4000000 in
theorem sG(g cap gw gl lcap F N mb n0 gh ch B m:Nat)(H:List zu)(ro:Nat→Nat)(R:Array Value)(D:DataW Unit)(rv:Nat→Value)(w wc:World)(b:Bool)(hbt:b=true)(hP:PartM wc B (.slice (some ⟨g,0,none⟩) m cap) m (rlB ro F N) (fun _=>0) rv)(hm:m=pos ro F)(hW:xA wc gw gl (F+N) lcap F R ro)(hM:wc.ownsMap Tryz.prog 3 (plainElem Tryz.prog 3) mb n0 D)(hD:PlaceD ro F D)(hH:jr wc wc.heap.size (some ⟨gh,0,none⟩) (jV H))(hlt:gl<B∧gw<B∧mb<B∧gh<B∧B≤g)(hne:mb≠gl∧gh≠gl)(hIn:InH F N H)(hL:LeadP (F+N) ro)(hlen:F+N≤1000)(hHl:H.length≤1000)(hB:Below w.heap.size w wc)(hBw:w.heap.size≤gl∧B≤wc.heap.size)(u0 u1 u2 u3 u6 u8 u9 u11 u12 u13 u14 u15 u16 u17 u18 u19 u20 u21 u22 u23 u24 u25 u26 u27 u28 u29 u30 u31 u32 u33 u34 u35 u36 u37 u38 u39 u40 u41 u42 u43 u44 u45 u46 u47 u48 u49 u50 u51 u52 u53 u54 u55 u56 u57 u58 u59 u60 u61 u62 u63 u64 u65 u66 u67 u68 u69 u70 u71 u72 u73 u74 u75 u76 u77 u78 u79 u80 u81 u82 u83 u84 u85 u86 u87 u88 u89 u90 u91 u92 u93 u94 u95 u96 u97 u98 u99 u100 u101 u102 u103 u104 u105 u106 u107 u108 u109 u110 u111 u112 u113 u114 u115 u116 u117 u118 u119 u120 u121 u122 u123 u124 u125 u126 u127 u128 u129 u130 u131 u132 u133 u134 u135 u136 u137 u138 u139 u140 u141 u142 u143 u144 u145 u146 u147 u148 u149 u150 u151 u152 u153 u154 u155 u156 u157 u158 u159 u160 u161 u162 u163 u164 u165 u166:Value)(K:Act→World→Prop)(hK:∀a0 w0,Code.wp Tryz.prog (YR (vH 9 ((Tryz.f33.body).getD .skip))) (bodyPost Tryz.prog Tryz.f33 (vX b H ro F N w)) a0 w0→K a0 w0)(K4:Act→World→Prop)(hK4:∀a0 w0,Code.wp Tryz.prog (YR (uS (vH 9 ((Tryz.f33.body).getD .skip)))) (Exit.then K (bodyPost Tryz.prog Tryz.f33 (vX b H ro F N w))) a0 w0→K4 a0 w0):Code.wp Tryz.prog (uS (uS (vH 9 ((Tryz.f33.body).getD .skip)))) (Exit.then K4 (Exit.then K (bodyPost Tryz.prog Tryz.f33 (vX b H ro F N w)))) ⟨#[u0,u1,u2,u3,.slice (some ⟨g,0,none⟩) m cap,.pointer (some ⟨gw,0,none⟩),u6,.slice (some ⟨gh,0,none⟩) H.length ch,u8,u9,.map (some mb),u11,u12,u13,u14,u15,u16,u17,u18,u19,u20,u21,u22,u23,u24,u25,u26,u27,u28,u29,u30,u31,u32,u33,u34,u35,u36,u37,u38,u39,u40,u41,u42,u43,u44,u45,u46,u47,u48,u49,u50,u51,u52,u53,u54,u55,u56,u57,u58,u59,u60,u61,u62,u63,u64,u65,u66,u67,u68,u69,u70,u71,u72,u73,u74,u75,u76,u77,u78,u79,u80,u81,u82,u83,u84,u85,u86,u87,u88,u89,u90,u91,u92,u93,u94,u95,u96,u97,u98,u99,u100,u101,u102,u103,u104,u105,u106,u107,u108,u109,u110,u111,u112,u113,u114,u115,u116,u117,u118,u119,u120,u121,u122,u123,u124,u125,u126,u127,u128,u129,u130,u131,u132,u133,u134,u135,u136,u137,u138,u139,u140,u141,u142,u143,u144,u145,u146,u147,u148,u149,u150,u151,u152,u153,u154,u155,u156,u157,u158,u159,u160,u161,u162,u163,u164,u165,u166],[]⟩ wc:=by
 conv=>arg 2;whnf
 conv at hK=>intro a0 w0;arg 1;arg 2;whnf
 conv at hK4=>intro a0 w0;arg 1;arg 2;whnf
 have HP:=Lib.hid hP;have HMM:=Lib.hid hm;have HW:=Lib.hid hW;have HM:=Lib.hid hM;have HD:=Lib.hid hD;have HH:=Lib.hid hH;have HLT:=Lib.hid hlt;have HI:=Lib.hid hIn;have HL:=Lib.hid hL;have HB:=Lib.hid hB;have HBW:=Lib.hid hBw;have HBT:=Lib.hid hbt;have HNE:=Lib.hid hne;clear hne;clear hP hm hW hM hD hH hlt hIn hL hB hBw hbt;go_wp2_with fail
 go_loopg [148] H.length (fun k s148 wr=>∃i:Nat,s148 = .int .i64 i∧i≤H.length∧k=H.length-i∧PartM wr B (.slice (some ⟨g,0,none⟩) m cap) m (rlB ro F N) (cA ro (H.take i)) rv∧xA wr gw gl (F+N) lcap F R ro∧wr.ownsMap Tryz.prog 3 (plainElem Tryz.prog 3) mb n0 D∧jr wr wr.heap.size (some ⟨gh,0,none⟩) (jV H)∧Below w.heap.size w wr∧wc.heap.size≤wr.heap.size)
 case atStart=>exact ⟨0,rfl,Nat.zero_le _,rfl,HP.out.congr (fun _ _=>rfl) (fun _ _=>by simp [cA]),HW.out,HM.out,HH.out,HB.out,Nat.le_refl _⟩
 case round=>
  obtain ⟨i,rfl,hi,hk,hP1,hW1,hM1,hH1,hB1,hs1⟩:=hrel;have Hk:=Lib.hid hk;have HP1:=Lib.hid hP1;have HW1:=Lib.hid hW1;have HM1:=Lib.hid hM1;have HH1:=Lib.hid hH1;have HB1:=Lib.hid hB1;have HS1:=Lib.hid hs1;clear hk hP1 hW1 hM1 hH1 hB1 hs1;by_cases hlt:i<H.length
  ·have hlt':(i:Int)<H.length:=by omega
   obtain ⟨q0,q1,q2,q3⟩:=pA HH1.out hlt;have hqm:=HI.out _ (List.getElem_mem hlt);obtain ⟨f,hf⟩:∃f,f=H[i].2.2.1:=⟨_,rfl⟩;rw [←hf] at q2 hqm;have HFE:=Lib.hid hf;have hfl:f<F+N:=by omega
   have hfl':(f:Int)<(F+N:Nat):=by omega
   have hlead:ro f<F:=by have:=HL.out.le f hfl;omega
   have hfix:=HL.out.fix f hfl;obtain ⟨P0,hP0⟩:∃P0,P0=pos ro (ro f):=⟨_,rfl⟩;have hP0m:P0<m:=by rw [hP0,HMM.out];exact QA hfix hlead
   have HP0:=Lib.hid hP0;clear hf hP0;generalize H[i].1=qa at q0;generalize H[i].2.1=qb at q1 hqm;generalize H[i].2.2.2=qd at q3;have hab:=(Below.refl wr.heap.size wr).alloc (Nat.le_refl _) (.cells #[.int .i64 (qa:Nat),.int .i64 (qb:Nat),.int .i64 (f:Nat),.int .i64 (qd:Nat)] 47);have hba:=Blk.new wr 47 #[.int .i64 (qa:Nat),.int .i64 (qb:Nat),.int .i64 (f:Nat),.int .i64 (qd:Nat)];have HAB:=Lib.hid hab;have HBA:=Lib.hid hba;clear hab hba
   go_upto_region 36 with fail
   generalize hw1:wr.alloc (.cells #[.int .i64 (qa:Nat),.int .i64 (qb:Nat),.int .i64 (f:Nat),.int .i64 (qd:Nat)] 47)=w1 at *;clear hw1;have c2:=HBA.out.cell 2;simp only [List.getElem?_toArray,List.getElem?_cons_zero,List.getElem?_cons_succ] at c2;have HP2:=Lib.hid (HP1.out.below HAB.out (Nat.le_refl _));have HW2:=Lib.hid (HW1.out.keep HAB.out (Nat.le_refl _));have HM2:=Lib.hid (show w1.ownsMap Tryz.prog 3 (plainElem Tryz.prog 3) mb n0 D from HM1.out.kept (row:=none) ⟨HAB.out.os,HAB.out.tape,HAB.out.output,HAB.out.size,fun k hk _=>HAB.out.block k hk⟩ (by simp));have HH2:=Lib.hid ((HH1.out.below HAB.out).more HAB.out.size);have HB2:=Lib.hid (HB1.out.trans (HAB.out.mono HB1.out.size));have HS2:=Lib.hid (Nat.le_trans HS1.out HAB.out.size);clear q0 q1 q2 q3 HP1 HW1 HM1 HH1 HB1 HS1 HAB HBA;go_wp2_with fail;refine (uL gw gl (F+N) lcap F f R ro w1 HW2.out hfl hlen).mono ?_;rintro e w2 ⟨rfl,hb2,hw2⟩
   have hbS:∀k∈[gl],k<B:=by
    intro k hk;have h1:=HLT.out;have h2:k=gl:=by simpa using hk
    omega
   have HP3:=Lib.hid (HP2.out.but hb2 hbS)
   have HM3:=Lib.hid (show w2.ownsMap Tryz.prog 3 (plainElem Tryz.prog 3) mb n0 D from HM2.out.kept hb2.grown (by
    intro e;injection e with e
    exact HNE.out.1 e))
   have HH3:=Lib.hid (show jr w2 w2.heap.size (some ⟨gh,0,none⟩) (jV H) from (kq hb2 HH2.out (by
    intro e
    exact HNE.out.2 (by simpa using e)) (Nat.le_refl _)).more hb2.size)
   have hbW:∀k∈[gl],w.heap.size≤k:=by
    intro k hk;have h1:=HBW.out;have h2:k=gl:=by simpa using hk
    omega
   have HB3:=Lib.hid (show Below w.heap.size w w2 from HB2.out.trans (hb2.below HB2.out.size hbW));have HS3:=Lib.hid (Nat.le_trans HS2.out hb2.size);have HW3:=Lib.hid hw2;clear hb2 hw2 hbS hbW HP2 HW2 HM2 HH2 HB2 HS2 c2;have hown:=HM3.out;have hkey:keyOf Tryz.prog 3 (.int .i64 (ro f:Nat))=some (.int .i64 (ro f:Nat)):=keyOf_int_mk Tryz.underlying3 (UV (by omega));have HHIT:=Lib.hid (HD.out.hit (ro f) hfix hlead);have hPm:(P0:Int)<m:=by omega
   have cN:=HP3.out.cellN hP0m;have fN:=HP3.out.frozen (3*P0+2);rw [Nat.mul_comm 3 P0] at cN fN;have hle:=tG ro H i P0;obtain ⟨cn,hcn⟩:∃cn,cn=cA ro (H.take i) P0:=⟨_,rfl⟩;rw [←hcn] at cN hle;have HCN:=Lib.hid hcn;clear hcn
   go_wp2_with (first
    | (at_lookup;refine wpList_lookup_own_int _ rfl _ _ 136 rfl 3 3 .i64 iQ Tryz.underlying136 Tryz.underlying3 (aA _) mb n0 _ rfl hown _ _ rfl hkey ?_
       intro c hat hwc
       obtain rfl:c=(P0:Nat):=by
        rw [HHIT.out,←HP0.out] at hat;injection hat with hat;injection hat with _ hat;exact hat.symm
       clear hat hwc hown))
   have hbt:=But.set_ w2 (show g∈[g] by simp) (P0*3+2) (.int .i64 ((cn:Int)+1))
   have HPF:=Lib.hid (show PartM (w2.setCell ⟨g,P0*3+2,none⟩ (.int .i64 ((cn:Int)+1))) B (.slice (some ⟨g,0,none⟩) m cap) m (rlB ro F N) (cA ro (H.take (i+1))) rv by
    have h1:=HP3.out.num hP0m (c:=cn+1);rw [Nat.mul_comm 3 P0] at h1;refine PartM.congr (show PartM (w2.setCell ⟨g,P0*3+2,none⟩ (.int .i64 ((cn:Int)+1))) B _ m _ _ rv from h1) (fun _ _=>rfl) fun k _=>?_
    rw [rX ro hlt,←HFE.out,←HP0.out,←HCN.out])
   have hg1:gw∉[g]:=by
    intro e;have h1:gw=g:=by simpa using e
    have:=HLT.out;omega
   have hg2:gl∉[g]:=by
    intro e;have h1:gl=g:=by simpa using e
    have:=HLT.out;omega
   have hg3:gh∉[g]:=by
    intro e;have h1:gh=g:=by simpa using e
    have:=HLT.out;omega
   have hg4:some mb≠some g:=by
    intro e;injection e with e;have:=HLT.out;omega
   have hg5:∀k∈[g],w.heap.size≤k:=by
    intro k hk;have h1:=HLT.out;have h3:=HBW.out;have h2:k=g:=by simpa using hk
    omega
   go_roundg (H.length-(i+1))
   case measure=>rw [Hk.out];omega
   case rel=>exact ⟨i+1,by go_num,by omega,rfl,HPF.out,HW3.out.but hbt hg1 hg2,HM3.out.kept hbt.grown hg4,(kq hbt HH3.out hg3 (Nat.le_refl _)).more hbt.size,HB3.out.trans (hbt.below HB3.out.size hg5),Nat.le_trans HS3.out hbt.size⟩
  ·have hie:i=H.length:=by omega
   have HF:=Lib.hid (show PartM wr w.heap.size (.slice (some ⟨g,0,none⟩) m cap) (pos ro F) (rlB ro F N) (cA ro H) rv by
    have:=HP1.out;rw [hie,List.take_length] at this;rw [←HMM.out]
    exact this.mono (by have:=HLT.out;have:=HBW.out;omega))
   have hlt':¬(i:Int)<H.length:=by omega
   clear hie hlt hi;go_wp2_with fail;go_ret;exact ⟨_,rfl,HB1.out,fun e=>(by rw [HBT.out] at e;cases e),fun _=>⟨rv,HF.out⟩⟩
end Go.Proofs.YtneeknlhlkpnpaaGreat
/-
 forest.Parts: the vertices put to their parts. (Printed by partsgen.py.) Written by an AI agent.
-/
namespace Go.Proofs.YtneeknlhlkpnpaaGreat
open Go.RowKit Go.Maps
theorem xA.cellF{w:World}{gw g len cap F:Nat}{R:Array Value}{ro:Nat→Nat}(h:xA w gw g len cap F R ro):w.cell? ⟨gw,1,none⟩=some (.int .i64 F):=by
 obtain ⟨l,h⟩:=h;exact h.b.cell 1
theorem xA.low{B:Nat}{w w':World}{gw g len cap F:Nat}{R:Array Value}{ro:Nat→Nat}(h:xA w gw g len cap F R ro)(hb:Below B w w')(h1:gw<B)(h2:g<B):xA w' gw g len cap F R ro:=by
 obtain ⟨l,h⟩:=h;exact ⟨l,h.b.below hb h1,h.c.below hb h2,h.ll,h.web,h.root,h.ne⟩
theorem uZ{P:Program}{k:TypeId}{R:Value→Option (DataW Unit×List MemPlace)}{w w':World}{b n B:Nat}{D:DataW Unit}(h:w.ownsMap P k R b n D)(hb:Below B w w')(h1:b<B):w'.ownsMap P k R b n D:=by
 obtain ⟨es,clock,hh,r⟩:=h;exact ⟨es,clock,(hb.block b h1).trans hh,r⟩
theorem YA{B:Nat}{w w':World}{xs:List Value}{g:Nat}(hc:jr w w.heap.size (some ⟨g,0,none⟩) xs)(hb:Below B w w')(h1:g<B):jr w' w'.heap.size (some ⟨g,0,none⟩) xs:=fun hn=>by
 obtain ⟨b,off,e,hlt,hc⟩:=hc hn;injection e with e;injection e with e1 e2 _;subst e1 e2;refine ⟨g,0,rfl,Nat.lt_of_lt_of_le hlt hb.size,fun j u hj=>?_⟩;rw [←hc j u hj];unfold World.cell?;rw [hb.block g h1]
theorem PartM.app_cell{w w':World}{B g m cap i:Nat}{rl:Nat→List Int}{an:Nat→Nat}{rv:Nat→Value}(h:PartM w B (.slice (some ⟨g,0,none⟩) m cap) m rl an rv)(hi:i<2*m)(hg:w.grownBy w' (rv i).ownBlock){k j:Nat}(hk:k<m)(hj:j<2):w'.cell? ⟨g,3*k+j,none⟩=some (rv (2*k+j))∧w'.frozen? ⟨g,3*k+j,none⟩=false:=by
 have own1:=yC h.own (Evo.of_grown (T:=[3]) (B:=B) (h.row hi) hg (by simp) (Nat.le_refl _)) (by decide);exact ⟨(own1.cellAt _ (by omega)).trans (gT hk hj),own1.frozenAt _⟩
theorem PartM.app_low{w w':World}{B m i:Nat}{v:Value}{rl:Nat→List Int}{an:Nat→Nat}{rv:Nat→Value}(h:PartM w B v m rl an rv)(hi:i<2*m)(hg:w.grownBy w' (rv i).ownBlock)(hB:B≤w.heap.size){p:Addr}(hp:B≤p.block)(u:Value):Below B w (w'.setCell p u):=by
 have h1:Below B w w':=(Evo.of_grown (T:=[3]) (B:=B) (h.row hi) hg (by simp) (Nat.le_refl _)).below hB;have h2:But [p.block] w' (w'.setCell p u):=⟨rfl,rfl,rfl,by simp [World.setCell],fun k _ hs=>Below.heap_setCell _ _ _ _ (fun e=>hs (by rw [e];simp))⟩
 exact h1.trans (h2.below (Nat.le_trans hB hg.size) (fun k hk=>by
  have:k=p.block:=by simpa using hk
  omega))
theorem Ym{S:List Nat}{w w':World}{g j:Nat}{v:Value}(h:But S w w')(hc:w.cell? ⟨g,j,none⟩=some v)(hg:g∉S)(hs:g<w.heap.size):w'.cell? ⟨g,j,none⟩=some v:=by
 rw [←hc];unfold World.cell?;rw [h.block g hs hg]
set_option maxRecDepth 100000 in
set_option maxHeartbeats 4000000 in
theorem sH(g cap gb gw gl lcap F N mb n0 gh ch B m:Nat)(H:List zu)(ro:Nat→Nat)(R:Array Value)(D:DataW Unit)(rv:Nat→Value)(w wc:World)(b:Bool)(hbt:b=true)(hP:PartM wc B (.slice (some ⟨g,0,none⟩) m cap) m (rlB ro F 0) (fun _=>0) rv)(hm:m=pos ro F)(hW:xA wc gw gl (F+N) lcap F R ro)(hM:wc.ownsMap Tryz.prog 3 (plainElem Tryz.prog 3) mb n0 D)(hD:PlaceD ro F D)(hH:jr wc wc.heap.size (some ⟨gh,0,none⟩) (jV H))(hG:wc.cell? ⟨gb,0,none⟩=some (.int .i64 N))(hlt:gl<B∧gw<B∧mb<B∧gh<B∧B≤g∧gb<B)(hne:mb≠gl∧gh≠gl∧gb≠gl)(hIn:InH F N H)(hL:LeadP (F+N) ro)(hlen:F+N≤1000)(hHl:H.length≤1000)(hB:Below w.heap.size w wc)(hBw:w.heap.size≤gl∧B≤wc.heap.size)(u0 u1 u3 u6 u8 u9 u11 u12 u13 u14 u15 u16 u17 u18 u19 u20 u21 u22 u23 u24 u25 u26 u27 u28 u29 u30 u31 u32 u33 u34 u35 u36 u37 u38 u39 u40 u41 u42 u43 u44 u45 u46 u47 u48 u49 u50 u51 u52 u53 u54 u55 u56 u57 u58 u59 u60 u61 u62 u63 u64 u65 u66 u67 u68 u69 u70 u71 u72 u73 u74 u75 u76 u77 u78 u79 u80 u81 u82 u83 u84 u85 u86 u87 u88 u89 u90 u91 u92 u93 u94 u95 u96 u97 u98 u99 u100 u101 u102 u103 u104 u105 u106 u107 u108 u109 u110 u111 u112 u113 u114 u115 u116 u117 u118 u119 u120 u121 u122 u123 u124 u125 u126 u127 u128 u129 u130 u131 u132 u133 u134 u135 u136 u137 u138 u139 u140 u141 u142 u143 u144 u145 u146 u147 u148 u149 u150 u151 u152 u153 u154 u155 u156 u157 u158 u159 u160 u161 u162 u163 u164 u165 u166:Value)(K:Act→World→Prop)(hK:∀a0 w0,Code.wp Tryz.prog (YR (vH 8 ((Tryz.f33.body).getD .skip))) (bodyPost Tryz.prog Tryz.f33 (vX b H ro F N w)) a0 w0→K a0 w0)(K4:Act→World→Prop)(hK4:∀a0 w0,Code.wp Tryz.prog (YR (uS (vH 8 ((Tryz.f33.body).getD .skip)))) (Exit.then K (bodyPost Tryz.prog Tryz.f33 (vX b H ro F N w))) a0 w0→K4 a0 w0):Code.wp Tryz.prog (uS (uS (vH 8 ((Tryz.f33.body).getD .skip)))) (Exit.then K4 (Exit.then K (bodyPost Tryz.prog Tryz.f33 (vX b H ro F N w)))) ⟨#[u0,u1,.pointer (some ⟨gb,0,none⟩),u3,.slice (some ⟨g,0,none⟩) m cap,.pointer (some ⟨gw,0,none⟩),u6,.slice (some ⟨gh,0,none⟩) H.length ch,u8,u9,.map (some mb),u11,u12,u13,u14,u15,u16,u17,u18,u19,u20,u21,u22,u23,u24,u25,u26,u27,u28,u29,u30,u31,u32,u33,u34,u35,u36,u37,u38,u39,u40,u41,u42,u43,u44,u45,u46,u47,u48,u49,u50,u51,u52,u53,u54,u55,u56,u57,u58,u59,u60,u61,u62,u63,u64,u65,u66,u67,u68,u69,u70,u71,u72,u73,u74,u75,u76,u77,u78,u79,u80,u81,u82,u83,u84,u85,u86,u87,u88,u89,u90,u91,u92,u93,u94,u95,u96,u97,u98,u99,u100,u101,u102,u103,u104,u105,u106,u107,u108,u109,u110,u111,u112,u113,u114,u115,u116,u117,u118,u119,u120,u121,u122,u123,u124,u125,u126,u127,u128,u129,u130,u131,u132,u133,u134,u135,u136,u137,u138,u139,u140,u141,u142,u143,u144,u145,u146,u147,u148,u149,u150,u151,u152,u153,u154,u155,u156,u157,u158,u159,u160,u161,u162,u163,u164,u165,u166],[]⟩ wc:=by
 conv=>arg 2;whnf
 conv at hK=>intro a0 w0;arg 1;arg 2;whnf
 conv at hK4=>intro a0 w0;arg 1;arg 2;whnf
 have HP:=Lib.hid hP;have HMM:=Lib.hid hm;have HW:=Lib.hid hW;have HM:=Lib.hid hM;have HD:=Lib.hid hD;have HH:=Lib.hid hH;have HG:=Lib.hid hG;have HLT:=Lib.hid hlt;have HI:=Lib.hid hIn;have HL:=Lib.hid hL;have HB:=Lib.hid hB;have HBW:=Lib.hid hBw;have HBT:=Lib.hid hbt;have HNE:=Lib.hid hne;clear hne hP hm hW hM hD hH hlt hIn hL hB hBw hbt;go_wp2_with fail;clear hG
 go_loopg [116] N (fun k s116 wr=>∃(x:Nat) (rvx:Nat→Value),s116 = .int .i64 x∧x≤N∧k=N-x∧PartM wr B (.slice (some ⟨g,0,none⟩) m cap) m (rlB ro F x) (fun _=>0) rvx∧xA wr gw gl (F+N) lcap F R ro∧wr.ownsMap Tryz.prog 3 (plainElem Tryz.prog 3) mb n0 D∧jr wr wr.heap.size (some ⟨gh,0,none⟩) (jV H)∧Below w.heap.size w wr∧wc.heap.size≤wr.heap.size)
 case atStart=>exact ⟨0,rv,rfl,Nat.zero_le _,rfl,HP.out,HW.out,HM.out,HH.out,HB.out,Nat.le_refl _⟩
 case round=>
  obtain ⟨x,rvx,rfl,hx,hk,hP1,hW1,hM1,hH1,hB1,hs1⟩:=hrel;have Hk:=Lib.hid hk;have HP1:=Lib.hid hP1;have HW1:=Lib.hid hW1;have HM1:=Lib.hid hM1;have HH1:=Lib.hid hH1;have HB1:=Lib.hid hB1;have HS1:=Lib.hid hs1;clear hk hP1 hW1 hM1 hH1 hB1 hs1;by_cases hlt:x<N
  ·have hlt':(x:Int)<N:=by omega
   have hfl:F+x<F+N:=by omega
   have zF:=HW1.out.cellF;have HCA:=Lib.hid (show ((F:Int)+(x:Int))=((F+x:Nat):Int) by omega)
   go_upto_region 29 with fail
   go_wp2_with fail;rw [HCA.out];refine (uL gw gl (F+N) lcap F (F+x) R ro wr HW1.out hfl hlen).mono ?_;rintro e w2 ⟨rfl,hb2,hw2⟩
   have hbS:∀k∈[gl],k<B:=by
    intro k hk;have h1:=HLT.out;have h2:k=gl:=by simpa using hk
    omega
   have hbW:∀k∈[gl],w.heap.size≤k:=by
    intro k hk;have h1:=HBW.out;have h2:k=gl:=by simpa using hk
    omega
   have HP3:=Lib.hid (HP1.out.but hb2 hbS)
   have HM3:=Lib.hid (show w2.ownsMap Tryz.prog 3 (plainElem Tryz.prog 3) mb n0 D from HM1.out.kept hb2.grown (by
    intro e;injection e with e
    exact HNE.out.1 e))
   have HH3:=Lib.hid (show jr w2 w2.heap.size (some ⟨gh,0,none⟩) (jV H) from (kq hb2 HH1.out (by
    intro e
    exact HNE.out.2.1 (by simpa using e)) (Nat.le_refl _)).more hb2.size)
   have HB3:=Lib.hid (show Below w.heap.size w w2 from HB1.out.trans (hb2.below HB1.out.size hbW));have HS3:=Lib.hid (Nat.le_trans HS1.out hb2.size);have HW3:=Lib.hid hw2;clear hb2 hw2 hbS hbW HP1 HW1 HM1 HH1 HB1 HS1 zF HCA;have hro:ro (F+x)<F+N:=by have:=HL.out.le (F+x) hfl;omega
   have hfix:=HL.out.fix (F+x) hfl;obtain ⟨c0,hc0⟩:∃c0,c0=ro (F+x):=⟨_,rfl⟩;rw [←hc0] at hro hfix;rw [←hc0];have HC0:=Lib.hid hc0;clear hc0;have hown:=HM3.out;have hkey:keyOf Tryz.prog 3 (.int .i64 (c0:Nat))=some (.int .i64 (c0:Nat)):=keyOf_int_mk Tryz.underlying3 (UV (by omega));by_cases hcF:c0<F
   ·have HHIT:=Lib.hid (HD.out.hit c0 hfix hcF);have HHAS:=Lib.hid (has_true_of_atKey HHIT.out);obtain ⟨P0,hP0⟩:∃P0,P0=pos ro c0:=⟨_,rfl⟩;have hP0m:P0<m:=by rw [hP0,HMM.out];exact QA hfix hcF
    have HP0:=Lib.hid hP0;have hPm:(P0:Int)<m:=by omega
    clear hP0;have c1:=HP3.out.cell hP0m (j:=1) (by omega);rw [Nat.mul_comm 3 P0] at c1
    go_upto_region 30 with (first
     | (at_lookup;refine wpList_lookup_own_ok_int _ rfl _ _ 136 rfl 3 3 .i64 iQ Tryz.underlying136 Tryz.underlying3 (aA _) mb n0 _ rfl hown _ _ rfl hkey ?_
        intro c hat hwc
        obtain rfl:c=(P0:Nat):=by
         rw [HHIT.out,←HP0.out] at hat;injection hat with hat;injection hat with _ hat;exact hat.symm
        rw [HHAS.out]
        clear hat hwc hown))
    clear HHIT HHAS;have how:=HP3.out.row (i:=2*P0+1) (by omega)
    have hrl:(rlB ro F x (2*P0+1)).length≤x:=by
     unfold rlB;rw [if_neg (by omega)];exact KV _ _ _
    obtain ⟨ln,hln⟩:∃ln,ln=(rlB ro F x (2*P0+1)).length:=⟨_,rfl⟩;rw [←hln] at how hrl;have HLN:=Lib.hid hln;clear hln;have hBs:B≤w2.heap.size:=by have:=HBW.out;have:=HS3.out;omega
    go_wp2_with (at_builtin;refine yX qY rfl _ _ rfl B (rvx (2*P0+1)) ln _ rfl w2.heap.size [.int .i64 (x:Int)] rfl rfl how rfl rfl ?h2 ?h3 ?h4 ?_)
    case h2=>omega
    case h3=>omega
    case h4=>exact hBs
    intro v1 w3 ho hg hd;obtain ⟨A1,cc1,rfl⟩:=jA ho;obtain ⟨z1,z2⟩:=HP3.out.app_cell (i:=2*P0+1) (by omega) hg hP0m (j:=1) (by omega);rw [Nat.mul_comm 3 P0] at z1 z2;have HO:=Lib.hid ho;have HG3:=Lib.hid hg;have HD3:=Lib.hid hd;clear ho hg hd how;go_wp2_with fail;have hlow:=HP3.out.app_low (i:=2*P0+1) (by omega) HG3.out hBs (p:=⟨g,P0*3+1,none⟩) HLT.out.2.2.2.2.1 (.slice A1 (ln+1) cc1)
    have HPF:=Lib.hid (show PartM (w3.setCell ⟨g,P0*3+1,none⟩ (.slice A1 (ln+1) cc1)) B (.slice (some ⟨g,0,none⟩) m cap) m (rlB ro F (x+1)) (fun _=>0) (fun i=>if i=2*P0+1 then .slice A1 (ln+1) cc1 else rvx i) by
     have h1:=HP3.out.app (k:=P0) (j:=1) (k0:=w2.heap.size+1) (x:=(x:Int)) hP0m (by omega) (by rw [←HLN.out];exact HO.out) HG3.out HD3.out (Nat.le_succ _);rw [Nat.mul_comm 3 P0] at h1;refine h1.congr (fun i hi=>?_) (fun _ _=>rfl);have hcc:ro (F+x)<F:=by rw [←HC0.out];exact hcF
     by_cases hi2:i=2*P0+1
     ·rw [if_pos hi2,hi2];unfold rlB;rw [if_neg (by omega),if_neg (by omega),show (2*P0+1)/2=P0 by omega,UH,if_pos ⟨hcc,by rw [←HC0.out,←HP0.out]⟩]
     ·rw [if_neg hi2];unfold rlB;by_cases h2:i%2=0
      ·rw [if_pos h2,if_pos h2]
      ·rw [if_neg h2,if_neg h2,UH,if_neg (fun h=>?_),List.append_nil];have h3:=h.2;rw [←HC0.out,←HP0.out] at h3
       omega)
    have HLOW:=Lib.hid hlow;have hz:=hlow.size;clear hlow
    go_roundg (N-(x+1))
    case measure=>rw [Hk.out];omega
    case rel=>exact ⟨x+1,_,by go_num,by omega,rfl,HPF.out,HW3.out.low HLOW.out HLT.out.2.1 HLT.out.1,uZ HM3.out HLOW.out HLT.out.2.2.1,YA HH3.out HLOW.out HLT.out.2.2.2.1,HB3.out.trans (HLOW.out.mono (by have:=HLT.out;have:=HBW.out;omega)),Nat.le_trans HS3.out hz⟩
   ·have HHAS:=Lib.hid (HD.out.miss c0 (fun h=>hcF h.2))
    go_upto_region 30 with (first
     | (at_lookup;refine wpList_lookup_own_ok_int _ rfl _ _ 136 rfl 3 3 .i64 iQ Tryz.underlying136 Tryz.underlying3 (aA _) mb n0 _ rfl hown _ _ rfl hkey ?_
        intro c hat hwc;rw [HHAS.out]
        clear hat hwc hown))
    go_wp2_with fail
    have HPF:=Lib.hid (HP3.out.congr (rl':=rlB ro F (x+1)) (an':=fun _=>0) (fun i _=>by
     have hn:¬(ro (F+x)<F∧pos ro (ro (F+x))=i/2):=fun h=>hcF (by rw [HC0.out];exact h.1);unfold rlB
     rw [UH,if_neg hn,List.append_nil]) (fun _ _=>rfl))
    go_roundg (N-(x+1))
    case measure=>rw [Hk.out];omega
    case rel=>exact ⟨x+1,rvx,by go_num,by omega,rfl,HPF.out,HW3.out,HM3.out,HH3.out,HB3.out,HS3.out⟩
  ·have hxe:x=N:=by omega
   have HF:=Lib.hid (show PartM wr B (.slice (some ⟨g,0,none⟩) m cap) m (rlB ro F N) (fun _=>0) rvx by
    have:=HP1.out;rw [hxe] at this
    exact this)
   have hlt':¬(x:Int)<N:=by omega
   clear hxe hlt hx
   go_upto_region 33 with fail
   exact sG g cap gw gl lcap F N mb n0 gh ch B m H ro R D rvx w wr b HBT.out HF.out HMM.out HW1.out HM1.out HD.out HH1.out ⟨HLT.out.1,HLT.out.2.1,HLT.out.2.2.1,HLT.out.2.2.2.1,HLT.out.2.2.2.2.1⟩ ⟨HNE.out.1,HNE.out.2.1⟩ HI.out HL.out hlen hHl HB1.out ⟨HBW.out.1,Nat.le_trans HBW.out.2 HS1.out⟩ _ _ _ _ _ _ _ _ _ _ _ _ _ _ _ _ _ _ _ _ _ _ _ _ _ _ _ _ _ _ _ _ _ _ _ _ _ _ _ _ _ _ _ _ _ _ _ _ _ _ _ _ _ _ _ _ _ _ _ _ _ _ _ _ _ _ _ _ _ _ _ _ _ _ _ _ _ _ _ _ _ _ _ _ _ _ _ _ _ _ _ _ _ _ _ _ _ _ _ _ _ _ _ _ _ _ _ _ _ _ _ _ _ _ _ _ _ _ _ _ _ _ _ _ _ _ _ _ _ _ _ _ _ _ _ _ _ _ _ _ _ _ _ _ _ _ _ _ _ _ _ _ _ _ _ _ _ _ _ _ _ _ _ _ (by assumption) _ (by assumption)
end Go.Proofs.YtneeknlhlkpnpaaGreat
/-
 forest.Parts: no faces: the vertices put to no parts. (Printed by partsgen.py.) Written by an AI agent.
-/
namespace Go.Proofs.YtneeknlhlkpnpaaGreat
open Go.RowKit Go.Maps
set_option maxRecDepth 100000 in
set_option maxHeartbeats 4000000 in
theorem rn(gb gw gl lcap F N mb n0 gh ch _B:Nat)(H:List zu)(ro:Nat→Nat)(R:Array Value)(D:DataW Unit)(w wc:World)(b:Bool)(hbt:b=true)(hF:F=0)(hH0:H.length=0)(hW:xA wc gw gl (F+N) lcap F R ro)(hM:wc.ownsMap Tryz.prog 3 (plainElem Tryz.prog 3) mb n0 D)(hD:PlaceD ro F D)(hG:wc.cell? ⟨gb,0,none⟩=some (.int .i64 N))(hlt:gl<wc.heap.size∧gb<wc.heap.size)(hne:mb≠gl∧gb≠gl)(hL:LeadP (F+N) ro)(hlen:F+N≤1000)(hB:Below w.heap.size w wc)(hBw:w.heap.size≤gl)(u0 u1 u3 u6 u8 u9 u11 u12 u13 u14 u15 u16 u17 u18 u19 u20 u21 u22 u23 u24 u25 u26 u27 u28 u29 u30 u31 u32 u33 u34 u35 u36 u37 u38 u39 u40 u41 u42 u43 u44 u45 u46 u47 u48 u49 u50 u51 u52 u53 u54 u55 u56 u57 u58 u59 u60 u61 u62 u63 u64 u65 u66 u67 u68 u69 u70 u71 u72 u73 u74 u75 u76 u77 u78 u79 u80 u81 u82 u83 u84 u85 u86 u87 u88 u89 u90 u91 u92 u93 u94 u95 u96 u97 u98 u99 u100 u101 u102 u103 u104 u105 u106 u107 u108 u109 u110 u111 u112 u113 u114 u115 u116 u117 u118 u119 u120 u121 u122 u123 u124 u125 u126 u127 u128 u129 u130 u131 u132 u133 u134 u135 u136 u137 u138 u139 u140 u141 u142 u143 u144 u145 u146 u147 u148 u149 u150 u151 u152 u153 u154 u155 u156 u157 u158 u159 u160 u161 u162 u163 u164 u165 u166:Value)(K:Act→World→Prop)(hK:∀a0 w0,Code.wp Tryz.prog (YR (vH 8 ((Tryz.f33.body).getD .skip))) (bodyPost Tryz.prog Tryz.f33 (vX b H ro F N w)) a0 w0→K a0 w0)(K4:Act→World→Prop)(hK4:∀a0 w0,Code.wp Tryz.prog (YR (uS (vH 8 ((Tryz.f33.body).getD .skip)))) (Exit.then K (bodyPost Tryz.prog Tryz.f33 (vX b H ro F N w))) a0 w0→K4 a0 w0):Code.wp Tryz.prog (uS (uS (vH 8 ((Tryz.f33.body).getD .skip)))) (Exit.then K4 (Exit.then K (bodyPost Tryz.prog Tryz.f33 (vX b H ro F N w)))) ⟨#[u0,u1,.pointer (some ⟨gb,0,none⟩),u3,.slice none 0 0,.pointer (some ⟨gw,0,none⟩),u6,.slice (some ⟨gh,0,none⟩) H.length ch,u8,u9,.map (some mb),u11,u12,u13,u14,u15,u16,u17,u18,u19,u20,u21,u22,u23,u24,u25,u26,u27,u28,u29,u30,u31,u32,u33,u34,u35,u36,u37,u38,u39,u40,u41,u42,u43,u44,u45,u46,u47,u48,u49,u50,u51,u52,u53,u54,u55,u56,u57,u58,u59,u60,u61,u62,u63,u64,u65,u66,u67,u68,u69,u70,u71,u72,u73,u74,u75,u76,u77,u78,u79,u80,u81,u82,u83,u84,u85,u86,u87,u88,u89,u90,u91,u92,u93,u94,u95,u96,u97,u98,u99,u100,u101,u102,u103,u104,u105,u106,u107,u108,u109,u110,u111,u112,u113,u114,u115,u116,u117,u118,u119,u120,u121,u122,u123,u124,u125,u126,u127,u128,u129,u130,u131,u132,u133,u134,u135,u136,u137,u138,u139,u140,u141,u142,u143,u144,u145,u146,u147,u148,u149,u150,u151,u152,u153,u154,u155,u156,u157,u158,u159,u160,u161,u162,u163,u164,u165,u166],[]⟩ wc:=by
 conv=>arg 2;whnf
 conv at hK=>intro a0 w0;arg 1;arg 2;whnf
 conv at hK4=>intro a0 w0;arg 1;arg 2;whnf
 have HF0:=Lib.hid hF;have HH0:=Lib.hid hH0;have HW:=Lib.hid hW;have HM:=Lib.hid hM;have HD:=Lib.hid hD;have HG:=Lib.hid hG;have HLT:=Lib.hid hlt;have HL:=Lib.hid hL;have HB:=Lib.hid hB;have HBT:=Lib.hid hbt;have HNE:=Lib.hid hne;have zG:=HG.out;clear hF hH0 hW hM hD hG hlt hL hB hbt hne;go_wp2_with fail;clear zG
 go_loopg [116] N (fun k s116 wr=>∃(x:Nat),s116 = .int .i64 x∧x≤N∧k=N-x∧xA wr gw gl (F+N) lcap F R ro∧wr.ownsMap Tryz.prog 3 (plainElem Tryz.prog 3) mb n0 D∧Below w.heap.size w wr)
 case atStart=>exact ⟨0,rfl,Nat.zero_le _,rfl,HW.out,HM.out,HB.out⟩
 case round=>
  obtain ⟨x,rfl,hx,hk,hW1,hM1,hB1⟩:=hrel;have Hk:=Lib.hid hk;have HW1:=Lib.hid hW1;have HM1:=Lib.hid hM1;have HB1:=Lib.hid hB1;clear hk hW1 hM1 hB1;by_cases hlt:x<N
  ·have hlt':(x:Int)<N:=by omega
   have hfl:F+x<F+N:=by omega
   have zF:=HW1.out.cellF;have HCA:=Lib.hid (show ((F:Int)+(x:Int))=((F+x:Nat):Int) by omega)
   go_upto_region 29 with fail
   go_wp2_with fail;rw [HCA.out];refine (uL gw gl (F+N) lcap F (F+x) R ro wr HW1.out hfl hlen).mono ?_;rintro e w2 ⟨rfl,hb2,hw2⟩
   have HM3:=Lib.hid (show w2.ownsMap Tryz.prog 3 (plainElem Tryz.prog 3) mb n0 D from HM1.out.kept hb2.grown (by
    intro e;injection e with e
    exact HNE.out.1 e))
   have HB3:=Lib.hid (show Below w.heap.size w w2 from HB1.out.trans (hb2.below HB1.out.size (by
    intro k hk;have h2:k=gl:=by simpa using hk
    omega)))
   have HW3:=Lib.hid hw2;clear hb2 hw2 HW1 HM1 HB1 zF HCA;have hro:ro (F+x)<F+N:=by have:=HL.out.le (F+x) hfl;omega
   obtain ⟨c0,hc0⟩:∃c0,c0=ro (F+x):=⟨_,rfl⟩;rw [←hc0] at hro;rw [←hc0];clear hc0;have hown:=HM3.out;have hkey:keyOf Tryz.prog 3 (.int .i64 (c0:Nat))=some (.int .i64 (c0:Nat)):=keyOf_int_mk Tryz.underlying3 (UV (by omega));have HHAS:=Lib.hid (HD.out.miss c0 (fun h=>by have:=HF0.out;omega))
   go_upto_region 30 with (first
    | (at_lookup;refine wpList_lookup_own_ok_int _ rfl _ _ 136 rfl 3 3 .i64 iQ Tryz.underlying136 Tryz.underlying3 (aA _) mb n0 _ rfl hown _ _ rfl hkey ?_
       intro c hat hwc;rw [HHAS.out]
       clear hat hwc hown))
   go_wp2_with fail
   go_roundg (N-(x+1))
   case measure=>rw [Hk.out];omega
   case rel=>exact ⟨x+1,by go_num,by omega,rfl,HW3.out,HM3.out,HB3.out⟩
  ·have hxe:x=N:=by omega
   have hlt':¬(x:Int)<N:=by omega
   clear hxe hlt hx;obtain ⟨w5,rfl⟩:∃y,y=wr:=⟨_,rfl⟩;have hl0:¬((0:Int)<(H.length:Int)):=by have:=HH0.out;omega
   go_wp2_with fail
   go_loopg [148] 0 (fun k s148 wr=>s148 = .int .i64 0∧w5=wr)
   case atStart=>exact ⟨rfl,rfl⟩
   case round=>
    obtain ⟨rfl,rfl⟩:=hrel
    have HF:=Lib.hid (show PartM w5 w.heap.size (.slice none 0 0) (pos ro F) (rlB ro F N) (cA ro H) (fun _=>.slice none 0 0) by
     have e:pos ro F=0:=by rw [HF0.out];rfl
     rw [e]
     exact PartM.zero _ _ _ _ _)
    go_wp2_with fail;go_ret;exact ⟨_,rfl,HB1.out,fun e=>(by rw [HBT.out] at e;cases e),fun _=>⟨_,HF.out⟩⟩
end Go.Proofs.YtneeknlhlkpnpaaGreat
/-
 forest.Parts: the faces put to their parts. (Printed by partsgen.py.) Written by an AI agent.
-/
namespace Go.Proofs.YtneeknlhlkpnpaaGreat
open Go.RowKit Go.Maps
theorem aq{g:Nat}{w w':World}(h:w.grownBy w' (some g)):But [g] w w':=⟨h.1,h.2,h.3,h.4,fun k hk hn=>h.5 k hk (by
 intro e;injection e with e
 exact hn (by simp [e]))⟩
theorem oA:uF Tryz.prog 67 70 (.agg #[.slice none 0 0,.slice none 0 0,.int .i64 0]) 3 56:=uF.mk' Tryz.underlying67 (by kernel_rfl) rfl (by omega)
set_option maxRecDepth 100000 in
set_option maxHeartbeats 4000000 in
theorem sI(gb gw gl lcap F N mb gh ch B:Nat)(H:List zu)(ro:Nat→Nat)(R:Array Value)(w wc:World)(b:Bool)(hbt:b=true)(hW:xA wc gw gl (F+N) lcap F R ro)(hM:wc.ownsMap Tryz.prog 3 (plainElem Tryz.prog 3) mb 0 (.map []:DataW Unit))(hH:jr wc wc.heap.size (some ⟨gh,0,none⟩) (jV H))(hG:wc.cell? ⟨gb,0,none⟩=some (.int .i64 N))(hlt:gl<B∧gw<B∧mb<B∧gh<B∧gb<B)(hne:mb≠gl∧gh≠gl∧gb≠gl∧gb≠mb∧gh≠mb∧gw≠mb)(hIn:InH F N H)(hL:LeadP (F+N) ro)(hlen:F+N≤1000)(hHl:H.length≤1000)(hB:Below w.heap.size w wc)(hBw:w.heap.size≤gl∧w.heap.size≤mb∧wc.heap.size=B)(u0 u1 u3 u6 u8 u9 u11 u12 u13 u14 u15 u16 u17 u18 u19 u20 u21 u22 u23 u24 u25 u26 u27 u28 u29 u30 u31 u32 u33 u34 u35 u36 u37 u38 u39 u40 u41 u42 u43 u44 u45 u46 u47 u48 u49 u50 u51 u52 u53 u54 u55 u56 u57 u58 u59 u60 u61 u62 u63 u64 u65 u66 u67 u68 u69 u70 u71 u72 u73 u74 u75 u76 u77 u78 u79 u80 u81 u82 u83 u84 u85 u86 u87 u88 u89 u90 u91 u92 u93 u94 u95 u96 u97 u98 u99 u100 u101 u102 u103 u104 u105 u106 u107 u108 u109 u110 u111 u112 u113 u114 u115 u116 u117 u118 u119 u120 u121 u122 u123 u124 u125 u126 u127 u128 u129 u130 u131 u132 u133 u134 u135 u136 u137 u138 u139 u140 u141 u142 u143 u144 u145 u146 u147 u148 u149 u150 u151 u152 u153 u154 u155 u156 u157 u158 u159 u160 u161 u162 u163 u164 u165 u166:Value)(K:Act→World→Prop)(hK:∀a0 w0,Code.wp Tryz.prog (YR (vH 7 ((Tryz.f33.body).getD .skip))) (bodyPost Tryz.prog Tryz.f33 (vX b H ro F N w)) a0 w0→K a0 w0)(K4:Act→World→Prop)(hK4:∀a0 w0,Code.wp Tryz.prog (YR (uS (vH 7 ((Tryz.f33.body).getD .skip)))) (Exit.then K (bodyPost Tryz.prog Tryz.f33 (vX b H ro F N w))) a0 w0→K4 a0 w0):Code.wp Tryz.prog (uS (uS (vH 7 ((Tryz.f33.body).getD .skip)))) (Exit.then K4 (Exit.then K (bodyPost Tryz.prog Tryz.f33 (vX b H ro F N w)))) ⟨#[u0,u1,.pointer (some ⟨gb,0,none⟩),u3,.slice none 0 0,.pointer (some ⟨gw,0,none⟩),u6,.slice (some ⟨gh,0,none⟩) H.length ch,u8,u9,.map (some mb),u11,u12,u13,u14,u15,u16,u17,u18,u19,u20,u21,u22,u23,u24,u25,u26,u27,u28,u29,u30,u31,u32,u33,u34,u35,u36,u37,u38,u39,u40,u41,u42,u43,u44,u45,u46,u47,u48,u49,u50,u51,u52,u53,u54,u55,u56,u57,u58,u59,u60,u61,u62,u63,u64,u65,u66,u67,u68,u69,u70,u71,u72,u73,u74,u75,u76,u77,u78,u79,u80,u81,u82,u83,u84,u85,u86,u87,u88,u89,u90,u91,u92,u93,u94,u95,u96,u97,u98,u99,u100,u101,u102,u103,u104,u105,u106,u107,u108,u109,u110,u111,u112,u113,u114,u115,u116,u117,u118,u119,u120,u121,u122,u123,u124,u125,u126,u127,u128,u129,u130,u131,u132,u133,u134,u135,u136,u137,u138,u139,u140,u141,u142,u143,u144,u145,u146,u147,u148,u149,u150,u151,u152,u153,u154,u155,u156,u157,u158,u159,u160,u161,u162,u163,u164,u165,u166],[]⟩ wc:=by
 conv=>arg 2;whnf
 conv at hK=>intro a0 w0;arg 1;arg 2;whnf
 conv at hK4=>intro a0 w0;arg 1;arg 2;whnf
 have HW:=Lib.hid hW;have HM:=Lib.hid hM;have HH:=Lib.hid hH;have HG:=Lib.hid hG;have HLT:=Lib.hid hlt;have HI:=Lib.hid hIn;have HL:=Lib.hid hL;have HB:=Lib.hid hB;have HBW:=Lib.hid hBw;have HBT:=Lib.hid hbt;have HNE:=Lib.hid hne;have zF:=HW.out.cellF;clear hne hW hM hH hG hlt hIn hL hB hBw hbt;go_wp2_with fail;clear zF
 go_loopg [4,77] F (fun k s4 s77 wr=>∃(f:Nat) (rv:Nat→Value) (D:DataW Unit),s77 = .int .i64 f∧f≤F∧k=F-f∧PartM wr B s4 (pos ro f) (rlA ro f) (fun _=>0) rv∧PlaceD ro f D∧xA wr gw gl (F+N) lcap F R ro∧wr.ownsMap Tryz.prog 3 (plainElem Tryz.prog 3) mb f D∧jr wr wr.heap.size (some ⟨gh,0,none⟩) (jV H)∧wr.cell? ⟨gb,0,none⟩=some (.int .i64 N)∧Below w.heap.size w wr∧wc.heap.size≤wr.heap.size∧(f=0→s4 = .slice none 0 0))
 case atStart=>exact ⟨0,fun _=>.slice none 0 0,_,rfl,Nat.zero_le _,rfl,PartM.zero _ _ _ _ _,PlaceD.zero ro,HW.out,HM.out,HH.out,HG.out,HB.out,Nat.le_refl _,fun _=>rfl⟩
 case round=>
  obtain ⟨f,rvx,D,rfl,hf,hk,hP1,hD1,hW1,hM1,hH1,hG1,hB1,hs1,hn1⟩:=hrel;have Hk:=Lib.hid hk;have HP1:=Lib.hid hP1;have HD1:=Lib.hid hD1;have HW1:=Lib.hid hW1;have HM1:=Lib.hid hM1;have HH1:=Lib.hid hH1;have HG1:=Lib.hid hG1;have HB1:=Lib.hid hB1;have HS1:=Lib.hid hs1;have HN1:=Lib.hid hn1;clear hk hP1 hD1 hW1 hM1 hH1 hG1 hB1 hs1 hn1;by_cases hlt:f<F
  ·have hlt':(f:Int)<F:=by omega
   have hfl:f<F+N:=by omega
   go_upto_region 19 with fail
   go_wp2_with fail;refine (uL gw gl (F+N) lcap F f R ro wr HW1.out hfl hlen).mono ?_;rintro e w2 ⟨rfl,hb2,hw2⟩
   have HBS:=Lib.hid (show ∀k∈[gl],k<B by
    intro k hk;have h1:=HLT.out;have h2:k=gl:=by simpa using hk
    omega)
   have HBV:=Lib.hid (show ∀k∈[gl],w.heap.size≤k by
    intro k hk;have h1:=HBW.out;have h2:k=gl:=by simpa using hk
    omega)
   have HP3:=Lib.hid (HP1.out.but hb2 HBS.out)
   have HM3:=Lib.hid (show w2.ownsMap Tryz.prog 3 (plainElem Tryz.prog 3) mb f D from HM1.out.kept hb2.grown (by
    intro e;injection e with e
    exact HNE.out.1 e))
   have HH3:=Lib.hid (show jr w2 w2.heap.size (some ⟨gh,0,none⟩) (jV H) from (kq hb2 HH1.out (by
    intro e
    exact HNE.out.2.1 (by simpa using e)) (Nat.le_refl _)).more hb2.size)
   have HG3:=Lib.hid (show w2.cell? ⟨gb,0,none⟩=some (.int .i64 N) from Ym hb2 HG1.out (by
    intro e
    exact HNE.out.2.2.1 (by simpa using e)) (by have:=HLT.out;have:=HBW.out;have:=HS1.out;omega))
   have HB3:=Lib.hid (show Below w.heap.size w w2 from HB1.out.trans (hb2.below HB1.out.size HBV.out));have HS3:=Lib.hid (Nat.le_trans HS1.out hb2.size);have HW3:=Lib.hid hw2;clear hb2 hw2 HP1 HW1 HM1 HH1 HB1 HS1 HG1;have hro:=HL.out.le f hfl;have hfix:=HL.out.fix f hfl;have hown:=HM3.out;obtain ⟨c0,hc0⟩:∃c0,c0=ro f:=⟨_,rfl⟩;rw [←hc0] at hro hfix;rw [←hc0];have HC0:=Lib.hid hc0;clear hc0;have hkey:keyOf Tryz.prog 3 (.int .i64 (c0:Nat))=some (.int .i64 (c0:Nat)):=keyOf_int_mk Tryz.underlying3 (UV (by omega));by_cases hcf:c0=f
   ·have hrf:ro f=f:=HC0.out.symm.trans hcf;have HHAS:=Lib.hid (HD1.out.miss c0 (fun h=>by omega));obtain ⟨P0,hm⟩:∃m,m=pos ro f:=⟨_,rfl⟩;have hmf:P0≤f:=by rw [hm];exact pc f
    have HP4:=Lib.hid (show PartM w2 B u4 P0 (rlA ro f) (fun _=>0) rvx from hm▸HP3.out);have HPM:=Lib.hid (show pos ro (f+1)=P0+1 by rw [dl,if_pos hrf,hm]);have HDF:=Lib.hid (show PlaceD ro (f+1) (D.put (.int .i64 (c0:Nat)) (.lit (.int .i64 (P0:Nat)))) by rw [hcf];exact HD1.out.put hrf (by rw [hm]));have HP0:=Lib.hid (show P0=pos ro c0 by rw [hcf,hm]);have HNEW:=Lib.hid (show ∀k,P0≤k→rlF ro f k=[] from fun k hk=>rh (fun y hy=>HL.out.le y (by omega)) (fun y hy=>HL.out.fix y (by omega)) (hm▸hk));clear hm hrf HP3 hcf;obtain ⟨A4,c4,rfl⟩:=jA HP4.out.own
    go_upto_region 22 with (first
     | (at_lookup;go_loud (refine wpList_lookup_own_ok_int _ rfl _ _ 136 rfl 3 3 .i64 iQ Tryz.underlying136 Tryz.underlying3 (aA _) mb f _ rfl hown _ _ rfl hkey ?_;intro c hat hwc;rw [HHAS.out];clear hat hwc hown)))
    clear HHAS;go_wp2_with fail;refine (uL gw gl (F+N) lcap F f R ro w2 HW3.out hfl hlen).mono ?_;rintro e w4 ⟨rfl,hb4,hw4⟩;have HP5:=Lib.hid (HP4.out.but hb4 HBS.out)
    have HM5:=Lib.hid (show w4.ownsMap Tryz.prog 3 (plainElem Tryz.prog 3) mb f D from HM3.out.kept hb4.grown (by
     intro e;injection e with e
     exact HNE.out.1 e))
    have HH5:=Lib.hid (show jr w4 w4.heap.size (some ⟨gh,0,none⟩) (jV H) from (kq hb4 HH3.out (by
     intro e
     exact HNE.out.2.1 (by simpa using e)) (Nat.le_refl _)).more hb4.size)
    have HG5:=Lib.hid (show w4.cell? ⟨gb,0,none⟩=some (.int .i64 N) from Ym hb4 HG3.out (by
     intro e
     exact HNE.out.2.2.1 (by simpa using e)) (by have:=HLT.out;have:=HBW.out;have:=HS3.out;omega))
    have HB5:=Lib.hid (show Below w.heap.size w w4 from HB3.out.trans (hb4.below HB3.out.size HBV.out));have HS5:=Lib.hid (Nat.le_trans HS3.out hb4.size);have HW5:=Lib.hid hw4;clear hb4 hw4 HP4 HW3 HM3 HH3 HB3 HS3 HG3;rw [←HC0.out];have hown2:=HM5.out
    go_upto_region 23 with (first
     | (at_mapUpdate;refine wpList_mapUpdate_own _ rfl _ _ _ 136 rfl 3 3 iQ Tryz.underlying136 _ mb f _ rfl hown2 (by unfold maxLen;omega) _ _ _ rfl rfl hkey _ [] (plainElem_int Tryz.underlying3 (UV (by omega))) ?_;intro w8 hown8 hgrow8;clear hown2))
    have hb8:=aq hgrow8
    have HMS:=Lib.hid (show ∀k∈[mb],k<B by
     intro k hk;have h1:=HLT.out;have h2:k=mb:=by simpa using hk
     omega)
    have HMV:=Lib.hid (show ∀k∈[mb],w.heap.size≤k by
     intro k hk;have h1:=HBW.out;have h2:k=mb:=by simpa using hk
     omega)
    have HP6:=Lib.hid (HP5.out.but hb8 HMS.out);have HM6:=Lib.hid hown8
    have HH6:=Lib.hid (show jr w8 w8.heap.size (some ⟨gh,0,none⟩) (jV H) from (kq hb8 HH5.out (by
     intro e
     exact HNE.out.2.2.2.2.1 (by simpa using e)) (Nat.le_refl _)).more hb8.size)
    have HG6:=Lib.hid (show w8.cell? ⟨gb,0,none⟩=some (.int .i64 N) from Ym hb8 HG5.out (by
     intro e
     exact HNE.out.2.2.2.1 (by simpa using e)) (by have:=HLT.out;have:=HBW.out;have:=HS5.out;omega))
    have HB6:=Lib.hid (show Below w.heap.size w w8 from HB5.out.trans (hb8.below HB5.out.size HMV.out));have HS6:=Lib.hid (Nat.le_trans HS5.out hb8.size)
    have HW6:=Lib.hid (HW5.out.but hb8 (by
     intro e;exact HNE.out.2.2.2.2.2 (by simpa using e)) (by
     intro e;have:gl=mb:=by simpa using e
     exact HNE.out.1 this.symm))
    have hB8:B≤w8.heap.size:=by have:=HBW.out;have:=HS6.out;omega
    have how8:=HP6.out.own;clear hb8 hown8 hgrow8 HP5 HW5 HM5 HH5 HB5 HS5 HG5;go_wp2_with (at_builtin;refine yX oA rfl _ _ rfl B (.slice A4 P0 c4) P0 _ rfl w8.heap.size [.slice none 0 0,.slice none 0 0,.int .i64 0] rfl rfl how8 rfl rfl ?m2 ?m3 ?m4 ?_)
    case m2=>omega
    case m3=>omega
    case m4=>exact hB8
    intro v1 w9 ho hg hd;have hev:=(Evo.of_grown (T:=[70]) (B:=B) how8 hg (by simp) (Nat.le_refl _)).below hB8;obtain ⟨rvy,hrvy⟩:∃r:Nat→Value,r=fun i=>if i<2*P0 then rvx i else .slice none 0 0:=⟨_,rfl⟩
    have HP9:=Lib.hid (show PartM w9 B v1 (P0+1) (rlA ro f) (fun _=>0) rvy by
     rw [hrvy];refine (HP6.out.snoc ho hg).congr (fun i _=>?_) (fun k _=>?_)
     ·by_cases hi:i<2*P0
      ·rw [if_pos hi]
      ·rw [if_neg hi];unfold rlA;by_cases h2:i%2=0
       ·rw [if_pos h2,HNEW.out _ (by omega)]
       ·rw [if_neg h2]
     ·by_cases hk:k<P0
      ·rw [if_pos hk]
      ·rw [if_neg hk])
    have HM9:=Lib.hid (uZ HM6.out hev HLT.out.2.2.1);have HH9:=Lib.hid (YA HH6.out hev HLT.out.2.2.2.1);have HG9:=Lib.hid ((hev.cell (p:=⟨gb,0,none⟩) HLT.out.2.2.2.2).trans HG6.out);have HB9:=Lib.hid (HB6.out.trans (hev.mono (by have:=HLT.out;have:=HBW.out;omega)));have HS9:=Lib.hid (Nat.le_trans HS6.out hev.size);have HW9:=Lib.hid (HW6.out.low hev HLT.out.2.1 HLT.out.1);clear ho hg hd hev hrvy how8 HP6 HM6 HH6 HG6 HB6 HS6 HW6;obtain ⟨g,cap,hv,hBg⟩:=HP9.out.form (by omega);subst hv;have hP0m:P0<P0+1:=by omega
    have hPm:(P0:Int)<((P0+1:Nat):Int):=by omega
    have c1:=HP9.out.cell hP0m (j:=0) (by omega);rw [Nat.mul_comm 3 P0] at c1;simp only [Nat.add_zero] at c1
    go_upto_region 24 with fail
    have how:=HP9.out.row (i:=2*P0+0) (by omega);simp only [Nat.add_zero] at how
    have hrl:(rlA ro f (2*P0)).length≤f:=by
     unfold rlA;rw [if_pos (by omega)];exact Qe _ _
    obtain ⟨ln,hln⟩:∃ln,ln=(rlA ro f (2*P0)).length:=⟨_,rfl⟩;rw [←hln] at how hrl;have HLN:=Lib.hid hln;clear hln;have hBs:B≤w9.heap.size:=by have:=HBW.out;have:=HS9.out;omega
    go_wp2_with (at_builtin;refine yX qY rfl _ _ rfl B (rvy (2*P0)) ln _ rfl w9.heap.size [.int .i64 (f:Int)] rfl rfl how rfl rfl ?k2 ?k3 ?k4 ?_)
    case k2=>omega
    case k3=>omega
    case k4=>exact hBs
    intro v1 w10 ho hg hd;obtain ⟨A1,cc1,rfl⟩:=jA ho;obtain ⟨z1,z2⟩:=HP9.out.app_cell (i:=2*P0) (by omega) hg hP0m (j:=0) (by omega);rw [Nat.mul_comm 3 P0] at z1 z2;simp only [Nat.add_zero] at z1 z2;have HO:=Lib.hid ho;have HG4:=Lib.hid hg;have HD4:=Lib.hid hd;clear ho hg hd how;go_wp2_with fail;have hlow:=HP9.out.app_low (i:=2*P0) (by omega) HG4.out hBs (p:=⟨g,P0*3,none⟩) hBg (.slice A1 (ln+1) cc1)
    have HPF:=Lib.hid (show PartM (w10.setCell ⟨g,P0*3,none⟩ (.slice A1 (ln+1) cc1)) B (.slice (some ⟨g,0,none⟩) (P0+1) cap) (pos ro (f+1)) (rlA ro (f+1)) (fun _=>0) (fun i=>if i=2*P0+0 then .slice A1 (ln+1) cc1 else rvy i) by
     have h1:=HP9.out.app (k:=P0) (j:=0) (k0:=w9.heap.size+1) (x:=(f:Int)) hP0m (by omega) (by simp only [Nat.add_zero];rw [←HLN.out];exact HO.out) HG4.out HD4.out (Nat.le_succ _);rw [Nat.mul_comm 3 P0] at h1;rw [HPM.out];refine PartM.congr h1 (fun i hi=>?_) (fun _ _=>rfl);by_cases hi2:i=2*P0+0
     ·rw [if_pos hi2,hi2];unfold rlA;rw [if_pos (by omega),if_pos (by omega),show (2*P0+0)/2=P0 by omega,Vm,if_pos (by rw [←HC0.out,←HP0.out])]
     ·rw [if_neg hi2];unfold rlA;by_cases h2:i%2=0
      ·rw [if_pos h2,if_pos h2,Vm,if_neg (fun h=>?_),List.append_nil];rw [←HC0.out,←HP0.out] at h;omega
      ·rw [if_neg h2,if_neg h2])
    have HLOW:=Lib.hid hlow;have hz:=hlow.size;clear hlow
    go_roundg (F-(f+1))
    case measure=>rw [Hk.out];omega
    case rel=>exact ⟨f+1,_,_,by go_num,by omega,rfl,HPF.out,HDF.out,HW9.out.low HLOW.out HLT.out.2.1 HLT.out.1,uZ HM9.out HLOW.out HLT.out.2.2.1,YA HH9.out HLOW.out HLT.out.2.2.2.1,(HLOW.out.cell (p:=⟨gb,0,none⟩) HLT.out.2.2.2.2).trans HG9.out,HB9.out.trans (HLOW.out.mono (by have:=HLT.out;have:=HBW.out;omega)),Nat.le_trans HS9.out hz,fun e=>absurd e (Nat.succ_ne_zero _)⟩
   ·have hcF:c0<f:=by omega
    have HHIT:=Lib.hid (HD1.out.hit c0 hfix hcF);have HHAS:=Lib.hid (has_true_of_atKey HHIT.out);obtain ⟨P0,hP0⟩:∃P0,P0=pos ro c0:=⟨_,rfl⟩;obtain ⟨m,hm⟩:∃m,m=pos ro f:=⟨_,rfl⟩;have hP0m:P0<m:=by rw [hP0,hm];exact QA hfix hcF
    have HP4:=Lib.hid (show PartM w2 B u4 m (rlA ro f) (fun _=>0) rvx from hm▸HP3.out);have HPM:=Lib.hid (show pos ro (f+1)=m by rw [dl,if_neg (fun e=>hcf (HC0.out.trans e)),hm];rfl);have HP0:=Lib.hid hP0;have hPm:(P0:Int)<m:=by omega
    clear hP0 hm HP3;obtain ⟨g,cap,hv,hBg⟩:=HP4.out.form (by omega);subst hv;have c1:=HP4.out.cell hP0m (j:=0) (by omega);rw [Nat.mul_comm 3 P0] at c1;simp only [Nat.add_zero] at c1
    go_upto_region 24 with (first
     | (at_lookup;refine wpList_lookup_own_ok_int _ rfl _ _ 136 rfl 3 3 .i64 iQ Tryz.underlying136 Tryz.underlying3 (aA _) mb f _ rfl hown _ _ rfl hkey ?_
        intro c hat hwc
        obtain rfl:c=(P0:Nat):=by
         rw [HHIT.out,←HP0.out] at hat;injection hat with hat;injection hat with _ hat;exact hat.symm
        rw [HHAS.out]
        clear hat hwc hown))
    clear HHIT HHAS;have how:=HP4.out.row (i:=2*P0+0) (by omega);simp only [Nat.add_zero] at how
    have hrl:(rlA ro f (2*P0)).length≤f:=by
     unfold rlA;rw [if_pos (by omega)];exact Qe _ _
    obtain ⟨ln,hln⟩:∃ln,ln=(rlA ro f (2*P0)).length:=⟨_,rfl⟩;rw [←hln] at how hrl;have HLN:=Lib.hid hln;clear hln;have hBs:B≤w2.heap.size:=by have:=HBW.out;have:=HS3.out;omega
    go_wp2_with (at_builtin;refine yX qY rfl _ _ rfl B (rvx (2*P0)) ln _ rfl w2.heap.size [.int .i64 (f:Int)] rfl rfl how rfl rfl ?h2 ?h3 ?h4 ?_)
    case h2=>omega
    case h3=>omega
    case h4=>exact hBs
    intro v1 w3 ho hg hd;obtain ⟨A1,cc1,rfl⟩:=jA ho;obtain ⟨z1,z2⟩:=HP4.out.app_cell (i:=2*P0) (by omega) hg hP0m (j:=0) (by omega);rw [Nat.mul_comm 3 P0] at z1 z2;simp only [Nat.add_zero] at z1 z2;have HO:=Lib.hid ho;have HG4:=Lib.hid hg;have HD4:=Lib.hid hd;clear ho hg hd how;go_wp2_with fail;have hlow:=HP4.out.app_low (i:=2*P0) (by omega) HG4.out hBs (p:=⟨g,P0*3,none⟩) hBg (.slice A1 (ln+1) cc1)
    have HPF:=Lib.hid (show PartM (w3.setCell ⟨g,P0*3,none⟩ (.slice A1 (ln+1) cc1)) B (.slice (some ⟨g,0,none⟩) m cap) (pos ro (f+1)) (rlA ro (f+1)) (fun _=>0) (fun i=>if i=2*P0+0 then .slice A1 (ln+1) cc1 else rvx i) by
     have h1:=HP4.out.app (k:=P0) (j:=0) (k0:=w2.heap.size+1) (x:=(f:Int)) hP0m (by omega) (by simp only [Nat.add_zero];rw [←HLN.out];exact HO.out) HG4.out HD4.out (Nat.le_succ _);rw [Nat.mul_comm 3 P0] at h1;rw [HPM.out];refine PartM.congr h1 (fun i hi=>?_) (fun _ _=>rfl);by_cases hi2:i=2*P0+0
     ·rw [if_pos hi2,hi2];unfold rlA;rw [if_pos (by omega),if_pos (by omega),show (2*P0+0)/2=P0 by omega,Vm,if_pos (by rw [←HC0.out,←HP0.out])]
     ·rw [if_neg hi2];unfold rlA;by_cases h2:i%2=0
      ·rw [if_pos h2,if_pos h2,Vm,if_neg (fun h=>?_),List.append_nil];rw [←HC0.out,←HP0.out] at h;omega
      ·rw [if_neg h2,if_neg h2])
    have HLOW:=Lib.hid hlow;have hz:=hlow.size;have HDF:=Lib.hid (HD1.out.same (fun e=>hcf (HC0.out.trans e)));clear hlow
    go_roundg (F-(f+1))
    case measure=>rw [Hk.out];omega
    case rel=>exact ⟨f+1,_,D,by go_num,by omega,rfl,HPF.out,HDF.out,HW3.out.low HLOW.out HLT.out.2.1 HLT.out.1,(uZ HM3.out HLOW.out HLT.out.2.2.1).mono (Nat.le_succ _),YA HH3.out HLOW.out HLT.out.2.2.2.1,(HLOW.out.cell (p:=⟨gb,0,none⟩) HLT.out.2.2.2.2).trans HG3.out,HB3.out.trans (HLOW.out.mono (by have:=HLT.out;have:=HBW.out;omega)),Nat.le_trans HS3.out hz,fun e=>absurd e (Nat.succ_ne_zero _)⟩
  ·have hfe:f=F:=by omega
   by_cases hF:0<F
   ·have hpos:0<pos ro F:=by
     have h0:ro 0=0:=by have:=HL.out.le 0 (by omega);omega
     exact Nat.lt_of_le_of_lt (Nat.zero_le _) (QA h0 hF)
    subst hfe;obtain ⟨g,cap,hv,hBg⟩:=HP1.out.form hpos;subst hv
    have HF:=Lib.hid (HP1.out.congr (rl':=rlB ro f 0) (fun i _=>by
     unfold rlA rlB;by_cases h2:i%2=0
     ·rw [if_pos h2,if_pos h2]
     ·rw [if_neg h2,if_neg h2];rfl) (fun _ _=>rfl))
    have hlt':¬(f:Int)<f:=by omega
    clear hlt hf
    go_upto_region 26 with fail
    exact sH g cap gb gw gl lcap f N mb f gh ch B _ H ro R D rvx w wr b HBT.out HF.out rfl HW1.out HM1.out HD1.out HH1.out HG1.out ⟨HLT.out.1,HLT.out.2.1,HLT.out.2.2.1,HLT.out.2.2.2.1,hBg,HLT.out.2.2.2.2⟩ ⟨HNE.out.1,HNE.out.2.1,HNE.out.2.2.1⟩ HI.out HL.out hlen hHl HB1.out ⟨HBW.out.1,by have:=HBW.out;have:=HS1.out;omega⟩ _ _ _ _ _ _ _ _ _ _ _ _ _ _ _ _ _ _ _ _ _ _ _ _ _ _ _ _ _ _ _ _ _ _ _ _ _ _ _ _ _ _ _ _ _ _ _ _ _ _ _ _ _ _ _ _ _ _ _ _ _ _ _ _ _ _ _ _ _ _ _ _ _ _ _ _ _ _ _ _ _ _ _ _ _ _ _ _ _ _ _ _ _ _ _ _ _ _ _ _ _ _ _ _ _ _ _ _ _ _ _ _ _ _ _ _ _ _ _ _ _ _ _ _ _ _ _ _ _ _ _ _ _ _ _ _ _ _ _ _ _ _ _ _ _ _ _ _ _ _ _ _ _ _ _ _ _ _ _ _ _ _ _ (by assumption) _ (by assumption)
   ·have hF0:F=0:=by omega
    subst hfe;have hv:=HN1.out hF0;subst hv
    have HH0:=Lib.hid (show H.length=0 by
     cases hH:H with
     | nil=>rfl
     | cons q K=>
      have:=(HI.out q (by rw [hH];simp)).1
      omega)
    have HF0:=Lib.hid hF0;have hlt':¬(f:Int)<f:=by omega
    clear hlt hf hF0 hF
    go_upto_region 26 with fail
    exact rn gb gw gl lcap f N mb f gh ch B H ro R D w wr b HBT.out HF0.out HH0.out HW1.out HM1.out HD1.out HG1.out (by have:=HLT.out;have:=HBW.out;have:=HS1.out;omega) ⟨HNE.out.1,HNE.out.2.2.1⟩ HL.out hlen HB1.out HBW.out.1 _ _ _ _ _ _ _ _ _ _ _ _ _ _ _ _ _ _ _ _ _ _ _ _ _ _ _ _ _ _ _ _ _ _ _ _ _ _ _ _ _ _ _ _ _ _ _ _ _ _ _ _ _ _ _ _ _ _ _ _ _ _ _ _ _ _ _ _ _ _ _ _ _ _ _ _ _ _ _ _ _ _ _ _ _ _ _ _ _ _ _ _ _ _ _ _ _ _ _ _ _ _ _ _ _ _ _ _ _ _ _ _ _ _ _ _ _ _ _ _ _ _ _ _ _ _ _ _ _ _ _ _ _ _ _ _ _ _ _ _ _ _ _ _ _ _ _ _ _ _ _ _ _ _ _ _ _ _ _ _ _ _ _ (by assumption) _ (by assumption)
end Go.Proofs.YtneeknlhlkpnpaaGreat
