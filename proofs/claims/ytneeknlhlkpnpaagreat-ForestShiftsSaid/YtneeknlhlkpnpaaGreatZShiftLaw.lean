import Derived.Test.YtneeknlhlkpnpaaGreatZBack6
import Derived.Test.YtneeknlhlkpnpaaGreatZBackM
import Derived.Test.YtneeknlhlkpnpaaGreatZWeb
import Derived.Test.YtneeknlhlkpnpaaGreatZPts1
import Derived.BigQuiet
/-
 The law ForestShifts, walked. (Printed by shiftgen.py.) Written by an AI agent.
-/
namespace Go.Proofs.YtneeknlhlkpnpaaGreat
open Go.RowKit
set_option maxRecDepth 20000 in
set_option maxHeartbeats 8000000 in
theorem Hj(n:Int)(A O U:Option Addr)(cap co cu:Nat)(es:List (Int×Int))(ord:List Int)(outs:List (List Int))(sh:Int)(w:World)(hes:jr w w.heap.size A (jD es))(hcap:es.length≤cap)(hO:jr w w.heap.size O (jf ord))(hU:xe w w.heap.size U outs) :
  Calls Tryz.prog 3 #[.agg #[.int .i64 n,.slice A es.length cap],.agg #[.slice O ord.length co,.slice U outs.length cu],.int .i64 sh] w (fun e w'=>e = .returned (.bool true)∧Below w.heap.size w w'):=by
 obtain ⟨wb,hwb⟩:∃wb,wb=w.alloc (.cells #[.int .i64 n,.slice A es.length cap] 24):=⟨_,rfl⟩;have hb0:Below w.heap.size w wb:=by rw [hwb];exact (Below.refl _ _).alloc (Nat.le_refl _) _
 have hz0:wb.heap.size=w.heap.size+1:=by rw [hwb];simp
 have hGB:Blk wb w.heap.size 24 #[.int .i64 n,.slice A es.length cap]:=by rw [hwb];exact Blk.new _ _ _
 have S1:=Lib.hid (PlanS.start (w:=wb) co cu ((hO.below hb0).more hb0.size) ((hU.at_.below hb0).more hb0.size));have HES0:=Lib.hid ((hes.below hb0).more hb0.size);have HUC:=Lib.hid hU;have HGB0:=Lib.hid hGB;have HB0:=Lib.hid hb0;have HCAP:=Lib.hid hcap;clear hes hO hU hGB hb0 hcap
 go_enter Tryz.func3,Tryz.ntmps3
 go_upto_region 1 with fail
 rw [←hwb];obtain ⟨gG,hgG⟩:∃g,g=w.heap.size:=⟨_,rfl⟩;obtain ⟨gP,hgP⟩:∃g,g=wb.heap.size:=⟨_,rfl⟩;rw [←hgP] at S1;rw [←hgG] at HGB0;have hb1:=S1.out.bel;have HGB1:=Lib.hid (HGB0.out.below hb1 HGB0.out.lt);have HES1:=Lib.hid ((HES0.out.below hb1).more hb1.size)
 try rw [show w.heap.size+1=gP by omega]
 try rw [←hgP]
 rw [←hgG];obtain ⟨w1,hw1⟩:∃w1,w1=wb.alloc (.cells #[.slice O ord.length co,.slice U outs.length cu] 28):=⟨_,rfl⟩;rw [←hw1] at S1 HGB1 HES1 hb1 ⊢;have HB1:=Lib.hid (HB0.out.trans (hb1.mono HB0.out.size))
 have HK:=Lib.hid (show ∀wr,Below w1.heap.size w1 wr→wr.cell? ⟨gG,0,none⟩=some (.int .i64 n)∧wr.cell? ⟨gG,1,none⟩=some (.slice A es.length cap)∧wr.cell? ⟨gP,0,none⟩=some (.slice O ord.length co)∧wr.cell? ⟨gP,1,none⟩=some (.slice U outs.length cu)∧jr wr wr.heap.size A (jD es)∧jr wr wr.heap.size O (jf ord)∧xe wr w.heap.size U outs∧Below w.heap.size w wr from fun wr hb=>by
  have k0:=(HGB1.out.below hb HGB1.out.lt).cell 0;have k1:=(HGB1.out.below hb HGB1.out.lt).cell 1;have k2:=(S1.out.b.below hb S1.out.b.lt).cell 0;have k3:=(S1.out.b.below hb S1.out.b.lt).cell 1;simp only [List.getElem?_toArray,List.getElem?_cons_zero,List.getElem?_cons_succ] at k0 k1 k2 k3;have hww:=HB1.out.trans (hb.mono HB1.out.size)
  exact ⟨k0,k1,k2,k3,(HES1.out.below hb).more hb.size,(S1.out.o.below hb).more hb.size,HUC.out.below hww,hww⟩)
 have hgb:gG<w1.heap.size:=HGB1.out.lt;have hpb:gP<w1.heap.size:=S1.out.b.lt;have HGP:=Lib.hid (And.intro hgb hpb);clear hw1 hwb hgG hgP hz0 hb1 hgb hpb;go_wp2_with fail;refine (Hi w1).mono ?_;rintro e w2 ⟨rfl,hb2⟩;have HB2:=Lib.hid hb2;obtain ⟨g0,g1,p0,p1,hE2,hO2,hU2,hW2⟩:=HK.out w2 hb2;have HW2:=Lib.hid hW2;have HU2:=Lib.hid (hU2.at_.more hW2.size);clear hb2 hE2 hO2 hU2 hW2;go_wp2_with fail;refine (cD n A O U cap co cu es ord outs w2 HU2.out).mono ?_;rintro e w3 ⟨b,rfl,hb3,hg⟩;have HB3:=Lib.hid (HB2.out.trans (hb3.mono HB2.out.size));clear hb3 g0 g1 p0 p1;obtain ⟨g0,g1,p0,p1,hE3,hO3,hU3,hW3⟩:=HK.out w3 HB3.out;have HE3:=Lib.hid hE3;have HO3:=Lib.hid hO3;have HU3:=Lib.hid (hU3.at_.more hW3.size);have HW3:=Lib.hid hW3;clear hE3 hO3 hU3 hW3
 cases b with
 | true=>
  clear hg;go_wp2_with fail;go_ret;exact ⟨rfl,HW3.out⟩
 | false=>
 obtain ⟨hm,hord,houl,hol⟩:=hg rfl;have HOL:=Lib.hid (show ∀l∈outs,l.length≤1000 from fun l hl=>by have:=hol l hl;omega);clear hg hol;by_cases hn24:n≤24
 case neg=>
  have hn1:(24:Int)<n:=by omega
  clear hn24;go_wp2_with fail;go_ret;exact ⟨rfl,HW3.out⟩
 by_cases he40:es.length≤40
 case neg=>
  have hn1:¬(24:Int)<n:=by omega
  have he1:(40:Int)<es.length:=by omega
  clear hn24 he40;go_wp2_with fail;go_ret;exact ⟨rfl,HW3.out⟩
 by_cases hz:es.length=0
 case pos=>
  have hn1:¬(24:Int)<n:=by omega
  have he1:¬(40:Int)<es.length:=by omega
  have hz1:((es.length:Int)==0)=true:=by rw [beq_iff_eq];omega
  clear hn24 he40 hz;go_wp2_with fail;go_ret;exact ⟨rfl,HW3.out⟩
 have hn1:¬(24:Int)<n:=by omega
 have he1:¬(40:Int)<es.length:=by omega
 have hz1:((es.length:Int)==0)=false:=by rw [beq_eq_false_iff_ne];omega
 go_wp2_with fail;refine (da n A O U cap co cu es ord outs w3 HE3.out HCAP.out HO3.out HU3.out (by omega) HOL.out).mono ?_;rintro e w4 ⟨hb4,hc4⟩;have HC4:=Lib.hid hc4;have HB4:=Lib.hid (HB3.out.trans (hb4.mono HB3.out.size));clear hb4 hc4 g0 g1 p0 p1 hn1 he1 hz1;obtain ⟨g0,g1,_,_,hE4,_,_,hW4⟩:=HK.out w4 HB4.out;have HE4:=Lib.hid hE4;have HW4:=Lib.hid hW4;clear hE4 hW4;rcases HC4.out with ⟨en,C,c,hgd,hrun,rfl,hrw⟩ | ⟨hno,rfl⟩
 case inr=>
  clear HC4 hno;go_wp2_with fail;go_ret;exact ⟨rfl,HW4.out⟩
 obtain ⟨N,rfl⟩:∃N:Nat,n=(N:Int):=⟨n.toNat,by have:=(qv hgd.may).1;omega⟩;rw [Int.toNat_natCast] at hrun hrw HC4 ⊢;obtain ⟨pl,rF,s,hPl⟩:=UF hgd hrun;have hN64:N≤64:=by have:=(qv hgd.may).2.1;omega
 rw [hPl.wrapped] at hrw;obtain ⟨rs,hrs⟩:∃rs,rs=jQ N outs en:=⟨_,rfl⟩;rw [←hrs] at hrw;have HPL:=Lib.hid hPl;have HRS:=Lib.hid hrs;have HRL:=Lib.hid (show rs.length=N by rw [hrs,qh]);have HRW:=Lib.hid hrw;have HGD:=Lib.hid hgd;have HRR:=Lib.hid (show RightP N es rs by rw [hrs];exact hPl.right);have HR2:=Lib.hid (show ∀l∈rs,l.length≤1000 from fun l hl=>by have:=XR HRR.out l hl;omega);have HFA:=Lib.hid (show zn N es rs=true by rw [hrs];exact hPl.fask);have hpos:=hPl.srcPos (by omega);have HSP:=Lib.hid hpos;have HSN:=Lib.hid hPl.sN;have HBA:=Lib.hid hPl.bare;clear hPl hrs hrw hgd hrun HC4 hpos;have hASK:=lH N A C cap c es rs w4 HE4.out HRW.out.at_ (by rw [HRL.out];omega) HR2.out;rw [HRL.out,HFA.out] at hASK;have HASK:=Lib.hid hASK;clear hASK;go_wp2_with fail;refine HASK.out.mono ?_;rintro e w5 ⟨rfl,hb5⟩;have HB5:=Lib.hid (HB4.out.trans (hb5.mono HB4.out.size));have HB45:=Lib.hid hb5;clear hb5 g0 g1 HASK;obtain ⟨g0,g1,p0,p1,hE5,_,_,_⟩:=HK.out w5 HB5.out;have HE5:=Lib.hid hE5;clear hE5 p0 p1;go_wp2_with fail;refine (XT N A cap es true w5 HE5.out (by omega) (by omega)).mono ?_;rintro e w6 ⟨v6,rfl,hb6,ho6⟩;obtain ⟨A6,c6,rfl⟩:=jA ho6;obtain ⟨bt,hbt⟩:=HBA.out;have hC6:=jr.of_own ho6;rw [if_pos rfl,hbt] at hC6;rw [if_pos rfl,hbt];obtain ⟨b6,o6,rfl,hb6',hc6⟩:=hC6.ints (by simp);have c0:=hc6 0 (by simp);simp only [List.getElem_cons_zero,Nat.add_zero,List.length_cons] at c0 ⊢;have HB6:=Lib.hid (HB5.out.trans (hb6.mono HB5.out.size));have HB46:=Lib.hid (HB45.out.trans (hb6.mono HB45.out.size));clear hb6 ho6 hC6 hc6 g0 g1 hbt HBA;obtain ⟨g0,g1,p0,p1,_,_,hU6,hW6⟩:=HK.out w6 HB6.out;have HW6:=Lib.hid hW6;clear hW6;obtain ⟨bu,ou,rfl,hbu,hcu⟩:=hU6 (by rw [HPL.out.outl];have:=HSN.out;omega);have hso:s<outs.length:=by rw [HPL.out.outl];exact HSN.out
 obtain ⟨Ai,ci,d0,hCi,hci⟩:=hcu s hso;have hsi:(s:Int)<outs.length:=by omega
 have HLE:=Lib.hid (show outs.getD s []=outs[s] from zM hso);have hll:=HOL.out _ (List.getElem_mem hso);have hl0:0<outs[s].length:=by rw [←HLE.out];exact HSP.out
 have hl0':¬(outs[s].length:Int)=0:=by omega
 have hlen:(0:Int)<((bt.length+1:Nat):Int):=by omega
 clear hcu hU6;generalize hol:outs[s]=l at *;obtain ⟨bi,oi,rfl,hbi,hcl⟩:=hCi.ints hl0;have HCL:=Lib.hid hCi;obtain ⟨k,hk⟩:∃k,k=(bits .and .i64 sh 65535).toNat%l.length:=⟨_,rfl⟩;have hmk:=sW sh
 have hmd:Int.tmod (bits .and .i64 sh 65535) l.length=(k:Int):=by
  rw [Int.tmod_eq_emod_of_nonneg hmk.1,hk];generalize bits .and .i64 sh 65535=m at *;obtain ⟨m',rfl⟩:=Int.eq_ofNat_of_zero_le hmk.1;rw [Int.toNat_natCast];rfl
 have hkl:k<l.length:=by rw [hk];exact Nat.mod_lt _ hl0
 clear hk hCi hcl
 go_upto_region 13 with fail
 have hkl':(k:Int)≤l.length:=by omega
 have hki:(k:Int)≤ci:=by omega
 have hk0:(0:Int)≤k:=by omega
 have hcap1:=HOL.out
 refine R6.wp_region_b w6.heap.size b6 [0,0,0,0,0,0,0,0,1,0]
  [([],.fresh 3),([],.val (.slice (some ⟨bi,oi,none⟩) l.length ci)),([],.val (.int .i64 (k:Nat))),([1,2],.sl w6 (l.length-k) (jf (l.drop k))),([0,3],.own w6.heap.size 3 1 (l.length-k) (jf (l.drop k)) hb6'),([],.val (.slice (some ⟨bi,oi,none⟩) l.length ci)),([],.val (.int .i64 (k:Nat))),([5,6],.sl w6 k (jf (l.take k))),([4,7],.own w6.heap.size 3 1 l.length (jf (rot l k)) hb6'),([8],.own w6.heap.size 3 1 l.length (jf (rot l k)) hb6')] [9] (by kernel_rfl) (by kernel_rfl) (fun us=>?_) ?_
 ·
  refine R3.pgo_val _ rfl rfl (fun wv hw hu=>?_) ?_
  ·have tok:=True.intro;have hB:w6.heap.size≤wv.heap.size:=hw.size;refine ⟨.slice (some ⟨wv.heap.size,0,none⟩) 0 0,wv.alloc (.cells #[] 3),?_,Far.of_below0 ((Below.refl _ _).alloc (Nat.le_refl _) _),wv.heap.size,rfl,hB,Blk.new _ _ _⟩;clear hw hu hB;go_simp
  refine R6.pgo_pure _ rfl rfl (fun wv hw hu=>⟨.slice (some ⟨bi,oi,none⟩) l.length ci,?_,rfl⟩) ?_
  ·have tok:=True.intro;clear hw hu;go_simp
  refine R6.pgo_pure _ rfl rfl (fun wv hw hu=>⟨.int .i64 (k:Nat),?_,rfl⟩) ?_
  ·have tok:=True.intro;clear hw hu;go_simp
  refine R3.pgo_val _ rfl rfl (fun wv hw hu=>?_) ?_
  ·have tok:=True.intro;have h1:us 1 = .slice (some ⟨bi,oi,none⟩) l.length ci:=hu.1;have h2:us 2 = .int .i64 (k:Nat):=hu.2.1;refine ⟨.slice (if ci=k then some ⟨bi,oi,none⟩ else some ⟨bi,oi+k,none⟩) (l.length-k) (ci-k),wv,?_,Far.refl _ _ _ _,_,_,rfl,Gx k ci hci (HCL.out.more HW6.out.size)⟩;clear hw hu;go_simp
  refine R3.pgo_op _ rfl rfl (fun K wv hw hu hK=>?_) ?_
  ·have tok:=True.intro;obtain ⟨q,h1,hq,hbq⟩:=hu.1;obtain ⟨A4,c4,h4,hc4⟩:=hu.2.1;have hbl:=(R6.in_ hw [] (by kernel_rfl):Far w6.heap.size b6 [] w6.drew wv).below (by simp) (by simp);have hsz:w6.heap.size≤wv.heap.size:=hw.size;refine YT qY _ _ rfl (by repeat (first | (with_reducible exact (ye _ _ _ (by simp [])).trans h1) | (with_reducible refine vF _ _ _ _ _ (by decide) ?_))) hbq hq (by repeat (first | (with_reducible exact (ye _ _ _ (by simp [yw])).trans h4) | (with_reducible refine vF _ _ _ _ _ (by decide) ?_))) (hc4.drew.below hbl) (show (jf (l.drop k)).length=(l.length-k)*1 by simp [jf]) (by omega) (by omega) hsz fun A' c' w' ho' hb'=>hK _ _ (Far.of_below0 hb') ho'
  refine R6.pgo_pure _ rfl rfl (fun wv hw hu=>⟨.slice (some ⟨bi,oi,none⟩) l.length ci,?_,rfl⟩) ?_
  ·have tok:=True.intro;clear hw hu;go_simp
  refine R6.pgo_pure _ rfl rfl (fun wv hw hu=>⟨.int .i64 (k:Nat),?_,rfl⟩) ?_
  ·have tok:=True.intro;clear hw hu;go_simp
  refine R3.pgo_val _ rfl rfl (fun wv hw hu=>?_) ?_
  ·have tok:=True.intro;have h5:us 5 = .slice (some ⟨bi,oi,none⟩) l.length ci:=hu.1;have h6:us 6 = .int .i64 (k:Nat):=hu.2.1;refine ⟨.slice (some ⟨bi,oi,none⟩) k ci,wv,?_,Far.refl _ _ _ _,_,_,rfl,Gw k (HCL.out.more HW6.out.size)⟩;clear hw hu;go_simp
  refine R3.pgo_op _ rfl rfl (fun K wv hw hu hK=>?_) ?_
  ·have tok:=True.intro;have ho5:wv.ownsRow w6.heap.size 3 1 (us 4) (l.length-k) (jf (l.drop k)):=hu.1;obtain ⟨A5,c5,h5⟩:=jA ho5;obtain ⟨A8,c8,h8,hc8⟩:=hu.2.1;have hbl:=(R6.in_ hw [] (by kernel_rfl):Far w6.heap.size b6 [] w6.drew wv).below (by simp) (by simp);have hsz:w6.heap.size≤wv.heap.size:=hw.size;rw [h5] at ho5;refine uU qY _ _ rfl (by repeat (first | (with_reducible exact (ye _ _ _ (by simp [yw])).trans h5) | (with_reducible refine vF _ _ _ _ _ (by decide) ?_))) ho5 (by repeat (first | (with_reducible exact (ye _ _ _ (by simp [yw])).trans h8) | (with_reducible refine vF _ _ _ _ _ (by decide) ?_))) (hc8.drew.below hbl) (show (jf (l.take k)).length=k*1 by simp [jf];omega) (JZ _) (by omega) (by omega) hsz fun v' w' ho' hgr' hd=>?_;refine hK _ _ (Far.of_belowB (qJ (Below.refl _ _) ho5 hgr' hsz (Nat.le_refl _)) (by simp)) ?_;have e1:l.length-k+k=l.length:=by omega
   rw [e1] at ho';have e2:jf (rot l k)=jf (l.drop k)++jf (l.take k):=by simp [jf,rot]
   show w'.ownsRow w6.heap.size 3 1 v' l.length (jf (rot l k))
   rw [e2];exact ho'
  refine R3.pgo_val _ rfl rfl (fun wv hw hu=>?_) ?_
  ·have tok:=True.intro;have ho8:wv.ownsRow w6.heap.size 3 1 (us 8) l.length (jf (rot l k)):=hu.1;obtain ⟨A8,c8,h8⟩:=jA ho8;refine ⟨us 8,wv,?_,Far.refl _ _ _ _,ho8⟩;rw [h8];clear hw hu ho8;go_simp
  trivial
 intro us w7 hw hu;have ho9:w7.ownsRow w6.heap.size 3 1 (us 9) l.length (jf (rot l k)):=hu.1;obtain ⟨A9,c9,h9⟩:=jA ho9;rw [h9] at ho9;have hb7:Below w6.heap.size w6 w7:=(R6.in_ hw [1] (by kernel_rfl):Far w6.heap.size b6 [1] w6.drew w7).undrew.belowB (by simp) (Nat.le_refl _);have HB7:=Lib.hid (HB6.out.trans (hb7.mono HB6.out.size));have HB47:=Lib.hid (HB46.out.trans (hb7.mono HB46.out.size));have HC9:=Lib.hid (jr.of_own ho9);have HRLen:=Lib.hid (qG l k);clear hw hu ho9 hb7 c0 d0 g0 g1 p0 p1 hkl' hki hk0 hcap1;simp only [Jw];go_simp;obtain ⟨g0,g1,p0,p1,hE7,_,_,_⟩:=HK.out w7 HB7.out;have HE7:=Lib.hid hE7;clear hE7;go_wp2_with fail;refine (im N A cap es w7 HE7.out HCAP.out).mono ?_;rintro e w8 (⟨hno,_⟩ | ⟨_,w0,g,gv,rfl,hb8,hfw⟩)
 case inl=>exact absurd HGD.out hno
 rw [Int.toNat_natCast] at hfw;have HFW8:=Lib.hid hfw;have HB70:=Lib.hid hb8;have HB10:=Lib.hid (HB7.out.trans (hb8.mono HB7.out.size));have HB8:=Lib.hid (HB10.out.trans (hfw.bel.mono HB10.out.size));have HB48:=Lib.hid (HB47.out.trans ((hb8.trans (hfw.bel.mono hb8.size)).mono HB47.out.size));obtain ⟨_,_,_,_,_,_,hU0,hW0⟩:=HK.out w0 HB10.out;obtain ⟨vs,hvl,hvc,hvr⟩:=hU0.vals
 have HVR:=Lib.hid (show ZJ w0 w0.heap.size vs outs from ⟨hvl,fun i hi=>by
  obtain ⟨Aj,cj,h1,h2,_⟩:=hvr i hi
  exact ⟨Aj,cj,h1,h2.more hW0.size⟩⟩)
 have HVC:=Lib.hid ((hvc.more hW0.size).below hfw.bel);have HVL:=Lib.hid hvl;clear hb8 hfw g0 g1 p0 p1 hU0 hW0 hvl hvc hvr;obtain ⟨g0,g1,p0,p1,_,_,_,_⟩:=HK.out w8 HB8.out;have hU1:(outs.length:Int)≤100:=by omega
 have hpl:gP<w8.heap.size:=Nat.lt_of_lt_of_le HGP.out.2 HB8.out.size;have p1a:=(((Below.refl w8.heap.size w8).alloc (Nat.le_refl _) (.cells #[] 25)).cell (p:=⟨gP,1,none⟩) hpl).trans p1
 go_upto_region 17 with fail
 go_wp2_with (at_builtin;go_loud (refine GY Vw rfl _ _ rfl (base:=w8.heap.size) (g:=w8.heap.size) rfl (Blk.new w8 25 #[]) (Nat.le_refl _) (B:=w0.heap.size) (news:=vs) rfl ?zr ?zl ?z1 ?z2 ?z3 ?_))
 case zr=>exact HVC.out.below ((Below.refl _ _).alloc HFW8.out.bel.size _)
 case zl=>rw [HVL.out,Nat.mul_one]
 case z1=>omega
 case z2=>omega
 case z3=>simp
 intro AQ cQ w9 ho9 hb9;obtain ⟨qU,capQ,R,eQ,hq1,hbq,hq2,_,_,_⟩:=vT ho9 (by have:=HPL.out.outl;have:=HSN.out;omega);injection eQ with eQ1 _ eQ2;subst eQ1;subst eQ2;have hb89:Below w8.heap.size w8 w9:=((Below.refl w8.heap.size w8).alloc (Nat.le_refl _) (.cells #[] 25)).trans (hb9.mono (by simp))
 go_upto_region 18 with fail
 obtain ⟨w10,hw10⟩:∃x,x=w9.alloc (.cells #[.slice none 0 0,.slice (some ⟨qU,0,none⟩) outs.length cQ] 28):=⟨_,rfl⟩;obtain ⟨gQ,hgQ⟩:∃g,g=w9.heap.size:=⟨_,rfl⟩;have hbn:Below w9.heap.size w9 w10:=by rw [hw10];exact (Below.refl _ _).alloc (Nat.le_refl _) _
 have hb810:Below w8.heap.size w8 w10:=hb89.trans (hbn.mono hb89.size);have HQ10:=Lib.hid (show Blk w10 gQ 28 #[.slice none 0 0,.slice (some ⟨qU,0,none⟩) outs.length cQ] by rw [hw10,hgQ];exact Blk.new _ _ _);have hqg:qU<gQ:=by rw [hgQ];exact hbq.lt
 have HUQ10:=Lib.hid (hbq.below hbn hbq.lt);have HFW10:=Lib.hid (HFW8.out.next hb810);have HB10b:=Lib.hid (HB8.out.trans (hb810.mono HB8.out.size));have HB410:=Lib.hid (HB48.out.trans (hb810.mono HB48.out.size));have hq8:w0.heap.size≤qU:=Nat.le_trans HFW8.out.bel.size hq1;have hq4:w4.heap.size≤qU:=Nat.le_trans HB48.out.size hq1;have hq11:w1.heap.size≤qU:=Nat.le_trans HB8.out.size hq1;rw [←hw10,←hgQ];clear hw10 hgQ hbn hb810 ho9 hb9 hb89 hbq p1a g0 g1 p0 p1 hpl;have q1:=HQ10.out.cell 1;simp only [List.getElem?_toArray,List.getElem?_cons_zero,List.getElem?_cons_succ] at q1;have hsv:s<vs.length:=by rw [HVL.out];exact hso
 obtain ⟨u0,hu0⟩:∃u,w10.cell? ⟨qU,s,none⟩=some u:=⟨vs[s],by rw [HUQ10.out.cell,Array.getElem?_append_left (by simpa using hsv)];simp [hsv]⟩;have uf:=HUQ10.out.frozen s
 go_upto_region 19 with fail
 obtain ⟨w11,hw11⟩:∃x,x=w10.setCell ⟨qU,s,none⟩ (.slice A9 l.length c9):=⟨_,rfl⟩;obtain ⟨os,hos⟩:∃x,x=outs.set s (rot l k):=⟨_,rfl⟩;obtain ⟨vt,hvt⟩:∃x,x=vs.set s (.slice A9 l.length c9):=⟨_,rfl⟩
 have hU11:Blk w11 qU 25 (vt.toArray++R):=by
  rw [hw11,hvt];have h:=HUQ10.out.set_ s (.slice A9 l.length c9)
  have e:(vs.toArray++R).setIfInBounds s (.slice A9 l.length c9)=(vs.set s (.slice A9 l.length c9)).toArray++R:=by
   rw [Array.setIfInBounds_append_left (by simpa using hsv)];simp
  rw [e] at h;exact h
 have hQ11:Blk w11 gQ 28 #[.slice none 0 0,.slice (some ⟨qU,0,none⟩) outs.length cQ]:=by
  rw [hw11];exact HQ10.out.far (by show gQ≠qU;omega) _
 have hfw11:FrontW w0 w11 g gv N es [] []:=by
  rw [hw11];exact HFW10.out.evo (T:=[25]) (Evo.set_ HUQ10.out (by simp) hq8 s _) (Nat.le_refl _) HFW10.out.bel.size (by decide) (by decide) (by decide)
 have HRV:=Lib.hid (show ZJ w0 w0.heap.size vt os by
  rw [hvt,hos];have h:=HVR.out.set (s:=s) (l:=rot l k) (Ai:=A9) (ci:=c9) ((HC9.out.below HB70.out).more HB70.out.size);rw [HRLen.out] at h
  exact h)
 have HOL2:=Lib.hid (show os.length=N by rw [hos,List.length_set];exact HPL.out.outl);have HVT:=Lib.hid (show vt.length=N by rw [HRV.out.1,HOL2.out]);have HOS:=Lib.hid hos;have HOP:=Lib.hid (show vS N es os by rw [hos,←HLE.out];exact HPL.out.rotOuts k);have HN:=Lib.hid HPL.out.outl;have HX:=Lib.hid (And.intro hq8 (And.intro hqg (And.intro hq4 hq11)));rw [←hw11];rw [HPL.out.outl] at hQ11 ⊢;have HU11:=Lib.hid hU11;have HQ11:=Lib.hid hQ11;have HFW11:=Lib.hid hfw11;clear hw11 hos hvt hU11 hQ11 hfw11 hq8 hqg hq4 hq11 q1 hu0 uf hsv hq1 HUQ10 HQ10 HFW10;go_wp2_with fail
 go_loopg [15] N (fun kk s15 wr=>∃(y:List Nat) (r:List Itm) (e2:List (List Itm)),s15 = .int .i64 (y.length:Nat)∧y.length≤N∧kk=N-y.length∧FrontW w0 wr g gv N es r (yH y)∧Walk es os ([],[],List.replicate N []) y (r,yH y,e2)∧(∀x∈y,x<N)∧r.length≤y.length*501∧Blk wr qU 25 (vt.toArray++R)∧Blk wr gQ 28 #[.slice none 0 0,.slice (some ⟨qU,0,none⟩) N cQ])
 case atStart=>exact ⟨[],[],List.replicate N [],rfl,Nat.zero_le _,rfl,HFW11.out,Walk.nil _,by simp,by simp,HU11.out,HQ11.out⟩
 case round=>
 obtain ⟨y,r,e2,rfl,hyN,hk,hfw,hwk,hlt,hrl,hbu,hbq⟩:=hrel;have Hk:=Lib.hid hk;have HFW:=Lib.hid hfw;have HWK:=Lib.hid hwk;have HLT:=Lib.hid hlt;have HRL5:=Lib.hid hrl;have HBU:=Lib.hid hbu;have HBQ:=Lib.hid hbq;have hr5:r.length≤50000:=by have:y.length*501≤64*501:=Nat.mul_le_mul_right _ (by omega);omega
 have HPLn:=Lib.hid (cz y);have HBR:=Lib.hid (HB10.out.trans (hfw.bel.mono HB10.out.size));clear hk hfw hwk hlt hrl hbu hbq;obtain ⟨g0,g1,p0,p1,_,_,_,_⟩:=HK.out wr HBR.out;by_cases hil:y.length<N
 case' neg=>
  have hil':¬(y.length:Int)<N:=by omega
  have HNO:=Lib.hid (cH HWK.out HLT.out (by omega))
  go_upto_region 30 with fail
  obtain ⟨wz,hwz⟩:∃x,x=wr:=⟨_,rfl⟩;subst hwz
 case' pos=>
  have hil':(y.length:Int)<N:=by omega
  go_wp2_with fail;refine (fj w0 wr g gv N es r (yH y) HFW.out (by omega) (by omega) hr5 (by rw [HPLn.out];omega)).mono ?_;rintro e w3' ⟨v3,rfl,hb3,ho3⟩;obtain ⟨A3,c3,rfl⟩:=jA ho3;obtain ⟨L,hL⟩:∃L,L=Yo es r (yH y) N:=⟨_,rfl⟩;have HL:=Lib.hid hL;rw [←hL] at ho3 ⊢;have hC3:=jr.of_own ho3;have HB3':=Lib.hid hb3;clear hb3 ho3 g0 g1 p0 p1 hL;obtain ⟨g0,g1,p0,p1,_,_,_,_⟩:=HK.out w3' (HBR.out.trans (HB3'.out.mono HBR.out.size))
  cases L
  case' nil=>
   have HNO:=Lib.hid (nB HL.out.symm);clear hC3
   go_upto_region 30 with fail
   replace HFW:=Lib.hid (HFW.out.next HB3'.out)
   replace HBU:=Lib.hid (HBU.out.below HB3'.out HBU.out.lt)
   replace HBQ:=Lib.hid (HBQ.out.below HB3'.out HBQ.out.lt)
   replace HBR:=Lib.hid (HBR.out.trans (HB3'.out.mono HBR.out.size))
   clear HB3';obtain ⟨wz,hwz⟩:∃x,x=w3':=⟨_,rfl⟩;subst hwz
  case cons x0 t=>
   obtain ⟨x,rfl,hxN,hrd⟩:=lJ HL.out.symm;have HRD:=Lib.hid hrd;have hln:((((x:Int)::t).length:Nat):Int)=(t.length:Int)+1:=by simp
   have hlen1:(0:Int)<(t.length:Int)+1:=by omega
   have hlen2:(((t.length:Int)+1)==0)=false:=by rw [beq_eq_false_iff_ne];omega
   obtain ⟨b8,o8,rfl,hb8,hcx⟩:=hC3.ints (by simp);have c0:=hcx 0 (by simp);simp only [List.getElem_cons_zero,Nat.add_zero] at c0;have hxo:x<os.length:=by rw [HOL2.out];exact hxN
   have hx0:¬(x:Int)<0:=by omega
   have hxN1:¬(N:Int)≤x:=by omega
   have hxN2:(x:Int)<N:=by omega
   have HFW3:=Lib.hid (HFW.out.next HB3'.out);have HBU3:=Lib.hid (HBU.out.below HB3'.out HBU.out.lt);have HBQ3:=Lib.hid (HBQ.out.below HB3'.out HBQ.out.lt);obtain ⟨Ax,cx,hvx,hCx⟩:=HRV.out.2 x hxo;have HCX:=Lib.hid (hCx.below HFW3.out.bel);have HOX:=Lib.hid (show os.getD x []=os[x] from zM hxo);have HSX:=Lib.hid (show os[x].mergeSort leI=jK es Prod.fst (x:Nat) es.length by rw [←HOX.out];exact aI (HOP.out x hxN) (Qa _ _ _ _))
   have hOXL:os[x].length≤500:=by
    have h1:(os[x].mergeSort leI).length=os[x].length:=List.length_mergeSort _;rw [HSX.out] at h1;have:=qj es Prod.fst (x:Nat) es.length;omega
   have HOXL:=Lib.hid hOXL
   have d0:w3'.cell? ⟨qU,x,none⟩=some (.slice Ax os[x].length cx):=by
    rw [HBU3.out.cell,Array.getElem?_append_left (by simpa [HVT.out] using hxN)];simpa using hvx
   have q1:=HBQ3.out.cell 1;simp only [List.getElem?_toArray,List.getElem?_cons_zero,List.getElem?_cons_succ] at q1;clear hcx hrd hvx hCx hOXL hC3 hln;generalize os[x]=ox at *;go_wp2_with fail;refine (Ga w0 w3' g gv N es r (yH y) x Ax cx ox HFW3.out HCX.out hxN (by omega) hr5 (by rw [HPLn.out];omega) HRD.out HSX.out).mono ?_;rintro e w5' ⟨v5,rfl,hev,_,hfw5⟩;have HFW5:=Lib.hid hfw5;have HBU5:=Lib.hid (HBU3.out.evo hev (.inr (by decide)));have HBQ5:=Lib.hid (HBQ3.out.evo hev (.inr (by decide)));have HB5r:=Lib.hid (HB10.out.trans (hfw5.bel.mono HB10.out.size));clear hev hfw5 g0 g1 p0 p1 c0 d0 q1;obtain ⟨g0,g1,p0,p1,_,_,_,_⟩:=HK.out w5' HB5r.out;obtain ⟨hp,E1,E2,E3,hcut⟩:=Xd HRD.out;have hpl2:=hcut.place ox;have hsn:=WK HWK.out hp hcut;have e1:yH (y++[x])=yH y++[(x:Int)]:=by unfold yH;simp
   have e3:E1++yA es os x++E3=zH es r x ox:=by rw [hpl2];unfold yA;rw [HOX.out]
   rw [e3,←e1] at hsn;rw [←e1] at HFW5;have HSN2:=Lib.hid hsn
   have HLT2:=Lib.hid (show ∀z∈y++[x],z<N from fun z hz=>by
    rcases List.mem_append.1 hz with h | h
    ·exact HLT.out z h
    ·rw [List.mem_singleton.1 h];exact hxN)
   have hlen2':y.length+1≤N:=by
    have:=gS HSN2.out HLT2.out;simpa using this
   have HRL6:=Lib.hid (show (zH es r x ox).length≤(y.length+1)*501 by
    have:=Jk (es:=es) (r:=r) (x:=x) (outs:=ox);have:=HRL5.out;have:=HOXL.out
    omega)
   have HLA:=Lib.hid (show (y++[x]).length=y.length+1 by simp);clear hp hcut hpl2 hsn e1 e3;generalize zH es r x ox=r7 at *;generalize e2.set x E2=en7 at *;go_wp2_with fail
   go_roundg (N-(y.length+1))
   case measure=>rw [Hk.out];omega
   case rel=>exact ⟨y++[x],r7,en7,by rw [HLA.out];go_num,by rw [HLA.out];omega,by rw [HLA.out],HFW5.out,HSN2.out,HLT2.out,by rw [HLA.out];exact HRL6.out,HBU5.out,HBQ5.out⟩
 all_goals
  clear g0 g1 p0 p1 hr5
 all_goals
  obtain ⟨g0,g1,p0,p1,_,_,_,_⟩:=HK.out wz HBR.out;go_wp2_with fail;refine (fw w0 wz g gv N es r (yH y) HFW.out (by rw [HPLn.out];omega)).mono ?_;rintro e w12 ⟨v12,rfl,hb12,ho12⟩;obtain ⟨A12,c12,rfl⟩:=jA ho12;rw [HPLn.out] at ho12 ⊢;have HBU12:=Lib.hid (HBU.out.below hb12 HBU.out.lt);have HBQ12:=Lib.hid (HBQ.out.below hb12 HBQ.out.lt);have HO12:=Lib.hid ho12;have HB12:=Lib.hid hb12;have q0:=HBQ12.out.cell 0;simp only [List.getElem?_toArray,List.getElem?_cons_zero] at q0;have uf:=HBQ12.out.frozen 0;clear hb12 ho12 g0 g1 p0 p1
  go_upto_region 31 with fail
  obtain ⟨w13,hw13⟩:∃x,x=w12.setCell ⟨gQ,0,none⟩ (.slice A12 y.length c12):=⟨_,rfl⟩
  have HQ13:=Lib.hid (show Blk w13 gQ 28 #[.slice A12 y.length c12,.slice (some ⟨qU,0,none⟩) N cQ] by
   rw [hw13];have h:=HBQ12.out.set_ 0 (.slice A12 y.length c12)
   simpa using h)
  have HU13:=Lib.hid (show Blk w13 qU 25 (vt.toArray++R) by rw [hw13];exact HBU12.out.far (by show qU≠gQ;have:=HX.out.2.1;omega) _)
  have HO13:=Lib.hid (show jr w13 w13.heap.size A12 (jf (yH y)) by
   rw [hw13];exact jr.of_own (ig HO12.out HBQ12.out (by decide) 0 _))
  have hbw:Below w0.heap.size w0 w13:=by
   rw [hw13];exact (HFW.out.bel.trans (HB12.out.mono HFW.out.bel.size)).setCell (show w0.heap.size≤gQ by have:=HX.out.1;have:=HX.out.2.1;omega) _
  have HB113:=Lib.hid (HB10.out.trans (hbw.mono HB10.out.size));have HB413:=Lib.hid (show Below w4.heap.size w4 w13 from (HB47.out.trans (HB70.out.mono HB47.out.size)).trans (hbw.mono (HB47.out.trans (HB70.out.mono HB47.out.size)).size));have HB713:=Lib.hid (HB70.out.trans (hbw.mono HB70.out.size));have HRV13:=Lib.hid (HRV.out.next hbw hbw.size)
  have HUR:=Lib.hid (show qz w13 w13.heap.size (some ⟨qU,0,none⟩) os from HRV13.out.rows fun _=>⟨qU,0,rfl,HU13.out.lt,fun j u hj=>by
   rw [Nat.zero_add,HU13.out.cell,Array.getElem?_append_left (by simpa using (List.getElem?_eq_some_iff.1 hj).1)];simpa using hj⟩)
  rw [←hw13];clear hw13 hbw q0 uf;obtain ⟨g0,g1,p0,p1,hE13,_,_,_⟩:=HK.out w13 HB113.out;have q0:=HQ13.out.cell 0;have q1:=HQ13.out.cell 1;simp only [List.getElem?_toArray,List.getElem?_cons_zero,List.getElem?_cons_succ] at q0 q1
  have HOL3:=Lib.hid (show ∀l∈os,l.length≤1000 from fun l hl=>by
   obtain ⟨x,hx,rfl⟩:=List.getElem_of_mem hl;have h1:=(HOP.out x (by rw [←HOL2.out];exact hx)).length_eq;rw [zM hx] at h1;have:=qj es Prod.fst (x:Nat) es.length
   omega)
  have hT:=da N A A12 (some ⟨qU,0,none⟩) cap c12 cQ es (yH y) os w13 hE13 HCAP.out HO13.out HUR.out (by omega) HOL3.out;rw [HPLn.out,HOL2.out] at hT;have HT:=Lib.hid hT;clear hE13 hT;go_wp2_with fail;refine HT.out.mono ?_;rintro e w14 ⟨hb14,hc14⟩;rw [Int.toNat_natCast] at hc14
  obtain ⟨C3,m3,c3,er,rfl,hcase⟩:∃C3 m3 c3 er,e = .returned (.tuple #[.slice C3 m3 c3,.int .i64 er])∧((er=0∧m3=N ∧ ∃en3,Qx N es (yH y) os=some en3∧xe w14 w14.heap.size C3 (xE N os en3))∨(er=1∧Qx N es (yH y) os=none)):=by
   rcases hc14 with ⟨en3,C3,c3,_,h2,rfl,h3⟩ | ⟨hno,rfl⟩
   ·exact ⟨_,_,_,_,rfl,.inl ⟨rfl,rfl,en3,h2,h3⟩⟩
   ·refine ⟨_,_,_,_,rfl,.inr ⟨rfl,?_⟩⟩
    cases hq:Qx N es (yH y) os with
    | none=>rfl
    | some en3=>exact absurd ⟨HGD.out,by rw [hq];rfl⟩ hno
  have HCA:=Lib.hid hcase;have HB114:=Lib.hid (HB113.out.trans (hb14.mono HB113.out.size));have HB414:=Lib.hid (HB413.out.trans (hb14.mono HB413.out.size));have HB714:=Lib.hid (HB713.out.trans (hb14.mono HB713.out.size));clear hb14 hc14 hcase g0 g1 p0 p1 q0 q1;obtain ⟨g0,g1,p0,p1,hE14,_,_,_⟩:=HK.out w14 HB114.out;have HE14:=Lib.hid hE14;clear hE14;have HRW14:=Lib.hid ((HRW.out.below HB414.out).more HB414.out.size);have hANG:=GR N A C cap c es rs w14 HE14.out HRW14.out.at_ (by rw [HRL.out];omega) HR2.out;rw [HRL.out] at hANG;have HANG:=Lib.hid hANG;clear hANG;go_wp2_with fail;refine HANG.out.mono ?_;rintro e w15 ⟨AA,cA,rfl,hb15,hq15⟩;obtain ⟨gA,rfl,hgA,hbA,_⟩:=hq15 (zN HFA.out);have HBA15:=Lib.hid hbA;have HB115:=Lib.hid (HB114.out.trans (hb15.mono HB114.out.size));have HB415:=Lib.hid (HB414.out.trans (hb15.mono HB414.out.size));have HB715:=Lib.hid (HB714.out.trans (hb15.mono HB714.out.size));have HB145:=Lib.hid hb15;have HQL:=Lib.hid (QZ (zN HFA.out));clear hb15 hq15 hbA g0 g1 p0 p1;obtain ⟨Q,hQ⟩:∃Q,Q=yl N es rs:=⟨_,rfl⟩;have HQ:=Lib.hid hQ;rw [←hQ] at HBA15 HQL ⊢;clear hQ;have HMP:=Lib.hid (show 0<(rot l k).length by rw [HRLen.out];exact hl0);obtain ⟨b9,o9,rfl,hb9,hc9⟩:=HC9.out.ints HMP.out;obtain ⟨m1,hm1⟩:∃m1,l.length=m1+1:=⟨l.length-1,by omega⟩;have hm9:m1<(rot l k).length:=by rw [HRLen.out];omega
  have hcm:=hc9 m1 hm9
  obtain ⟨z,hzv,hze⟩:∃z:Nat,(rot l k)[m1]=(z:Int)∧z<es.length:=by
   have h1:(rot l k)[m1]∈outs.getD s []:=by rw [HLE.out];exact VC.1 (List.getElem_mem hm9)
   obtain ⟨i,h2,h3,_⟩:=(HPL.out.outm HSN.out).1 h1;exact ⟨i,h2,h3⟩
  have HZL:=Lib.hid (show (rot l k).getLast? = some (z:Int) by
   rw [List.getLast?_eq_getElem?,HRLen.out,hm1,Nat.add_sub_cancel,List.getElem?_eq_getElem hm9,hzv])
  rw [hzv] at hcm;have HM:=Lib.hid (show ∀W,Below w7.heap.size w7 W→W.cell? ⟨b9,o9+m1,none⟩=some (.int .i64 (z:Nat)) from fun W h=>(h.cell (by exact hb9)).trans hcm);have HQ80:=Lib.hid (show Q.length≤80 by rw [HQL.out];omega);have HGA:=Lib.hid (show gA<w15.heap.size from HBA15.out.lt);clear hc9 hcm hzv;rw [hm1];obtain ⟨m,hmz⟩:∃m:Int,m=2*(z:Int):=⟨_,rfl⟩;obtain ⟨F,hF⟩:∃F,F=Ve N es rs:=⟨_,rfl⟩;have HFO:=Lib.hid (fun W he hr=>Ka N A C cap c es rs W he hr (by rw [HRL.out];omega) HR2.out HCAP.out);rw [←hF] at HFO;have hFL:F.length≤80:=by rw [hF];have:=ry HFA.out (by omega);omega
  have hQ80:Q.length≤80:=HQ80.out;have HMZ:=Lib.hid hmz;have HF:=Lib.hid hF;clear hF;go_wp2_with fail
  go_loopg [153,22] Q.length (fun kk s153 s22 wr=>∃i:Nat,s153 = .int .i64 i∧i≤Q.length∧kk=Q.length-i∧s22 = .bool (gk0 (Q.take i) F m)∧Below w15.heap.size w15 wr)
  case atStart=>exact ⟨0,rfl,Nat.zero_le _,rfl,by simp [gk0],Below.refl _ _⟩
  case round=>
   obtain ⟨i,rfl,hi,hk2,rfl,hb16⟩:=hrel;have Hk2:=Lib.hid hk2;have HB16:=Lib.hid hb16;clear hk2 hb16;obtain ⟨cn,hcn⟩:∃b,b=gk0 (Q.take i) F m:=⟨_,rfl⟩;have HCN:=Lib.hid hcn;rw [←hcn];clear hcn;by_cases hiQ:i<Q.length
   ·have hiQ':(i:Int)<Q.length:=by omega
    have hQC:=jr.blk' (xs:=jV Q) (HBA15.out.below HB16.out HGA.out);obtain ⟨d0,d1,d2,d3⟩:=pA (hQC.more (HBA15.out.below HB16.out HGA.out).lt) hiQ;have HTK:=Lib.hid (show Q.take (i+1)=Q.take i++[Q[i]] from List.take_succ_eq_append_getElem hiQ);clear hQC;generalize Q[i]=qi at *;obtain ⟨qa,qb,qf,qd⟩:=qi;simp only at d0 d1 d2 d3;have HA4:=Lib.hid (Blk.new wr 47 #[.int .i64 (qa:Nat),.int .i64 (qb:Nat),.int .i64 (qf:Nat),.int .i64 (qd:Nat)]);have hb4:=(Below.refl wr.heap.size wr).alloc (Nat.le_refl _) (.cells #[.int .i64 (qa:Nat),.int .i64 (qb:Nat),.int .i64 (qf:Nat),.int .i64 (qd:Nat)] 47);have HB17:=Lib.hid (HB16.out.trans (hb4.mono HB16.out.size));clear hb4
    go_upto_region 36 with fail
    obtain ⟨gB,hgB⟩:∃gB,gB=wr.heap.size:=⟨_,rfl⟩;rw [←hgB] at HA4 ⊢;generalize wr.alloc (.cells #[.int .i64 (qa:Nat),.int .i64 (qb:Nat),.int .i64 (qf:Nat),.int .i64 (qd:Nat)] 47)=w16 at *;have HB116:=Lib.hid (HB115.out.trans (HB17.out.mono HB115.out.size));have HB416:=Lib.hid (HB415.out.trans (HB17.out.mono HB415.out.size));clear hgB d0 d1 d2 d3;obtain ⟨g0,g1,p0,p1,hE16,_,_,_⟩:=HK.out w16 HB116.out;have hfo:=HFO.out w16 hE16 ((HRW.out.below HB416.out).more HB416.out.size).at_;rw [HRL.out] at hfo;have HFo:=Lib.hid hfo;clear hE16 hfo;go_wp2_with fail;refine HFo.out.mono ?_;rintro e w17 ⟨AF,cF,rfl,hb17,hcF⟩;have HCF:=Lib.hid hcF;have HB167:=Lib.hid hb17;have HA7:=Lib.hid (HA4.out.below hb17 HA4.out.lt);clear hcF hb17 g0 g1 p0 p1;go_wp2_with fail
    go_loopg [161,22] F.length (fun kk s161 s22 wy=>∃j:Nat,s161 = .int .i64 j∧j≤F.length∧kk=F.length-j∧s22 = .bool (cn||(F.take j).any fun o=>decide ((qa:Int)=m)&&decide ((qf:Int)=o))∧Below w17.heap.size w17 wy)
    case atStart=>exact ⟨0,rfl,Nat.zero_le _,rfl,by simp,Below.refl _ _⟩
    case round=>
     obtain ⟨j,rfl,hj,hk3,rfl,hb18⟩:=hrel;have Hk3:=Lib.hid hk3;have HB18:=Lib.hid hb18;clear hk3 hb18;obtain ⟨bI,hbI⟩:∃b,b=(cn||(F.take j).any fun o=>decide ((qa:Int)=m)&&decide ((qf:Int)=o)):=⟨_,rfl⟩;have HBI:=Lib.hid hbI;rw [←hbI];clear hbI;by_cases hjF:j<F.length
     ·have hjF':(j:Int)<F.length:=by omega
      have HTJ:=Lib.hid (show F.take (j+1)=F.take j++[F[j]] from List.take_succ_eq_append_getElem hjF);obtain ⟨bf,of,rfl,hbf,hcf⟩:=(HCF.out.below HB18.out).ints (by omega);have cf:=hcf j hjF;have hA8:=HA7.out.below HB18.out HA7.out.lt;have a0:=hA8.cell 0;have a2:=hA8.cell 2;simp only [List.getElem?_toArray,List.getElem?_cons_zero,List.getElem?_cons_succ] at a0 a2;have mc:=HM.out wr ((HB715.out.trans (HB17.out.mono HB715.out.size)).trans ((HB167.out.trans (HB18.out.mono HB167.out.size)).mono (HB715.out.trans (HB17.out.mono HB715.out.size)).size));clear hcf hA8;generalize F[j]=fo at *;have hmi:(m1:Int)<(m1:Int)+1:=by omega
      have hz80:(z:Int)<1000:=by omega
      have HMC:=Lib.hid mc
      have hABC:(((qa:Int)==2*(z:Int))=true∧((qf:Int)==fo)=true∧(qa:Int)=m∧(qf:Int)=fo)∨(((qa:Int)==2*(z:Int))=true∧((qf:Int)==fo)=false ∧ ¬(qf:Int)=fo)∨(((qa:Int)==2*(z:Int))=false ∧ ¬(qa:Int)=m):=by
       rw [←HMZ.out];by_cases hA:(qa:Int)=m
       ·by_cases hB:(qf:Int)=fo
        ·exact .inl ⟨by rw [beq_iff_eq];exact hA,by rw [beq_iff_eq];exact hB,hA,hB⟩
        ·exact .inr (.inl ⟨by rw [beq_iff_eq];exact hA,by rw [beq_eq_false_iff_ne];exact hB,hB⟩)
       ·exact .inr (.inr ⟨by rw [beq_eq_false_iff_ne];exact hA,hA⟩)
      rcases hABC with ⟨hA1,hB1,hA,hB⟩ | ⟨hA1,hB1,hB⟩ | ⟨hA1,hA⟩
      all_goals
       obtain ⟨bN,hbN⟩:∃b,b=(bI||(decide ((qa:Int)=m)&&decide ((qf:Int)=fo))):=⟨_,rfl⟩
       have HBN2:=Lib.hid (show (cn||(F.take (j+1)).any fun o=>decide ((qa:Int)=m)&&decide ((qf:Int)=o))=bN by
        rw [HTJ.out,List.any_append,←Bool.or_assoc,←HBI.out,hbN];simp)
       have HBV:=Lib.hid hbN;clear hbN
       cases bI
      all_goals
       go_upto_region 39 with fail
       go_quiet (fail)
      all_goals
       have HBQn:=Lib.hid (below_drewN HB18.out nq);go_wp2_with fail
       go_roundg (F.length-(j+1))
       case measure=>rw [Hk3.out];omega
       case rel=>exact ⟨j+1,by go_num,by omega,rfl,by rw [HBN2.out,HBV.out];first | simp [hA,hB] | simp [hB] | simp [hA],HBQn.out⟩
     ·have hje:j=F.length:=by omega
      have hjF':¬(j:Int)<F.length:=by omega
      have HCE:=Lib.hid (show bI=gk0 (Q.take (i+1)) F m by
       rw [HBI.out,hje,List.take_length,HTK.out,HCN.out];unfold gk0;rw [List.any_append];simp)
      have HBo:=Lib.hid (HB17.out.trans ((HB167.out.trans (HB18.out.mono HB167.out.size)).mono HB17.out.size));clear hje;go_wp2_with fail
      go_roundg (Q.length-(i+1))
      case measure=>rw [Hk2.out];omega
      case rel=>exact ⟨i+1,by go_num,by omega,rfl,by rw [HCE.out],HBo.out⟩
   ·have hiQ':¬(i:Int)<Q.length:=by omega
    have HCE:=Lib.hid (show cn=gk0 (yl N es rs) (Ve N es rs) (2*(z:Int)) by
     rw [HCN.out,List.take_of_length_le (by omega),HMZ.out,HF.out,HQ.out])
    have HSH:=Lib.hid (lm HPL.out (by omega) (k:=k) (z:=z) (outs':=os) (by rw [HLE.out];exact HOS.out) (by rw [HLE.out];exact HZL.out) HWK.out HLT.out HNO.out);rw [←HRS.out] at HSH;have HCI:=Lib.hid (rW HFA.out hze);have HB1w:=Lib.hid (HB115.out.trans (HB16.out.mono HB115.out.size));have HB4w:=Lib.hid (HB415.out.trans (HB16.out.mono HB415.out.size));have HWw:=Lib.hid (HK.out wr HB1w.out).2.2.2.2.2.2.2;rcases HCA.out with ⟨rfl,rfl,en3,hr3,hrw3⟩ | ⟨rfl,hr3⟩
    ·obtain ⟨pl3,rF3,s3,hP3⟩:=UF HGD.out hr3;rw [hP3.wrapped] at hrw3
     have HS3:=Lib.hid (show cn=Jg (jQ m3 os en3) rs by
      rw [HCE.out,Bool.eq_iff_iff,HCI.out,←HSH.out];constructor
      ·rintro ⟨en',h1,h2⟩;rw [hr3] at h1;rw [Option.some.inj h1];exact h2
      ·intro h;exact ⟨en3,hr3,h⟩)
     have hb14w:=HB145.out.trans (HB16.out.mono HB145.out.size);have hrt3:=XR hP3.right;have hsm:=lq C3 C c3 c (jQ m3 os en3) rs wr ((hrw3.below hb14w).more hb14w.size) ((HRW.out.below HB4w.out).more HB4w.out.size) (by rw [qh];omega) (by rw [HRL.out];omega) (fun l hl=>by have:=hrt3 l hl;omega) (fun _=>HR2.out);rw [qh,HRL.out,←HS3.out] at hsm;have HSM:=Lib.hid hsm;clear hsm hb14w hrt3 hr3 hrw3 hP3;go_wp2_with fail;refine HSM.out.mono ?_;rintro e w20 ⟨rfl,hb20⟩;have HW20:=Lib.hid (HWw.out.trans (hb20.mono HWw.out.size));clear hb20;go_wp2_with fail;go_ret;exact ⟨jI (by cases cn<;>rfl),HW20.out⟩
    ·have HS3:=Lib.hid (show cn=false by
      cases h:cn with
      | false=>rfl
      | true=>
       rw [HCE.out] at h;obtain ⟨en',h1,_⟩:=HSH.out.2 (HCI.out.1 h)
       rw [hr3] at h1;cases h1)
     clear hr3;go_wp2_with fail;go_ret;exact ⟨jI (by rw [HS3.out];rfl),HWw.out⟩
end Go.Proofs.YtneeknlhlkpnpaaGreat
