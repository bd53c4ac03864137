import Derived.Test.YtneeknlhlkpnpaaGreatZRPlain
import Derived.Test.YtneeknlhlkpnpaaGreatZRGr
import Derived.Test.YtneeknlhlkpnpaaGreatZFlat3
import Derived.Test.YtneeknlhlkpnpaaGreatZFits
import Derived.Test.YtneeknlhlkpnpaaGreatZBackW
import Derived.Test.YtneeknlhlkpnpaaGreatZFollow
import Derived.Test.YtneeknlhlkpnpaaGreatZRRf10
import Derived.Test.YtneeknlhlkpnpaaGreatZFit2
import Derived.Test.YtneeknlhlkpnpaaGreatZRfs
import Derived.Test.YtneeknlhlkpnpaaGreatZChks
import Derived.Test.YtneeknlhlkpnpaaGreatRows
import Derived.Test.YtneeknlhlkpnpaaGreatZReg
import Derived.ProofKit
import Derived.OpenShut
import Derived.Deep.Slices
import Derived.Deep.Fields
import Derived.ChangeSame
import Derived.Lib.SmallJoins
import Derived.Test.YtneeknlhlkpnpaaGreatZEul
import Derived.Deep.Matrix
/-
 The example of chapter 11, reckoned. Written by an AI agent.
-/
namespace Go.Proofs.YtneeknlhlkpnpaaGreat
open Go.RowKit
theorem VC:GoodP 2 [(0,1)]:=⟨by decide +kernel,fun i hi=>by
  match i,hi with
  | 0,_=>decide,fun i hi j hj=>by
  match i,hi with
  | 0,_=>exact absurd hj (Nat.not_lt_zero _),by decide +kernel,by decide +kernel⟩
theorem oX:ofB 2 [(0,1)] [0,1] [[0],[]]=true:=by
 rw [kp];refine ⟨rfl,rfl,?_,fun x hx=>?_⟩
 ·rw [List.mergeSort_of_pairwise (by decide)];rfl
 ·match x,hx with
  | 0,_=>exact List.mergeSort_singleton _
  | 1,_=>exact List.mergeSort_nil
theorem ZI:xk 2 [(0,1)] [0,1] [[0],[]]=some [[],[(0,0,1)]]:=by
 unfold xk;rw [if_pos oX]
 decide +kernel
theorem Wp:yo 2 [[0],[]] [[],[(0,0,1)]]=[[0],[1]]:=by decide +kernel
theorem mB:Zu 2 [(0,1)] [[0],[1]] 2=0:=by decide +kernel
theorem dz:zU [(0,1)] [[0],[1]] 2=[0,1]:=by decide +kernel
theorem dy:zS 2 [(0,1)] [[0],[1]] 0 [0,1]=true:=by
 unfold zS zw
 decide +kernel
theorem iC:vz 2 [(0,1)] [[0],[1]] 0 [0,1]=true:=by
 unfold vz;rw [show xz 2 [(0,1)]=true from jB.2 VC,Hu,show xP [[0],[1]]=true by decide +kernel,dy];rfl
theorem iB:uw [[0],[1]] [[0],[1]]=true:=by decide +kernel
theorem pC(w:World):let w5:=((((w.alloc (.cells #[.int .i64 0,.int .i64 1] 3)).alloc (.cells #[.int .i64 0] 3)).alloc (.cells #[] 3)).alloc (.cells #[.slice (some ⟨w.heap.size+1,0,none⟩) 1 1,.slice (some ⟨w.heap.size+1+1,0,none⟩) 0 0] 25)).alloc (.cells #[.slice (some ⟨w.heap.size,0,none⟩) 2 2,.slice (some ⟨w.heap.size+1+1+1,0,none⟩) 2 2] 28)
  PlanS w w5 (w.heap.size+1+1+1+1) (some ⟨w.heap.size,0,none⟩) 2 [0,1] (some ⟨w.heap.size+1+1+1,0,none⟩) 2 [[0],[]]:=by
 intro w5;obtain ⟨h5,e5⟩:∃h5,h5=w5:=⟨_,rfl⟩;have b1:=Blk.new w 3 #[.int .i64 0,.int .i64 1];have z1:=World.size_alloc w (.cells #[.int .i64 0,.int .i64 1] 3);have k1:=(Below.refl w.heap.size w).alloc (Nat.le_refl _) (.cells #[.int .i64 0,.int .i64 1] 3);rw [←e5];unfold w5 at e5;clear w5;generalize w.alloc (.cells #[.int .i64 0,.int .i64 1] 3)=w1 at *;have b2:=Blk.new w1 3 #[.int .i64 0];have b12:=b1.alloc (.cells #[.int .i64 0] 3);have z2:=World.size_alloc w1 (.cells #[.int .i64 0] 3);have k2:=k1.alloc (by omega) (.cells #[.int .i64 0] 3);generalize w1.alloc (.cells #[.int .i64 0] 3)=w2 at *;have b3:=Blk.new w2 3 #[];have b13:=b12.alloc (.cells #[] 3);have b23:=b2.alloc (.cells #[] 3);have z3:=World.size_alloc w2 (.cells #[] 3);have k3:=k2.alloc (by omega) (.cells #[] 3);generalize w2.alloc (.cells #[] 3)=w3 at *;rw [z1] at b23;rw [z2,z1] at b3;have b4:=Blk.new w3 25 #[.slice (some ⟨w.heap.size+1,0,none⟩) 1 1,.slice (some ⟨w.heap.size+1+1,0,none⟩) 0 0];have b14:=b13.alloc (.cells #[.slice (some ⟨w.heap.size+1,0,none⟩) 1 1,.slice (some ⟨w.heap.size+1+1,0,none⟩) 0 0] 25);have b24:=b23.alloc (.cells #[.slice (some ⟨w.heap.size+1,0,none⟩) 1 1,.slice (some ⟨w.heap.size+1+1,0,none⟩) 0 0] 25);have b34:=b3.alloc (.cells #[.slice (some ⟨w.heap.size+1,0,none⟩) 1 1,.slice (some ⟨w.heap.size+1+1,0,none⟩) 0 0] 25);have z4:=World.size_alloc w3 (.cells #[.slice (some ⟨w.heap.size+1,0,none⟩) 1 1,.slice (some ⟨w.heap.size+1+1,0,none⟩) 0 0] 25);have k4:=k3.alloc (by omega) (.cells #[.slice (some ⟨w.heap.size+1,0,none⟩) 1 1,.slice (some ⟨w.heap.size+1+1,0,none⟩) 0 0] 25);generalize w3.alloc (.cells #[.slice (some ⟨w.heap.size+1,0,none⟩) 1 1,.slice (some ⟨w.heap.size+1+1,0,none⟩) 0 0] 25)=w4 at *;rw [z3,z2,z1] at b4;have b5:=Blk.new w4 28 #[.slice (some ⟨w.heap.size,0,none⟩) 2 2,.slice (some ⟨w.heap.size+1+1+1,0,none⟩) 2 2];have b15:=b14.alloc (.cells #[.slice (some ⟨w.heap.size,0,none⟩) 2 2,.slice (some ⟨w.heap.size+1+1+1,0,none⟩) 2 2] 28);have b25:=b24.alloc (.cells #[.slice (some ⟨w.heap.size,0,none⟩) 2 2,.slice (some ⟨w.heap.size+1+1+1,0,none⟩) 2 2] 28);have b35:=b34.alloc (.cells #[.slice (some ⟨w.heap.size,0,none⟩) 2 2,.slice (some ⟨w.heap.size+1+1+1,0,none⟩) 2 2] 28);have b45:=b4.alloc (.cells #[.slice (some ⟨w.heap.size,0,none⟩) 2 2,.slice (some ⟨w.heap.size+1+1+1,0,none⟩) 2 2] 28);have z5:=World.size_alloc w4 (.cells #[.slice (some ⟨w.heap.size,0,none⟩) 2 2,.slice (some ⟨w.heap.size+1+1+1,0,none⟩) 2 2] 28);have k5:=k4.alloc (by omega) (.cells #[.slice (some ⟨w.heap.size,0,none⟩) 2 2,.slice (some ⟨w.heap.size+1+1+1,0,none⟩) 2 2] 28);rw [←e5] at *;rw [z4,z3,z2,z1] at b5;refine ⟨b5,(jr.blk' (xs:=jf [0,1]) b15).more (by omega),fun _=>⟨_,0,rfl,by omega,fun i hi=>?_⟩,k5⟩
 match i,hi with
 | 0,_=>exact ⟨_,1,b45.cell 0,(jr.blk' (xs:=jf [0]) b25).more (by omega)⟩
 | 1,_=>exact ⟨_,0,b45.cell 1,fun h=>absurd h (by simp [jf])⟩
end Go.Proofs.YtneeknlhlkpnpaaGreat
namespace Go.Proofs.YtneeknlhlkpnpaaGreat
open Go.RowKit
set_option maxRecDepth 20000 in
set_option maxHeartbeats 4000000 in
theorem WH(w:World):Calls Tryz.prog 19 #[] w fun e w'=>e = .returned (.bool true)∧Below w.heap.size w w':=by
 go_enter Tryz.func19,Tryz.ntmps19
 go_upto_region 2 with fail
 have b1:=Blk.new w 66 #[.int .i64 0,.int .i64 1];have z1:=World.size_alloc w (.cells #[.int .i64 0,.int .i64 1] 66);have k1:=(Below.refl w.heap.size w).alloc (Nat.le_refl _) (.cells #[.int .i64 0,.int .i64 1] 66);generalize w.alloc (.cells #[.int .i64 0,.int .i64 1] 66)=w1 at *;have b2:=Blk.new w1 24 #[.int .i64 2,.slice (some ⟨w.heap.size,0,none⟩) 1 1];have b1':=b1.alloc (.cells #[.int .i64 2,.slice (some ⟨w.heap.size,0,none⟩) 1 1] 24);have z2:=World.size_alloc w1 (.cells #[.int .i64 2,.slice (some ⟨w.heap.size,0,none⟩) 1 1] 24);have k2:=k1.alloc (by omega) (.cells #[.int .i64 2,.slice (some ⟨w.heap.size,0,none⟩) 1 1] 24);generalize w1.alloc (.cells #[.int .i64 2,.slice (some ⟨w.heap.size,0,none⟩) 1 1] 24)=w2 at *;rw [z1] at b2;obtain ⟨gE,hgE⟩:∃gE,gE=w.heap.size:=⟨_,rfl⟩;obtain ⟨gG,hgG⟩:∃gG,gG=w.heap.size+1:=⟨_,rfl⟩;rw [←hgG] at b2;rw [←hgE] at b1' b2;rw [←hgG,←hgE];have HB:=Lib.hid k2;have HE:=Lib.hid (show jr w2 w2.heap.size (some ⟨gE,0,none⟩) (jA [(0,1)]) from (jr.blk' (xs:=jA [(0,1)]) b1').more b1'.lt);have HG:=Lib.hid b2;have hgl:gG<w2.heap.size:=b2.lt;clear b1 b1' b2 k1 k2 z1 z2 hgE hgG;have HP0:=pC w2;simp only at HP0;have HP:=Lib.hid HP0;clear HP0
 go_upto_region 3 with fail
 generalize ((((w2.alloc (.cells #[.int .i64 0,.int .i64 1] 3)).alloc (.cells #[.int .i64 0] 3)).alloc (.cells #[] 3)).alloc (.cells #[.slice (some ⟨w2.heap.size+1,0,none⟩) 1 1,.slice (some ⟨w2.heap.size+1+1,0,none⟩) 0 0] 25)).alloc (.cells #[.slice (some ⟨w2.heap.size,0,none⟩) 2 2,.slice (some ⟨w2.heap.size+1+1+1,0,none⟩) 2 2] 28)=w3 at *;obtain ⟨gP,hgP⟩:∃g,g=w2.heap.size+1+1+1+1:=⟨_,rfl⟩;rw [←hgP] at HP ⊢;clear hgP;have hb3:=HP.out.bel;have HE3:=Lib.hid ((HE.out.below hb3).more hb3.size);have HG3:=Lib.hid (HG.out.below hb3 hgl);have HB3:=Lib.hid (HB.out.trans (hb3.mono HB.out.size));have hgl3:gG<w3.heap.size:=HG3.out.lt;have c0:=HG3.out.cell 0;have c1:=HG3.out.cell 1;have p0:=HP.out.p0;have p1:=HP.out.p1;simp only [List.getElem?_toArray,List.getElem?_cons_zero,List.getElem?_cons_succ] at c0 c1;have hol:∀l∈([[0],[]]:List (List Int)),l.length≤1000:=by simp
 clear hb3;go_wp2_with fail;refine (KD 2 (some ⟨gE,0,none⟩) (some ⟨w2.heap.size,0,none⟩) (some ⟨w2.heap.size+1+1+1,0,none⟩) 1 2 2 [(0,1)] [0,1] [[0],[]] w3 HE3.out (by simp) HP.out.o HP.out.u (by simp) hol).mono ?_;rintro e w4 ⟨hb4,hcase⟩;have HP4:=Lib.hid (HP.out.next hb4);have HE4:=Lib.hid ((HE3.out.below hb4).more hb4.size);have HG4:=Lib.hid (HG3.out.below hb4 hgl3);have HB4:=Lib.hid (HB3.out.trans (hb4.mono HB3.out.size));rcases hcase with ⟨en,C,c,_,hrun,rfl,hrw⟩ | ⟨hno,_⟩
 case inr=>exact absurd ⟨VC,by rw [show ((2:Int).toNat)=2 from rfl,ZI];rfl⟩ hno
 rw [show ((2:Int).toNat)=2 from rfl] at hrun hrw ⊢;rw [ZI] at hrun;injection hrun with hrun;subst hrun;rw [Wp] at hrw;have HRW4:=Lib.hid hrw.at_;have hgl4:gG<w4.heap.size:=HG4.out.lt;clear hb4 hrw c0 c1 p0 p1;have c0:=HG4.out.cell 0;have c1:=HG4.out.cell 1;have p0:=HP4.out.p0;have p1:=HP4.out.p1;simp only [List.getElem?_toArray,List.getElem?_cons_zero,List.getElem?_cons_succ] at c0 c1;go_wp2_with fail;refine (iq 2 (some ⟨gE,0,none⟩) (some ⟨w2.heap.size,0,none⟩) (some ⟨w2.heap.size+1+1+1,0,none⟩) 1 2 2 [(0,1)] [0,1] [[0],[]] w4 HE4.out (by simp) HP4.out.o HP4.out.u (by simp) hol (fun en h1 h2=>lH h1 h2)).mono ?_;rintro e w5 ⟨hb5,hcase⟩;have HE5:=Lib.hid ((HE4.out.below hb5).more hb5.size);have HG5:=Lib.hid (HG4.out.below hb5 hgl4);have HB5:=Lib.hid (HB4.out.trans (hb5.mono HB4.out.size));have HRW5:=Lib.hid ((HRW4.out.below hb5).more hb5.size);rcases hcase with ⟨en,L,cl,_,hrun,rfl,hgr⟩ | ⟨hno,_⟩
 case inr=>exact absurd ⟨VC,by rw [show ((2:Int).toNat)=2 from rfl,ZI];rfl⟩ hno
 rw [show ((2:Int).toNat)=2 from rfl] at hrun hgr ⊢;rw [ZI] at hrun;injection hrun with hrun;subst hrun;rw [Wp] at hgr ⊢;rw [dz] at hgr;rw [mB];have HGR5:=Lib.hid hgr;have hgl5:gG<w5.heap.size:=HG5.out.lt;clear hb5 hgr c0 c1 p0 p1;have HB6:=Lib.hid (Blk.new w5 3 #[.int .i64 0,.int .i64 1]);have hb6:=(Below.refl w5.heap.size w5).alloc (Nat.le_refl _) (.cells #[.int .i64 0,.int .i64 1] 3);have HE6:=Lib.hid ((HE5.out.below hb6).more hb6.size);have HG6:=Lib.hid (HG5.out.below hb6 hgl5);have HB56:=Lib.hid (HB5.out.trans (hb6.mono HB5.out.size));have HRW6:=Lib.hid ((HRW5.out.below hb6).more hb6.size);have HGR6:=Lib.hid ((HGR5.out.below hb6).more hb6.size);clear hb6;go_wp2_with fail;generalize w5.alloc (.cells #[.int .i64 0,.int .i64 1] 3)=w6 at *;refine (lD L (some ⟨w5.heap.size,0,none⟩) cl 2 [0,1] [0,1] w6 w6.heap.size HGR6.out ((jr.blk' (xs:=jf [0,1]) HB6.out).more HB6.out.lt) (by simp) (by simp)).mono ?_;rintro e w7 ⟨rfl,m,rfl⟩;have hd:decide (([0,1]:List Int)=[0,1])=true:=by simp
 rw [hd];have HB7:=Lib.hid (below_drewN HB56.out m);have HE7:=Lib.hid (show jr (w6.drewN m) (w6.drewN m).heap.size (some ⟨gE,0,none⟩) (jA [(0,1)]) from HE6.out.drewN m);have HG7:=Lib.hid (HG6.out.drewN m);have hbm:=below_drewN (Below.refl w6.heap.size w6) m;have HRW7:=Lib.hid ((HRW6.out.below hbm).more hbm.size);have HGR7:=Lib.hid ((HGR6.out.below hbm).more hbm.size);clear hd hbm;generalize w6.drewN m=w7 at *;have hgl7:gG<w7.heap.size:=HG7.out.lt;have c0:=HG7.out.cell 0;have c1:=HG7.out.cell 1;simp only [List.getElem?_toArray,List.getElem?_cons_zero,List.getElem?_cons_succ] at c0 c1;have HFT:=my 2 (some ⟨gE,0,none⟩) C L 1 c cl [(0,1)] [[0],[1]] 0 [0,1] w7 HE7.out (by simp) HRW7.out (by simp) (by simp) HGR7.out (by simp) (by simp);rw [iC] at HFT;go_wp2_with fail;refine HFT.mono ?_;rintro e w8 ⟨rfl,hb8⟩;have HB8:=Lib.hid (HB7.out.trans (hb8.mono HB7.out.size));have HRW8:=Lib.hid ((HRW7.out.below hb8).more hb8.size);have HR9:=Lib.hid (pB w8);clear HFT hb8 c0 c1;go_wp2_with fail;generalize ((w8.alloc (.cells #[.int .i64 0] 3)).alloc (.cells #[.int .i64 1] 3)).alloc (.cells #[.slice (some ⟨w8.heap.size,0,none⟩) 1 1,.slice (some ⟨w8.heap.size+1,0,none⟩) 1 1] 25)=w9 at *;have HB9:=Lib.hid (HB8.out.trans (HR9.out.2.mono HB8.out.size));have HSM:=YH C (some ⟨w8.heap.size+1+1,0,none⟩) c 2 [[0],[1]] [[0],[1]] w9 ((HRW8.out.below HR9.out.2).more HR9.out.2.size) HR9.out.1 (by simp) (by simp) (by simp);rw [iB] at HSM;refine HSM.mono ?_;rintro e w10 ⟨rfl,hb10⟩;have HB10:=Lib.hid (HB9.out.trans (hb10.mono HB9.out.size));clear HSM hb10;go_wp2_with fail;go_ret;exact ⟨rfl,HB10.out⟩
end Go.Proofs.YtneeknlhlkpnpaaGreat
/-
 The law RiseBack, walked. (Printed by backlawgen.py.) Written by an AI agent.
-/
namespace Go.Proofs.YtneeknlhlkpnpaaGreat
open Go.RowKit
set_option maxRecDepth 20000 in
set_option maxHeartbeats 8000000 in
theorem aH(n:Int)(A C:Option Addr)(cap cc:Nat)(es:List (Int×Int))(rs:List (List Int))(w:World)(hes:jr w w.heap.size A (jA es))(hcap:es.length≤cap)(hrs:vn w w.heap.size C rs) :
  Calls Tryz.prog 5 #[.agg #[.int .i64 n,.slice A es.length cap],.slice C rs.length cc] w (fun e w'=>e = .returned (.bool true)∧Below w.heap.size w w'):=by
 obtain ⟨w1,hw1⟩:∃w1,w1=w.alloc (.cells #[.int .i64 n,.slice A es.length cap] 24):=⟨_,rfl⟩;have hb1:Below w.heap.size w w1:=by rw [hw1];exact (Below.refl _ _).alloc (Nat.le_refl _) _
 have hGB:Blk w1 w.heap.size 24 #[.int .i64 n,.slice A es.length cap]:=by rw [hw1];exact Blk.new _ _ _
 have HES:=Lib.hid ((hes.below hb1).more hb1.size);have HRS:=Lib.hid ((hrs.below hb1).more hb1.size);have HGB:=Lib.hid hGB;have HBW:=Lib.hid hb1;clear hes hrs hGB hb1
 go_enter Tryz.func5,Tryz.ntmps5
 go_upto_region 1 with fail
 rw [←hw1];obtain ⟨gG,hgG⟩:∃g,g=w.heap.size:=⟨_,rfl⟩;rw [←hgG] at HGB ⊢
 have HK:=Lib.hid (show ∀wr,Below w1.heap.size w1 wr→wr.cell? ⟨gG,0,none⟩=some (.int .i64 n)∧wr.cell? ⟨gG,1,none⟩=some (.slice A es.length cap)∧jr wr wr.heap.size A (jA es)∧vn wr wr.heap.size C rs∧Below w.heap.size w wr from fun wr hb=>by
  have k0:=(HGB.out.below hb HGB.out.lt).cell 0;have k1:=(HGB.out.below hb HGB.out.lt).cell 1;simp only [List.getElem?_toArray,List.getElem?_cons_zero,List.getElem?_cons_succ] at k0 k1
  exact ⟨k0,k1,(HES.out.below hb).more hb.size,(HRS.out.below hb).more hb.size,HBW.out.trans (hb.mono HBW.out.size)⟩)
 have HB1:=Lib.hid (Below.refl w1.heap.size w1);clear hw1 hgG;go_wp2_with fail;refine (WH w1).mono ?_;rintro e w2 ⟨rfl,hb2⟩;have HB2:=Lib.hid (HB1.out.trans (hb2.mono HB1.out.size));clear hb2;obtain ⟨g0,g1,hE2,hR2,hW2⟩:=HK.out w2 HB2.out;have HE2:=Lib.hid hE2;have HR2:=Lib.hid hR2;have HW2:=Lib.hid hW2;clear hE2 hR2 hW2;go_wp2_with fail;refine (dp n A C cap cc es rs 14 w2 HR2.out.at_).mono ?_;rintro e w3 ⟨b,rfl,hb3,hg⟩;have HGR:=Lib.hid hg;clear hg;have HB3:=Lib.hid (HB2.out.trans (hb3.mono HB2.out.size));clear hb3 g0 g1;obtain ⟨g0,g1,hE3,hR3,hW3⟩:=HK.out w3 HB3.out;have HE3:=Lib.hid hE3;have HR3:=Lib.hid hR3;have HW3:=Lib.hid hW3;clear hE3 hR3 hW3
 cases b with
 | true=>
  clear HGR;go_wp2_with fail;go_ret;exact ⟨rfl,HW3.out⟩
 | false=>
 obtain ⟨hm,hr70,hr200⟩:=HGR.out rfl;have HR200:=Lib.hid (show ∀l∈rs,l.length≤1000 from fun l hl=>by have:=hr200 l hl;omega);clear hr200 HGR;go_wp2_with fail;refine (iN n A C cap cc es rs w3 HE3.out hcap HR3.out (by omega) HR200.out).mono ?_;rintro e w4 ⟨hb4,hc4⟩;have HB4:=Lib.hid (HB3.out.trans (hb4.mono HB3.out.size));clear hb4 g0 g1;obtain ⟨g0,g1,hE4,hR4,hW4⟩:=HK.out w4 HB4.out;have HE4:=Lib.hid hE4;have HR4:=Lib.hid hR4;have HW4:=Lib.hid hW4;clear hE4 hR4 hW4;rcases hc4 with ⟨hno,rfl⟩ | ⟨hgd,hrt,hnb,rfl⟩ | ⟨ord,outs,en,O,co,U,cu,hgd,hrt,hrun,hsm,rfl,hO4,hU4⟩
 ·have HNO:=Lib.hid hno;clear hno;obtain ⟨w5,hw5⟩:∃x,x=w4.alloc (.cells #[.slice none 0 0,.slice none 0 0] 28):=⟨_,rfl⟩;obtain ⟨gQ,hgQ⟩:∃g,g=w4.heap.size:=⟨_,rfl⟩;have hb5:Below w4.heap.size w4 w5:=by rw [hw5];exact (Below.refl _ _).alloc (Nat.le_refl _) _
  have HQ5:=Lib.hid (show Blk w5 gQ 28 #[.slice none 0 0,.slice none 0 0] by rw [hw5,hgQ];exact Blk.new _ _ _);have HB45:=Lib.hid hb5;have q0:=(Blk.new w4 28 #[.slice none 0 0,.slice none 0 0]).cell 0;have q1:=(Blk.new w4 28 #[.slice none 0 0,.slice none 0 0]).cell 1;simp only [List.getElem?_toArray,List.getElem?_cons_zero,List.getElem?_cons_succ] at q0 q1
  go_upto_region 7 with fail
  rw [←hw5,←hgQ];clear hw5 hgQ q0 q1;have HB5:=Lib.hid (HB4.out.trans (hb5.mono HB4.out.size));clear hb5 g0 g1;obtain ⟨g0,g1,hE5,hR5,hW5⟩:=HK.out w5 HB5.out;have HE5:=Lib.hid hE5;have HR5:=Lib.hid hR5;have HW5:=Lib.hid hW5;clear hE5 hR5 hW5;go_wp2_with fail;refine (ZE n A cap es w5 HE5.out).mono ?_;rintro e w6 ⟨rfl,hb6⟩;have HB6:=Lib.hid (HB5.out.trans (hb6.mono HB5.out.size));clear hb6 g0 g1;obtain ⟨g0,g1,hE6,hR6,hW6⟩:=HK.out w6 HB6.out;have HE6:=Lib.hid hE6;have HR6:=Lib.hid hR6;have HW6:=Lib.hid hW6;clear hE6 hR6 hW6
  cases hgb:xz n es with
  | false=>
   clear hgb;go_wp2_with fail;go_ret;exact ⟨rfl,HW6.out⟩
  | true=>
   have hnr:yn n es rs=false:=by
    cases hq:yn n es rs with
    | false=>rfl
    | true=>exact absurd ⟨jB.1 hgb,qZ.1 hq⟩ HNO.out
   have hrr:=Jy n A C cap cc es rs w6 HE6.out HR6.out.at_ (by omega) HR200.out;rw [hnr] at hrr;have HRRC:=Lib.hid hrr;clear hgb hnr hrr;go_wp2_with fail;refine HRRC.out.mono ?_;rintro e w7 ⟨rfl,hb7⟩;have HB7:=Lib.hid (HB6.out.trans (hb7.mono HB6.out.size));clear hb7 g0 g1;obtain ⟨g0,g1,hE7,hR7,hW7⟩:=HK.out w7 HB7.out;have HE7:=Lib.hid hE7;have HR7:=Lib.hid hR7;have HW7:=Lib.hid hW7;clear hE7 hR7 hW7;go_wp2_with fail;go_ret;exact ⟨rfl,HW7.out⟩
 ·obtain ⟨N,rfl⟩:∃N:Nat,n=(N:Int):=⟨n.toNat,by have:=(jP hgd.may).1;omega⟩;rw [Int.toNat_natCast] at hnb;have HGD:=Lib.hid hgd;have HRT:=Lib.hid hrt;have HNB:=Lib.hid hnb
  have HNC:=Lib.hid (show ¬(es.length=0∨gen N es rs=0 ∧ ¬xl N es rs<0) from fun h=>by
   obtain ⟨ord,outs,en,l,rF,s,h1,h2⟩:=mR HGD.out HRT.out h
   exact mQ h1 h2 HNB.out)
  have hm0:(0:Int)<es.length:=by
   have:es.length≠0:=fun e=>HNC.out (.inl e);omega
  have HRL:=Lib.hid (show rs.length=N by have:=HRT.out.len;omega);clear hgd hrt hnb;obtain ⟨w5,hw5⟩:∃x,x=w4.alloc (.cells #[.slice none 0 0,.slice none 0 0] 28):=⟨_,rfl⟩;obtain ⟨gQ,hgQ⟩:∃g,g=w4.heap.size:=⟨_,rfl⟩;have hb5:Below w4.heap.size w4 w5:=by rw [hw5];exact (Below.refl _ _).alloc (Nat.le_refl _) _
  have HQ5:=Lib.hid (show Blk w5 gQ 28 #[.slice none 0 0,.slice none 0 0] by rw [hw5,hgQ];exact Blk.new _ _ _);have HB45:=Lib.hid hb5;have q0:=(Blk.new w4 28 #[.slice none 0 0,.slice none 0 0]).cell 0;have q1:=(Blk.new w4 28 #[.slice none 0 0,.slice none 0 0]).cell 1;simp only [List.getElem?_toArray,List.getElem?_cons_zero,List.getElem?_cons_succ] at q0 q1
  go_upto_region 7 with fail
  rw [←hw5,←hgQ];clear hw5 hgQ q0 q1;have HB5:=Lib.hid (HB4.out.trans (hb5.mono HB4.out.size));clear hb5 g0 g1;obtain ⟨g0,g1,hE5,hR5,hW5⟩:=HK.out w5 HB5.out;have HE5:=Lib.hid hE5;have HR5:=Lib.hid hR5;have HW5:=Lib.hid hW5;clear hE5 hR5 hW5;have hgo:=ZE N A cap es w5 HE5.out;rw [show xz N es=true from jB.2 HGD.out] at hgo;have HGO:=Lib.hid hgo;clear hgo;go_wp2_with fail;refine HGO.out.mono ?_;rintro e w6 ⟨rfl,hb6⟩;have HB6:=Lib.hid (HB5.out.trans (hb6.mono HB5.out.size));clear hb6 g0 g1;obtain ⟨g0,g1,hE6,hR6,hW6⟩:=HK.out w6 HB6.out;have HE6:=Lib.hid hE6;have HR6:=Lib.hid hR6;have HW6:=Lib.hid hW6;clear hE6 hR6 hW6;have hrr:=Jy N A C cap cc es rs w6 HE6.out HR6.out.at_ (by omega) HR200.out;rw [qZ.2 HRT.out] at hrr;have HRRC:=Lib.hid hrr;clear hrr;go_wp2_with fail;refine HRRC.out.mono ?_;rintro e w7 ⟨rfl,hb7⟩;have HB7:=Lib.hid (HB6.out.trans (hb7.mono HB6.out.size));clear hb7 g0 g1;obtain ⟨g0,g1,hE7,hR7,hW7⟩:=HK.out w7 HB7.out;have HE7:=Lib.hid hE7;have HR7:=Lib.hid hR7;have HW7:=Lib.hid hW7;clear hE7 hR7 hW7;go_wp2_with fail;refine (Zk N A C cap cc es rs w7 HE7.out HR7.out.at_ (by omega) HR200.out HRT.out).mono ?_;rintro e w8 ⟨rfl,hb8⟩;have HB8:=Lib.hid (HB7.out.trans (hb8.mono HB7.out.size));clear hb8 g0 g1;obtain ⟨g0,g1,hE8,hR8,hW8⟩:=HK.out w8 HB8.out;have HE8:=Lib.hid hE8;have HR8:=Lib.hid hR8;have HW8:=Lib.hid hW8;clear hE8 hR8 hW8;by_cases hg0:gen N es rs=0
  case neg=>
   have hgp:(0:Int)<(gen N es rs:Nat):=by omega
   clear hg0;generalize gen N es rs=gn at *;go_wp2_with fail;go_ret;exact ⟨rfl,HW8.out⟩
  case pos=>
   rw [hg0];have HG0:=Lib.hid hg0;clear hg0;have hou:xl N es rs<0:=Classical.byContradiction fun h=>HNC.out (.inr ⟨HG0.out,by omega⟩);have HOU:=Lib.hid (UX N A C cap cc es rs w8 HE8.out HR8.out.at_ (by omega) HR200.out HRT.out HRL.out);generalize xl N es rs=ov at *;go_wp2_with fail;refine HOU.out.mono ?_;rintro e w9 ⟨rfl,hb9⟩;have HB9:=Lib.hid (HB8.out.trans (hb9.mono HB8.out.size));clear hb9 g0 g1;obtain ⟨g0,g1,hE9,hR9,hW9⟩:=HK.out w9 HB9.out;have HE9:=Lib.hid hE9;have HR9:=Lib.hid hR9;have HW9:=Lib.hid hW9;clear hE9 hR9 hW9;go_wp2_with fail;go_ret;exact ⟨rfl,HW9.out⟩
 ·obtain ⟨N,rfl⟩:∃N:Nat,n=(N:Int):=⟨n.toNat,by have:=(jP hgd.may).1;omega⟩;rw [Int.toNat_natCast] at hrun hsm;obtain ⟨pl,rF,s,hPl⟩:=Zy hgd hrun;have HGD:=Lib.hid hgd;have HRT:=Lib.hid hrt;have HRUN:=Lib.hid hrun;have HSMB:=Lib.hid hsm;have HPL:=Lib.hid hPl;have hN64:N≤64:=by have:=(jP hgd.may).2.1;omega
  have HRL:=Lib.hid (show rs.length=N by have:=HRT.out.len;omega)
  have HOR:=Lib.hid (show ord.length≤1000 by
   have:=hPl.onat;have h2:=hPl.perm.length_eq;rw [List.length_range] at h2;rw [this];unfold yd;rw [List.length_map]
   omega)
  have HOL:=Lib.hid (show ∀l∈outs,l.length≤1000 from fun l hl=>by
   obtain ⟨x,hx,rfl⟩:=List.getElem_of_mem hl;have h1:=(HPL.out.outp x (by rw [←HPL.out.outl];exact hx)).length_eq;rw [List.getD_eq_getElem?_getD,List.getElem?_eq_getElem hx,Option.getD_some] at h1;have:=qd es Prod.fst (x:Nat) es.length
   omega)
  have HO4:=Lib.hid hO4;have HU4:=Lib.hid hU4;clear hgd hrt hrun hsm hPl hO4 hU4;obtain ⟨w5,hw5⟩:∃x,x=w4.alloc (.cells #[.slice O ord.length co,.slice U outs.length cu] 28):=⟨_,rfl⟩;obtain ⟨gQ,hgQ⟩:∃g,g=w4.heap.size:=⟨_,rfl⟩;have hb5:Below w4.heap.size w4 w5:=by rw [hw5];exact (Below.refl _ _).alloc (Nat.le_refl _) _
  have HQ5:=Lib.hid (show Blk w5 gQ 28 #[.slice O ord.length co,.slice U outs.length cu] by rw [hw5,hgQ];exact Blk.new _ _ _);have HB45:=Lib.hid hb5;have q0:=(Blk.new w4 28 #[.slice O ord.length co,.slice U outs.length cu]).cell 0;have q1:=(Blk.new w4 28 #[.slice O ord.length co,.slice U outs.length cu]).cell 1;simp only [List.getElem?_toArray,List.getElem?_cons_zero,List.getElem?_cons_succ] at q0 q1
  go_upto_region 7 with fail
  rw [←hw5,←hgQ];clear hw5 hgQ q0 q1;have HB5:=Lib.hid (HB4.out.trans (hb5.mono HB4.out.size));clear hb5 g0 g1;obtain ⟨g0,g1,hE5,hR5,hW5⟩:=HK.out w5 HB5.out;have HE5:=Lib.hid hE5;have HR5:=Lib.hid hR5;have HW5:=Lib.hid hW5;clear hE5 hR5 hW5;have hgo:=ZE N A cap es w5 HE5.out;rw [show xz N es=true from jB.2 HGD.out] at hgo;have HGO:=Lib.hid hgo;clear hgo;go_wp2_with fail;refine HGO.out.mono ?_;rintro e w6 ⟨rfl,hb6⟩;have HB56:=Lib.hid hb6;have HB6:=Lib.hid (HB5.out.trans (hb6.mono HB5.out.size));clear hb6 g0 g1;obtain ⟨g0,g1,hE6,hR6,hW6⟩:=HK.out w6 HB6.out;have HE6:=Lib.hid hE6;have HR6:=Lib.hid hR6;have HW6:=Lib.hid hW6;clear hE6 hR6 hW6;have hrr:=Jy N A C cap cc es rs w6 HE6.out HR6.out.at_ (by omega) HR200.out;rw [qZ.2 HRT.out] at hrr;have HRRC:=Lib.hid hrr;clear hrr;go_wp2_with fail;refine HRRC.out.mono ?_;rintro e w7 ⟨rfl,hb7⟩;have HB57:=Lib.hid (HB56.out.trans (hb7.mono HB56.out.size));have HB7:=Lib.hid (HB6.out.trans (hb7.mono HB6.out.size));clear hb7 g0 g1;obtain ⟨g0,g1,hE7,hR7,hW7⟩:=HK.out w7 HB7.out;have HE7:=Lib.hid hE7;have HR7:=Lib.hid hR7;have HW7:=Lib.hid hW7;clear hE7 hR7 hW7
  have HFIN:=Lib.hid (show ∀w9,Below w5.heap.size w5 w9→Calls Tryz.prog 31 #[.agg #[.int .i64 N,.slice A es.length cap],.agg #[.slice O ord.length co,.slice U outs.length cu]] w9 (fun e w'=>∃D d,e = .returned (.tuple #[.slice D N d,.bool true])∧Below w9.heap.size w9 w'∧qm w' w'.heap.size D (jS N outs en))∧w9.cell? ⟨gQ,0,none⟩=some (.slice O ord.length co)∧w9.cell? ⟨gQ,1,none⟩=some (.slice U outs.length cu) from fun w9 hb=>by
   have hb2:=HB45.out.trans (hb.mono HB45.out.size);obtain ⟨_,_,hE,_⟩:=HK.out w9 (HB5.out.trans (hb.mono HB5.out.size));have k0:=(HQ5.out.below hb HQ5.out.lt).cell 0;have k1:=(HQ5.out.below hb HQ5.out.lt).cell 1;simp only [List.getElem?_toArray,List.getElem?_cons_zero,List.getElem?_cons_succ] at k0 k1;refine ⟨(gh N A O U cap co cu es ord outs w9 hE ((HO4.out.below hb2).more hb2.size) ((HU4.out.below hb2).more hb2.size) (by omega) HOL.out HOR.out).mono ?_,k0,k1⟩;rintro e w' ⟨hb',hc'⟩;rw [Int.toNat_natCast] at hc';rcases hc' with ⟨en',D,d,_,h2,rfl,h3⟩ | ⟨hno,_⟩
   ·rw [HRUN.out] at h2;rw [←Option.some.inj h2,HPL.out.wrapped] at h3;exact ⟨D,d,rfl,hb',h3⟩
   ·exact absurd ⟨HGD.out,by rw [HRUN.out];rfl⟩ hno)
  have HRTT:=Lib.hid (show ∀l∈jS N outs en,l.length≤1000 from fun l hl=>by have:=VQ HPL.out.right l hl;omega);obtain ⟨mt,hmt⟩:∃mt,mt=jS N outs en:=⟨_,rfl⟩;have HMTL:=Lib.hid (show mt.length=N by rw [hmt,qB]);have HS11:=Lib.hid (show uw mt rs=true by rw [hmt,fW];exact HSMB.out);rw [←hmt] at HFIN HRTT;clear hmt;by_cases hm0:es.length=0
  ·have hm0':¬(0:Int)<es.length:=by omega
   obtain ⟨hT,q0,q1⟩:=HFIN.out w7 HB57.out;have HT:=Lib.hid hT;clear hm0 hT;go_wp2_with fail;refine HT.out.mono ?_;rintro e w10 ⟨D,d,rfl,hb10,hr10⟩;have HB10:=Lib.hid (HB7.out.trans (hb10.mono HB7.out.size));obtain ⟨_,_,_,hR10,_⟩:=HK.out w10 HB10.out;have hs:=YH D C d cc mt rs w10 hr10 hR10.at_ HRTT.out HR200.out (by rw [HMTL.out];omega);rw [HS11.out,HMTL.out] at hs;have HS:=Lib.hid hs;clear hb10 hr10 hR10 hs q0 q1;go_wp2_with fail;refine HS.out.mono ?_;rintro e w11 ⟨rfl,hb11⟩;obtain ⟨_,_,_,_,hW11⟩:=HK.out w11 (HB10.out.trans (hb11.mono HB10.out.size));have HW11:=Lib.hid hW11;clear hb11 hW11;go_wp2_with fail;go_ret;exact ⟨rfl,HW11.out⟩
  ·have hm0':(0:Int)<es.length:=by omega
   obtain ⟨hg0,hou⟩:=pa HPL.out HSMB.out (by omega);have HGN:=Zk N A C cap cc es rs w7 HE7.out HR7.out.at_ (by omega) HR200.out HRT.out;rw [hg0] at HGN;have HGN:=Lib.hid HGN;have HOU:=Lib.hid hou;clear hm0 hg0 hou;go_wp2_with fail;refine HGN.out.mono ?_;rintro e w8 ⟨rfl,hb8⟩;have HB58:=Lib.hid (HB57.out.trans (hb8.mono HB57.out.size));have HB8:=Lib.hid (HB7.out.trans (hb8.mono HB7.out.size));clear hb8 g0 g1;obtain ⟨g0,g1,hE8,hR8,hW8⟩:=HK.out w8 HB8.out;have HE8:=Lib.hid hE8;have HR8:=Lib.hid hR8;have HW8:=Lib.hid hW8;clear hE8 hR8 hW8;have HOT:=Lib.hid (UX N A C cap cc es rs w8 HE8.out HR8.out.at_ (by omega) HR200.out HRT.out HRL.out);have hou:=HOU.out;generalize xl N es rs=ov at *;go_wp2_with fail;refine HOT.out.mono ?_;rintro e w9 ⟨rfl,hb9⟩;have HB59:=Lib.hid (HB58.out.trans (hb9.mono HB58.out.size));have HB9:=Lib.hid (HB8.out.trans (hb9.mono HB8.out.size));clear hb9 g0 g1;obtain ⟨g0,g1,hE9,hR9,hW9⟩:=HK.out w9 HB9.out;have HE9:=Lib.hid hE9;have HR9:=Lib.hid hR9;have HW9:=Lib.hid hW9;clear hE9 hR9 hW9;obtain ⟨hT,q0,q1⟩:=HFIN.out w9 HB59.out;have HT:=Lib.hid hT;clear hT;go_wp2_with fail;refine HT.out.mono ?_;rintro e w10 ⟨D,d,rfl,hb10,hr10⟩;have HB10:=Lib.hid (HB9.out.trans (hb10.mono HB9.out.size));obtain ⟨_,_,_,hR10,_⟩:=HK.out w10 HB10.out;have hs:=YH D C d cc mt rs w10 hr10 hR10.at_ HRTT.out HR200.out (by rw [HMTL.out];omega);rw [HS11.out,HMTL.out] at hs;have HS:=Lib.hid hs;clear hb10 hr10 hR10 hs q0 q1;go_wp2_with fail;refine HS.out.mono ?_;rintro e w11 ⟨rfl,hb11⟩;obtain ⟨_,_,_,_,hW11⟩:=HK.out w11 (HB10.out.trans (hb11.mono HB10.out.size));have HW11:=Lib.hid hW11;clear hb11 hW11;go_wp2_with fail;go_ret;exact ⟨rfl,HW11.out⟩
end Go.Proofs.YtneeknlhlkpnpaaGreat
/-
 From a contract to the row: arguments opened to lists, the law's post. The opening of slices of structs is after the kit's page on structs. Written by an AI agent.
-/
namespace Go.Proofs.YtneeknlhlkpnpaaGreat
open Go.ChangeShapes Go.WideShapes Go.ChangeAt Go.RowKit Go.Deep Go.Joins
theorem own:ownKnob Tryz.prog.godebug=none:=by kernel_rfl
theorem oO:laidOutB Tryz.prog=true:=by kernel_rfl
section
variable {H:Type}{enc:TypeId×Value→H}{P:Program}{w:World}{base:Nat}{spare:Nat→Bool}{held:Bool}
theorem uB{t e:TypeId}{fs:Array Field}{fuel:Nat}{cs:List Value}{x:DataW H×List MemPlace}(ht:P.underlying t=some (.slice e))(he:P.underlying e=some (.struct fs))
  (hone:oneCellFields P fs=true) (hC:P.cellsOf e=fs.size) (h:DataW.trod enc P w base spare held fuel t cs=some x) :
  (cs=[.slice none 0 0]∧x=(.nil,[])) ∨
  ∃(a:Addr) (len cap m:Nat) (D:Nat→DataW H) (Pl:Nat→List MemPlace),cs=[.slice (some a) len cap]∧base≤a.block∧len≤cap∧cap≤maxLen∧m=(if spare a.block then cap else len) ∧
   x=(.slice ((List.range len).map D) ((List.range (m-len)).map fun j=>D (len+j)),MemPlace.row a (m*fs.size)++(List.range m).flatMap Pl) ∧
   ∀i,i<m → ∃(ys:List (DataW H×List MemPlace)) (n:Nat),D i = .agg (ys.map (·.1))∧Pl i=ys.flatMap (·.2)∧ys.length=fs.size ∧
    ∀(j:Nat) (f:Field),fs[j]? = some f → ∃(v:Value) (y:DataW H×List MemPlace),w.cell? (a.add (i*fs.size+j))=some v∧ys[j]? = some y∧DataW.trod enc P w base spare held n f.type [v]=some y:=by
 rcases open_slice ht h with h0 | ⟨a,len,cap,m,n,D,Pl,hcs,hb,hl,hm,hmm,hx,hi⟩
 ·exact .inl h0
 ·refine .inr ⟨a,len,cap,m,D,Pl,hcs,hb,hl,hm,hmm,by rw [hC] at hx;exact hx,fun i him=>?_⟩;obtain ⟨cs',hc,ht'⟩:=hi i him;rw [hC] at hc;obtain ⟨ys,n',hn',hy,hlen,hyl,hf⟩:=DataW.trod_struct he ht';obtain ⟨_,hcl,hat⟩:=World.cells?_some hc;simp only [Prod.mk.injEq] at hy;refine ⟨ys,n',hy.1,hy.2,hyl,fun j f hj=>?_⟩;obtain ⟨ho,hk⟩:=hone_of hone j f hj;have hjl:j<fs.size:=(Array.getElem?_eq_some_iff.1 hj).1;have hcell:=hat j hjl;have hv:cs'[j]? = some (cs'[j]'(by omega)):=List.getElem?_eq_getElem (by omega);have h1:=hf j f hj;rw [ho,hk] at h1
  have hone':(cs'.drop j).take 1=[cs'[j]'(by omega)]:=by
   rw [List.drop_eq_getElem_cons (by omega)];rfl
  rw [hone'] at h1;have hys:ys[j]? = some (ys[j]'(by omega)):=List.getElem?_eq_getElem (by omega);refine ⟨_,_,?_,hys,h1.trans hys⟩;rw [←Go.Deep.add_add,hcell,hv]
end
section
variable {H:Type}{enc:TypeId×Value→H}{W W':World}
theorem Yt{P:Program}(hl:laidOutB P=true)(hb:Below W.heap.size W W'):∀ {ts:List TypeId} {vs:List Value} {ds:List (DataW H)} {ps:List MemPlace},(∀t∈ts,P.readableRec t=true∧t<P.types.size) →
  DataW.TrodAll enc P W 0 (fun _=>true) true ts vs ds ps→(∀x∈ps,x.block<W.heap.size)→DataW.TrodAll enc P W' 0 (fun b=>decide (b<W.heap.size)) true ts vs ds ps
 | [],vs,ds,ps,_,h,_=>by
  obtain ⟨rfl,rfl,rfl⟩:=trodAll_nil h;exact trodAll_mk0
 | t::ts,vs,ds,ps,ht,h,hp=>by
  obtain ⟨v,vs',d,ds',p,q,rfl,rfl,rfl,h1,h2⟩:=trodAll_cons h;obtain ⟨hr,hrow⟩:=ht t (List.mem_cons_self ..);exact trodAll_cons_mk (Below.trod hl hr hrow h1 hb fun x hx=>hp x (List.mem_append_left _ hx)) (Yt hl hb (fun t' h'=>ht t' (List.mem_cons_of_mem _ h')) h2 fun x hx=>hp x (List.mem_append_right _ hx))
set_option maxRecDepth 100000 in
theorem mo{P:Program}{f:Func}{s:ChangeSpec}{args:Array Value}{ds:List (DataW H)}{before:List MemPlace}{T:TypeId}(hl:laidOutB P=true)
  (hts:f.params.toList.all (fun t=>P.readableRec t&&decide (t<P.types.size))=true) (hvars:s.vars=[])
  (hW:DataW.Whole enc P f.params.toList s.vars false W args.toList ds [] before) (hfn:s.fn H (ds++[]) = { results:=[.lit (.bool true)],args:=ds })
  (hrt:f.resultTypes = #[T]) (hT:P.underlying T=some .bool) (hb:Below W.heap.size W W'):s.post enc P f false true false false W args (.bool true) W':=by
 have hW':=hW;obtain ⟨p,q,hA,hV,rfl,_,_⟩:=hW;have hlt:∀x∈p,x.block<W.heap.size:=fun x hx=>hW'.lt x (List.mem_append_left _ hx);refine ⟨_,_,_,[],p,[],hW',?_,?_,?_,hb.frame _,fun h=>by cases h⟩
 ·rw [hfn,hrt];exact trodAll_mk1 (shut_bool hT true)
 ·rw [hfn];exact Yt hl hb (fun t ht=>by simpa using List.all_eq_true.1 hts t ht) hA hlt
 ·rw [hfn,hvars];rfl
set_option maxRecDepth 100000 in
theorem pu{v:Value}{d:DataW H}{p:List MemPlace}{b:Nat}(hv:Value.okWide Tryz.prog W .any b 24 v)(h:DataW.Trod enc Tryz.prog W 0 (fun _=>true) true 24 v d p)(hlt:∀x∈p,x.block<W.heap.size) :
  ∃(n:Int) (A:Option Addr) (cap:Nat) (es:List (Int×Int)),v = .agg #[.int .i64 n,.slice A es.length cap]∧jr W W.heap.size A (jA es)∧(Lit.int .i64 n).wf=true∧es.length≤maxLen:=by
 obtain ⟨c0,c1,y0,y1,m,rfl,rfl,rfl,hy0,hy1⟩:=open_agg2 Tryz.underlying24 (by kernel_rfl) (by kernel_rfl) hv h;obtain ⟨n,e0,rfl,wn⟩:=DataW.trod_int Tryz.underlying3 hy0;simp at e0;subst e0;rcases uB Tryz.underlying22 Tryz.underlying66 (by kernel_rfl) (by kernel_rfl) hy1 with ⟨e1,rfl⟩ | ⟨a,len,cap,m',D,Pl,e1,_,hl,hm,hmm,rfl,hi⟩
 ·simp at e1;subst e1;exact ⟨n,none,0,[],rfl,jr.nil,wn,Nat.zero_le _⟩
 ·simp at e1;subst e1;simp only [if_true] at hmm;subst hmm
  let z (k:Nat):Int:=match W.cell? (a.add k) with | some (.int _ z)=>z | _=>0
  have hz:∀i,i<len→W.cell? (a.add (i*2))=some (.int .i64 (z (i*2)))∧W.cell? (a.add (i*2+1))=some (.int .i64 (z (i*2+1))):=by
   intro i hil;obtain ⟨ys,k,_,_,_,hf⟩:=hi i (by omega);obtain ⟨v0,y0,hc0,_,ht0⟩:=hf 0 _ rfl;obtain ⟨v1,y1,hc1,_,ht1⟩:=hf 1 _ rfl;obtain ⟨z0,e0,_,_⟩:=DataW.trod_int Tryz.underlying3 ht0;obtain ⟨z1,e1,_,_⟩:=DataW.trod_int Tryz.underlying3 ht1;simp at e0 e1;subst e0 e1;have h0:W.cell? (a.add (i*2))=some (.int .i64 z0):=hc0;have h1:W.cell? (a.add (i*2+1))=some (.int .i64 z1):=hc1;refine ⟨?_,?_⟩
   ·rw [h0];simp only [z,h0]
   ·rw [h1];simp only [z,h1]
  have hel:((List.range len).map fun i=>(z (i*2),z (i*2+1))).length=len:=by simp
  refine ⟨n,some a,_,(List.range len).map fun i=>(z (i*2),z (i*2+1)),by rw [hel],fun hpos=>?_,wn,by rw [hel];omega⟩;rw [zD,hel] at hpos;obtain ⟨b,off,spot⟩:=a
  have hspot:spot=none:=by
   have:=(hz 0 (by omega)).1;simpa [Addr.add] using World.cell?_spot this
  subst hspot;have hadd:∀k,(⟨b,off,none⟩:Addr).add k=⟨b,off+k,none⟩:=fun k=>by unfold Addr.add;split<;>simp_all
  have hbl:b<W.heap.size:=by
   have:=(hz 0 (by omega)).1;rw [hadd] at this;exact World.block_lt_of_cell? W _ this
  refine ⟨b,off,rfl,hbl,fun j u hj=>?_⟩
  have hjl:j<2*len:=by
   have:=(List.getElem?_eq_some_iff.1 hj).1;rw [zD,hel] at this;exact this
  have key:=JA ((List.range len).map fun i=>(z (i*2),z (i*2+1))) (j/2) (by rw [hel];omega);obtain ⟨k0,k1⟩:=key;have hzj:=hz (j/2) (by omega);rw [hadd,hadd] at hzj;rcases Nat.mod_two_eq_zero_or_one j with h2 | h2
  ·have ej:2*(j/2)=j:=by omega
   rw [ej] at k0;rw [k0] at hj;injection hj with hj;subst hj;have:=hzj.1;rw [Nat.mul_comm,ej] at this;rw [this];simp only [List.getElem_map,List.getElem_range,Nat.mul_comm (j/2) 2,ej]
  ·have ej:2*(j/2)+1=j:=by omega
   rw [ej] at k1;rw [k1] at hj;injection hj with hj;subst hj;have:=hzj.2;rw [Nat.mul_comm,ej] at this;rw [this];simp only [List.getElem_map,List.getElem_range,Nat.mul_comm (j/2) 2,ej]
end
end Go.Proofs.YtneeknlhlkpnpaaGreat
namespace Go.Proofs.YtneeknlhlkpnpaaGreat
open Go.ChangeShapes Go.WideShapes Go.ChangeAt Go.RowKit Go.Deep Go.Joins
section
variable {H:Type}{enc:TypeId×Value→H}{W:World}
theorem Wy{a:Addr}{v:Value}(h:W.cell? (a.add 0)=some v):∃b off,a=⟨b,off,none⟩∧b<W.heap.size ∧ ∀j,a.add j=⟨b,off+j,none⟩:=by
 obtain ⟨b,off,spot⟩:=a;have hspot:spot=none:=by simpa [Addr.add] using World.cell?_spot h
 subst hspot;have hadd:∀k,(⟨b,off,none⟩:Addr).add k=⟨b,off+k,none⟩:=fun k=>by unfold Addr.add;split<;>simp_all
 rw [hadd] at h;exact ⟨b,off,rfl,World.block_lt_of_cell? W _ h,hadd⟩
set_option maxRecDepth 100000 in
theorem gX{v:Value}{d:DataW H}{p:List MemPlace}{b0:Nat}(hv:Value.okWide Tryz.prog W .any b0 26 v)(h:DataW.Trod enc Tryz.prog W 0 (fun _=>true) true 26 v d p) :
  ∃(A:Option Addr) (cap:Nat) (rs:List (List Int)),v = .slice A rs.length cap∧vn W W.heap.size A rs:=by
 obtain ⟨fuel,hf⟩:=h;obtain ⟨a0,n0,c0,rfl⟩:=okWide_slice Tryz.underlying26 hv;rcases open_int_rows Tryz.underlying26 Tryz.underlying25 Tryz.underlying3 (by kernel_rfl) (by kernel_rfl) hf with ⟨e1,_⟩ | ⟨a,len,cap,A,L,C,Z,e1,_,hl,hm,_,hr⟩
 ·simp [Value.cells] at e1;obtain ⟨rfl,rfl,rfl⟩:=e1;exact ⟨none,0,[],rfl,fun h=>absurd h (by simp)⟩
 ·simp [Value.cells] at e1;obtain ⟨rfl,rfl,rfl⟩:=e1;have hlen:((List.range n0).map fun r=>(Z r).take (L r)).length=n0:=by simp
  refine ⟨some a,c0,(List.range n0).map fun r=>(Z r).take (L r),by rw [hlen],fun hp=>?_⟩;rw [hlen] at hp;obtain ⟨b,off,rfl,hb,hadd⟩:=Wy (hr 0 (by omega)).1;refine ⟨b,off,rfl,hb,fun i hi=>?_⟩;rw [hlen] at hi;obtain ⟨h1,h2,h3,h4,_,h6,h7⟩:=hr i (by omega);rw [hadd] at h1;have hil:(((List.range n0).map fun r=>(Z r).take (L r))[i]'(by rw [hlen];exact hi))=(Z i).take (L i):=by simp
  have hl2:((Z i).take (L i)).length=L i:=by simp;omega
  refine ⟨A i,C i,by rw [hil,hl2];exact h1,?_,by rw [hil,hl2];exact h2⟩;rw [hil];intro hp2;have hp2:0<L i:=by simp [jf] at hp2;omega
  cases hA:A i with
  | none=>rw [h6 hA] at h2;omega
  | some a'=>
   obtain ⟨_,hc⟩:=h7 a' hA;obtain ⟨b',off',rfl,hb',hadd'⟩:=Wy (hc 0 (by omega));refine ⟨b',off',rfl,hb',fun j u hj=>?_⟩;simp only [jf,List.getElem?_map,Option.map_eq_some_iff] at hj;obtain ⟨z,hz',rfl⟩:=hj;rw [List.getElem?_take] at hz'
   split at hz'
   ·have:=hc j (by omega);rw [hadd'] at this;rw [this,List.getD_eq_getElem?_getD,hz'];rfl
   ·cases hz'
end
end Go.Proofs.YtneeknlhlkpnpaaGreat
namespace Go.Proofs.YtneeknlhlkpnpaaGreat
open Go.ChangeShapes Go.WideShapes Go.ChangeAt Go.RowKit Go.Deep Go.Joins
section
variable {H:Type}{enc:TypeId×Value→H}{W W':World}
set_option maxRecDepth 100000 in
theorem ao{v:Value}{d:DataW H}{p:List MemPlace}{b:Nat}(hv:Value.okWide Tryz.prog W .any b 24 v)(h:DataW.Trod enc Tryz.prog W 0 (fun _=>true) true 24 v d p)(hlt:∀x∈p,x.block<W.heap.size) :
  ∃(n:Int) (A:Option Addr) (cap:Nat) (es:List (Int×Int)),v = .agg #[.int .i64 n,.slice A es.length cap]∧jr W W.heap.size A (jA es)∧(Lit.int .i64 n).wf=true∧es.length≤maxLen∧es.length≤cap:=by
 obtain ⟨c0,c1,y0,y1,m,rfl,rfl,rfl,hy0,hy1⟩:=open_agg2 Tryz.underlying24 (by kernel_rfl) (by kernel_rfl) hv h;obtain ⟨n,e0,rfl,wn⟩:=DataW.trod_int Tryz.underlying3 hy0;simp at e0;subst e0;rcases uB Tryz.underlying22 Tryz.underlying66 (by kernel_rfl) (by kernel_rfl) hy1 with ⟨e1,rfl⟩ | ⟨a,len,cap,m',D,Pl,e1,_,hl,hm,hmm,rfl,hi⟩
 ·simp at e1;subst e1;exact ⟨n,none,0,[],rfl,jr.nil,wn,Nat.zero_le _,Nat.le_refl _⟩
 ·simp at e1;subst e1;simp only [if_true] at hmm;subst hmm
  let z (k:Nat):Int:=match W.cell? (a.add k) with | some (.int _ z)=>z | _=>0
  have hz:∀i,i<len→W.cell? (a.add (i*2))=some (.int .i64 (z (i*2)))∧W.cell? (a.add (i*2+1))=some (.int .i64 (z (i*2+1))):=by
   intro i hil;obtain ⟨ys,k,_,_,_,hf⟩:=hi i (by omega);obtain ⟨v0,y0,hc0,_,ht0⟩:=hf 0 _ rfl;obtain ⟨v1,y1,hc1,_,ht1⟩:=hf 1 _ rfl;obtain ⟨z0,e0,_,_⟩:=DataW.trod_int Tryz.underlying3 ht0;obtain ⟨z1,e1,_,_⟩:=DataW.trod_int Tryz.underlying3 ht1;simp at e0 e1;subst e0 e1;have h0:W.cell? (a.add (i*2))=some (.int .i64 z0):=hc0;have h1:W.cell? (a.add (i*2+1))=some (.int .i64 z1):=hc1;refine ⟨?_,?_⟩
   ·rw [h0];simp only [z,h0]
   ·rw [h1];simp only [z,h1]
  have hel:((List.range len).map fun i=>(z (i*2),z (i*2+1))).length=len:=by simp
  refine ⟨n,some a,_,(List.range len).map fun i=>(z (i*2),z (i*2+1)),by rw [hel],fun hpos=>?_,wn,by rw [hel];omega,by rw [hel];exact hl⟩;rw [zD,hel] at hpos;obtain ⟨b,off,spot⟩:=a
  have hspot:spot=none:=by
   have:=(hz 0 (by omega)).1;simpa [Addr.add] using World.cell?_spot this
  subst hspot;have hadd:∀k,(⟨b,off,none⟩:Addr).add k=⟨b,off+k,none⟩:=fun k=>by unfold Addr.add;split<;>simp_all
  have hbl:b<W.heap.size:=by
   have:=(hz 0 (by omega)).1;rw [hadd] at this;exact World.block_lt_of_cell? W _ this
  refine ⟨b,off,rfl,hbl,fun j u hj=>?_⟩
  have hjl:j<2*len:=by
   have:=(List.getElem?_eq_some_iff.1 hj).1;rw [zD,hel] at this;exact this
  have key:=JA ((List.range len).map fun i=>(z (i*2),z (i*2+1))) (j/2) (by rw [hel];omega);obtain ⟨k0,k1⟩:=key;have hzj:=hz (j/2) (by omega);rw [hadd,hadd] at hzj;rcases Nat.mod_two_eq_zero_or_one j with h2 | h2
  ·have ej:2*(j/2)=j:=by omega
   rw [ej] at k0;rw [k0] at hj;injection hj with hj;subst hj;have:=hzj.1;rw [Nat.mul_comm,ej] at this;rw [this];simp only [List.getElem_map,List.getElem_range,Nat.mul_comm (j/2) 2,ej]
  ·have ej:2*(j/2)+1=j:=by omega
   rw [ej] at k1;rw [k1] at hj;injection hj with hj;subst hj;have:=hzj.2;rw [Nat.mul_comm,ej] at this;rw [this];simp only [List.getElem_map,List.getElem_range,Nat.mul_comm (j/2) 2,ej]
end
end Go.Proofs.YtneeknlhlkpnpaaGreat
