import Derived.Test.YtneeknlhlkpnpaaGreatZWeb
import Derived.Test.YtneeknlhlkpnpaaGreatZAsg
import Derived.Test.YtneeknlhlkpnpaaGreatZAng1
import Derived.Test.YtneeknlhlkpnpaaGreatZFaceOrb
import Derived.Shelf.Sort.Plain
import Derived.Shelf.Slices.CompactI
import Derived.Shelf.Slices.In.SortNone
import Derived.Test.YtneeknlhlkpnpaaGreatZMem
import Derived.Test.YtneeknlhlkpnpaaGreatZVw
/-
 How many parts the web has: the counts (plain law). Written by an AI agent.
-/
namespace Go.Proofs.YtneeknlhlkpnpaaGreat
open Go.RowKit
def VG(es:List (Int×Int))(rs:List (List Int))(x:Nat):Prop:=∃h,h<2*es.length∧vtx es h=x∧zt es rs h=2
section
variable {n:Int}{es:List (Int×Int)}{rs:List (List Int)}
/-- where all edges end, all angles are High -/
theorem WQ(hR:RightP n es rs){x:Nat}(ho:zI es x)(hne:¬qe es x):VG es rs x:=by
 obtain ⟨k,hk,hv,he⟩:=ho;refine ⟨k,hk,hv,(vM _ _).2 ⟨he,?_⟩⟩;obtain ⟨h1,h2⟩:=qS hR hk
 cases hs:ev (sig es rs k) with
 | false=>rfl
 | true=>exact absurd ⟨sig es rs k,h1,h2.trans hv,hs⟩ hne
theorem dJ(hR:RightP n es rs)(h1:cls (Q es es.length) rs.length=1)(he:0<es.length):iso rs=0:=by
 unfold iso;rw [List.countP_eq_zero];intro x hx;have hx:=List.mem_range.1 hx;rw [decide_eq_true_eq];intro h0;have ht:=ZB (ya hR) h1 he hx
 have:∃k,k<2*es.length∧vtx es k=x:=by
  rcases ht with ⟨k,hk,hv,_⟩ | ⟨k,hk,hv,_⟩<;>exact ⟨k,hk,hv⟩
 obtain ⟨k,hk,hv⟩:=this;obtain ⟨y,i,hy,hi,_,hvy⟩:=hR.pos hk;have:y=x:=by rw [←hvy,hv]
 subst this;rw [List.getD_eq_getElem?_getD,List.getElem?_eq_getElem hy] at h0;simp at h0;rw [h0] at hi;simp at hi
theorem XZ(h:xp n es rs=true)(he:0<es.length):rs.length+(jo n es rs).length=es.length+2:=by
 have hR:=yF h;have h1:=Qv h;have h2:=JQ hR (ya hR);have h3:=dJ hR h1 he
 have h4:gen n es rs=0:=by
  unfold xp at h;simp only [Bool.and_eq_true,decide_eq_true_eq] at h;exact h.2.1
 rw [h1,h3,h4] at h2;omega
theorem YI{N:Nat}(hG:GoodP N es):(yz N es Prod.snd).length=1:=by
 have h1:=hG.src;rw [Int.toNat_natCast] at h1;have hin:=ue hG.may;obtain ⟨s,hs,_⟩:=kp hG;have ho:=hG.ord;rw [Int.toNat_natCast] at ho;obtain ⟨L,hL⟩:=vI hin ho
 -- of least rank
 obtain ⟨m,_,⟨x,hx,rfl⟩,hmin⟩:=xl (P:=fun k=>∃x,x<N∧L x=k) ⟨s,hs,rfl⟩
 have:x∈yz N es Prod.snd:=zk.2 ⟨hx,fun i hi e=>by
  have hm:=kK hi;have hb:=hin _ hm;have hr:=hL _ hm;rw [e,Int.toNat_natCast] at hr
  exact hmin _ hr ⟨_,by omega,rfl⟩⟩
 have:=List.length_pos_of_mem this;omega
end
end Go.Proofs.YtneeknlhlkpnpaaGreat
/-
 slices.DeleteFunc over numbers (how many are left), by forest.Outers' closure; (Part).tree, (View).Outs. Written by an AI agent.
-/
namespace Go.Proofs.YtneeknlhlkpnpaaGreat
open Go.RowKit
/-- no edge goes from x -/
def aD(es:List (Int×Int))(x:Int):Bool:=((jK es Prod.fst x es.length).length:Int)==0
set_option maxRecDepth 20000 in
theorem nH(gv n x:Nat)(es:List (Int×Int))(w:World)(hv:yQ w gv n es)(hx:x<n)(hl:es.length≤1000) :
  Calls Tryz.prog 44 #[.pointer (some ⟨gv,0,none⟩),.int .i64 (x:Nat)] w (fun e w'=>∃v,e = .returned v∧Below w.heap.size w w'∧w'.ownsRow w.heap.size 3 1 v (jK es Prod.fst (x:Nat) es.length).length (jf (jK es Prod.fst (x:Nat) es.length))):=by
 obtain ⟨A,c,go,gi,h1,h2,_⟩:=hv.tabs;obtain ⟨b,off,e,hb,hcc⟩:=h2 (by rw [yn];omega);injection e with e;injection e with e1 e2 _;subst e1 e2;obtain ⟨Ai,ci,zi,hCi⟩:=hcc x (by rw [yn];exact hx);have hrow:(rowsF n es Prod.fst)[x]'(by rw [yn];exact hx)=jK es Prod.fst (x:Nat) es.length:=by simp [rowsF]
 rw [hrow] at zi hCi;rw [Nat.zero_add] at zi;have hle:=qj es Prod.fst (x:Nat) es.length;have z0:=h1.cell 0;have z2:=h1.cell 2;simp only [List.getElem?_toArray,List.getElem?_cons_zero,List.getElem?_cons_succ] at z0 z2;have hth:=Ys go n go x ci Ai (jK es Prod.fst (x:Nat) es.length) w;have HT:=Lib.hid (Ys gv n go x ci Ai (jK es Prod.fst (x:Nat) es.length) w z0 zi hx hCi (by omega));clear hth hrow h2 hcc hCi zi;have z1:=h1.cell 1;simp only [List.getElem?_toArray,List.getElem?_cons_zero,List.getElem?_cons_succ] at z1;clear h1
 go_enter Tryz.func44,Tryz.ntmps44
 go_wp2_with fail;refine HT.out.mono ?_;rintro e w2 ⟨v,rfl,hb2,ho2⟩;have HB:=Lib.hid hb2;have HO:=Lib.hid ho2;clear hb2 ho2;go_wp2_with fail;go_ret;exact ⟨_,rfl,HB.out,HO.out⟩
set_option maxRecDepth 20000 in
theorem lT(gc gv n x:Nat)(es:List (Int×Int))(w:World)(hc:w.cell? ⟨gc,0,none⟩=some (.pointer (some ⟨gv,0,none⟩)))(hv:yQ w gv n es)(hx:x<n)(hl:es.length≤1000) :
  Calls Tryz.prog 53 #[.int .i64 (x:Nat),.pointer (some ⟨gc,0,none⟩)] w (fun e w'=>e = .returned (.bool (aD es (x:Nat)))∧Below w.heap.size w w'):=by
 have HT:=Lib.hid (nH gv n x es w hv hx hl);clear hv
 go_enter Tryz.func53,Tryz.ntmps53
 go_wp2_with fail;refine HT.out.mono ?_;rintro e w2 ⟨v,rfl,hb2,ho2⟩;obtain ⟨A1,c1,rfl⟩:=jA ho2;have HB:=Lib.hid hb2;have HBX:=Lib.hid (show aD es (x:Nat)=(((jK es Prod.fst (x:Nat) es.length).length:Int)==0) from rfl);generalize (jK es Prod.fst (x:Nat) es.length).length=k at *;clear hb2 ho2 hc HT;go_wp2_with fail;go_ret;exact ⟨by rw [HBX.out];rfl,HB.out⟩
theorem KN(u:World)(args:Array Value):(callFunc 53 args).run Tryz.prog u = .ok (.enter 53 args) u:=by
 go_simp
def oW(p:Int→Bool)(l:List Int)(B:Nat)(w:World)(e:Ending)(w':World):Prop:=
 ∃r:Int,e = .returned (.int .i64 r)∧Below B w w'∧(r = -1∧(∀i,i<l.length→p (l.getD i 0)=false) ∨ ∃k:Nat,r=k∧k<l.length∧p (l.getD k 0)=true ∧ ∀i,i<k→p (l.getD i 0)=false)
set_option maxHeartbeats 1000000 in
theorem dK(B:Nat)(A:Option Addr)(cap:Nat)(l:List Int)(fid:FuncId)(caps:Array Value)(p:Int→Bool)(w:World)(hlen:l.length≤1000)(hB:B=w.heap.size)(h:jr w B A (jf l))
  (hcf:∀(u:World) (args:Array Value),(callFunc fid args).run Tryz.prog u = .ok (.enter fid args) u)
  (hcl:∀(i:Nat) (hi:i<l.length) (w':World),Below B w w'→Calls Tryz.prog fid (#[.int .i64 l[i]]++caps) w' fun e w''=>e = .returned (.bool (p l[i]))∧Below w'.heap.size w' w'') :
  Calls Tryz.prog 108 #[.slice A l.length cap,.func (.func fid) #[] caps] w (oW p l B w):=by
 have H:=Lib.hid h;have Hcl:=Lib.hid hcl;have HBE:=Lib.hid hB;clear h hcl hB
 go_enter Tryz.func108,Tryz.ntmps108
 go_wp2_with fail
 go_loopg [8] l.length (fun k s8 wr=>∃i:Nat,s8 = .int .i64 i∧i≤l.length∧k=l.length-i∧Below B w wr ∧ ∀j,j<i→p (l.getD j 0)=false)
 case atStart=>exact ⟨0,rfl,Nat.zero_le _,rfl,Below.refl _ _,fun j hj=>absurd hj (by omega)⟩
 case round=>
  obtain ⟨i,rfl,hi,hk,hbw,hf⟩:=hrel;have Hk:=Lib.hid hk;have Hf:=Lib.hid hf;have HB:=Lib.hid hbw;clear hk hf hbw;by_cases hlt:i<l.length
  ·have hlt':(i:Int)<l.length:=by omega
   obtain ⟨b,off,rfl,hb,hc⟩:=H.out.ints (by omega);have e0:=(HB.out.cell (p:=⟨b,off+i,none⟩) (by show b<B;exact hb)).trans (hc i hlt);have HV:=Lib.hid (show l.getD i 0=l[i] by rw [List.getD_eq_getElem?_getD,List.getElem?_eq_getElem hlt];rfl);have HC:=Lib.hid (Hcl.out i hlt wr HB.out);clear hc;obtain ⟨v,hv⟩:∃v,v=l[i]:=⟨_,rfl⟩;rw [←hv] at e0 HV HC;clear hv;go_wp2_with fail;refine HC.out.mono ?_;rintro e w' ⟨rfl,hb2⟩;have HB2:=Lib.hid (HB.out.trans (hb2.mono (by have:=HB.out.size;have:=HBE.out;omega)));clear hb2 e0 HC
   cases hp:p v with
   | true=>
    have HP:=Lib.hid (show p (l.getD i 0)=true by rw [HV.out];exact hp);clear hp;go_wp2_with fail;go_ret;exact ⟨_,rfl,HB2.out,.inr ⟨i,rfl,hlt,HP.out,Hf.out⟩⟩
   | false=>
    have HP:=Lib.hid (show p (l.getD i 0)=false by rw [HV.out];exact hp);clear hp;go_wp2_with fail
    go_roundg (l.length-(i+1))
    case measure=>rw [Hk.out];omega
    case rel=>exact ⟨i+1,by go_num,by omega,rfl,HB2.out,fun j hj=>by
     by_cases h:j=i
     ·rw [h];exact HP.out
     ·exact Hf.out j (by omega)⟩
  ·have hlt':¬(i:Int)<l.length:=by omega
   go_wp2_with fail;go_ret;exact ⟨_,rfl,HB.out,.inl ⟨rfl,fun j hj=>Hf.out j (by omega)⟩⟩
theorem ff{w:World}{g:Nat}{cs:Array Value}(hb:Blk w g 3 cs)(o n c:Nat)(ho:o+n≤cs.size) :
  ∃w',(∀ty,(Builtin.clear_ #[25] ty #[.slice (some ⟨g,o,none⟩) n c]).run Tryz.prog w = .ok (.tuple #[]) w')∧But [g] w w' ∧ ∃cs':Array Value,Blk w' g 3 cs'∧cs'.size=cs.size ∧ ∀j,j<o→cs'[j]? = cs[j]? :=by
 rcases n with _ | m
 ·refine ⟨w,fun ty=>?_,But.refl _ _,cs,hb,rfl,fun _ _=>rfl⟩;simp [Builtin.clear_,run_underlying Tryz.underlying25]
 ·obtain ⟨zs,hzs⟩:∃zs,zs=(Builtin.zeroCells (Value.int .i64 0).cells (m+1)).toList:=⟨_,rfl⟩;have hzl:zs.length=m+1:=by rw [hzs];simp [Builtin.zeroCells,Value.cells]
  have hz1:∀v∈zs,v.oneCell'=true:=by
   intro v hv;rw [hzs] at hv;simp [Builtin.zeroCells,Value.cells] at hv;obtain ⟨i,_,rfl⟩:=hv;rw [Nat.mod_one];rfl
  have hst:=run_storeCells_cells (P:=Tryz.prog) g o zs 0 w (fun j hj=>by
   rw [hb.cell,Array.getElem?_eq_getElem (by omega)];rfl) (fun j hj=>hb.frozen _) hz1
  simp only [Nat.add_zero] at hst;obtain ⟨h1,h2⟩:=JX zs o w cs hb;refine ⟨w.setCells g o zs,fun ty=>?_,h1,h2⟩;simp [Builtin.clear_,run_underlying Tryz.underlying25,←hzs,hst]
/-- how many of the first j are kept -/
def Ji(p:Int→Bool)(l:List Int)(j:Nat):Nat:=(l.take j).countP fun x=>!p x
theorem Uh{p:Int→Bool}{l:List Int}{j:Nat}(hj:j<l.length):Ji p l (j+1)=Ji p l j+if p l[j]=true then 0 else 1:=by
 unfold Ji;rw [List.take_succ_eq_append_getElem hj,List.countP_append]
 cases h:p l[j]<;>simp [h]
theorem dF(p:Int→Bool)(l:List Int)(j:Nat):Ji p l j≤j:=Nat.le_trans List.countP_le_length (by simp;omega)
theorem Gu{p:Int→Bool}{l:List Int}:∀ {k:Nat},k≤l.length→(∀i,i<k→p (l.getD i 0)=false)→Ji p l k=k
 | 0,_,_=>by simp [Ji]
 | k+1,hk,h=>by
  have hv:l.getD k 0=l[k]:=by rw [List.getD_eq_getElem?_getD,List.getElem?_eq_getElem (by omega)];rfl
  rw [Uh (by omega),Gu (by omega) fun i hi=>h i (by omega),if_neg];rw [←hv,h k (by omega)];simp
set_option maxRecDepth 20000 in
set_option maxHeartbeats 2000000 in
theorem oG(B:Nat)(v:Value)(l:List Int)(fid:FuncId)(caps:Array Value)(p:Int→Bool)(w:World)(hlen:l.length≤1000)(hown:w.ownsRow B 3 1 v l.length (jf l))(hB:B≤w.heap.size)
  (hcf:∀(u:World) (args:Array Value),(callFunc fid args).run Tryz.prog u = .ok (.enter fid args) u)
  (hcl:∀(i:Nat) (hi:i<l.length) (w':World),Below B w w'→Calls Tryz.prog fid (#[.int .i64 l[i]]++caps) w' fun e w''=>e = .returned (.bool (p l[i]))∧Below w'.heap.size w' w'') :
  Calls Tryz.prog 52 #[v,.func (.func fid) #[] caps] w (fun e w'=>∃A c,e = .returned (.slice A (Ji p l l.length) c)∧Below B w w'):=by
 have HO:=Lib.hid hown;have HBB:=Lib.hid hB;have Hcl:=Lib.hid hcl;have HKL:=Lib.hid (fun j=>dF p l j);have HKS:=Lib.hid (fun j (hj:j<l.length)=>Uh (p:=p) hj);have HKP:=Lib.hid (fun k (hk:k≤l.length) h=>Gu (p:=p) (l:=l) (k:=k) hk h);obtain ⟨A0,c0,rfl⟩:=jA hown;clear hown hB hcl;rcases Nat.eq_zero_or_pos l.length with h0 | hpos
 ·have HI:=Lib.hid (dK w.heap.size A0 c0 l fid caps p w hlen rfl (fun hn=>absurd hn (by simp [jf,h0])) hcf (fun i hi=>absurd hi (by omega)));have HK0:=Lib.hid (show Ji p l l.length=l.length by have:=HKL.out l.length;omega);have HLZ:=Lib.hid h0;clear h0
  go_enter Tryz.func52,Tryz.ntmps52
  go_wp2_with fail;refine HI.out.mono ?_;rintro e w1 ⟨r,rfl,hb1,hr⟩
  have hr1:r = -1:=by
   rcases hr with ⟨h,_⟩ | ⟨k,_,hk,_⟩
   ·exact h
   ·have:=HLZ.out;omega
  subst hr1;have HB1:=Lib.hid (hb1.mono HBB.out);clear hr hb1;go_wp2_with fail;go_ret;rw [HK0.out];exact ⟨_,_,rfl,HB1.out⟩
 ·obtain ⟨g,cap,R,e,hbg,hblk,hsz,hcap,_,hxl⟩:=vT HO.out hpos;injection e with e1 _ e2;subst e1 e2;have HBL:=Lib.hid hblk;have HG:=Lib.hid hbg;have hglt:=hblk.lt;have hsz':l.length+R.size=c0:=by simpa [jf] using hsz
  have HI:=Lib.hid (dK w.heap.size (some ⟨g,0,none⟩) c0 l fid caps p w hlen rfl (jr.of_blk hblk |>.more hglt) hcf (fun i hi w' hb=>Hcl.out i hi w' (hb.mono HBB.out)));have HCL2:=Lib.hid (fun i (hi:i<l.length) w' hb=>Hcl.out i hi w' hb);clear hblk hbg hsz hxl Hcl HO
  go_enter Tryz.func52,Tryz.ntmps52
  go_wp2_with fail;refine HI.out.mono ?_;rintro e w1 ⟨r,rfl,hb1,hr⟩;have HB1:=Lib.hid (hb1.mono HBB.out);have HBL1:=Lib.hid (HBL.out.below hb1 hglt);clear hb1 HI;rcases hr with ⟨rfl,hall⟩ | ⟨k,rfl,hk,hpk,hpre⟩
  ·have HK:=Lib.hid (HKP.out l.length (Nat.le_refl _) hall);clear hall;go_wp2_with fail;go_ret;rw [HK.out];exact ⟨_,_,rfl,HB1.out⟩
  ·have HK0:=Lib.hid (show Ji p l (k+1)=k by
    have hv:l.getD k 0=l[k]:=by rw [List.getD_eq_getElem?_getD,List.getElem?_eq_getElem hk];rfl
    rw [HKS.out k hk,HKP.out k (by omega) hpre,←hv,hpk,if_pos rfl];rfl)
   have hkn:((k:Int) == -1)=false:=by rw [beq_eq_false_iff_ne];omega
   have hk':(k:Int)<l.length:=by omega
   clear hpk hpre
   go_upto_region 4 with fail
   go_wp2_with fail
   go_loopg [5,6] (l.length-(k+1)) (fun m s5 s6 wr=>∃(i j:Nat) (P:List Int),s5 = .int .i64 i∧s6 = .int .i64 j∧j≤l.length∧m=l.length-j∧i=Ji p l j∧i<j∧P.length=l.length∧(∀t,j≤t→P[t]? = l[t]?)∧Blk wr g 3 ((jf P).toArray++R)∧Below B w wr)
   case atStart=>exact ⟨k,k+1,l,rfl,by go_num,by omega,rfl,HK0.out.symm,by omega,rfl,fun _ _=>rfl,HBL1.out,HB1.out⟩
   case round=>
    obtain ⟨i,j,P,rfl,rfl,hj,hm,hik,hij,hPl,hPt,hbl,hbw⟩:=hrel;have Hm:=Lib.hid hm;have HIK:=Lib.hid hik;have HPL:=Lib.hid hPl;have HPT:=Lib.hid hPt;have HB2:=Lib.hid hbl;have HBW:=Lib.hid hbw;clear hm hik hPl hPt hbl hbw;by_cases hjl:j<l.length
    ·have hjl':(j:Int)<l.length:=by omega
     have hil':(i:Int)<l.length:=by omega
     have hjP:j<P.length:=by rw [HPL.out];exact hjl
     have hiP:i<P.length:=by rw [HPL.out];omega
     have zj:=HB2.out.intR hjP;have zi:=HB2.out.intR hiP;have fi:=HB2.out.frozen i
     have HV:=Lib.hid (show P.getD j 0=l[j] by
      have:=HPT.out j (Nat.le_refl _)
      rw [List.getD_eq_getElem?_getD,this,List.getElem?_eq_getElem hjl];rfl)
     rw [HV.out] at zj;have HKJ:=Lib.hid (HKS.out j hjl);have HC:=Lib.hid (HCL2.out j hjl wr HBW.out);have HSET:=Lib.hid (fun w5 (hb:Blk w5 g 3 ((jf P).toArray++R))=>hb.setIntR i l[j] hiP);obtain ⟨x,hx⟩:∃x,x=l[j]:=⟨_,rfl⟩;rw [←hx] at zj HKJ HC HSET;have HX:=Lib.hid hx;obtain ⟨y,hy⟩:∃y,y=P.getD i 0:=⟨_,rfl⟩;rw [←hy] at zi;clear hx hy;go_wp2_with fail;refine HC.out.mono ?_;rintro e w5 ⟨rfl,hb5⟩;have hgw:g<wr.heap.size:=HB2.out.lt;have HB5:=Lib.hid (HB2.out.below hb5 hgw);have HBW5:=Lib.hid (HBW.out.trans (hb5.mono HBW.out.size |>.mono HBB.out));have zi5:=HB5.out.intR hiP;have fi5:=HB5.out.frozen i;clear hb5 zj zi fi HC
     cases hp:p x with
     | true=>
      have HKN:=Lib.hid (show i=Ji p l (j+1) by rw [HKJ.out,hp,if_pos rfl];exact HIK.out);clear hp zi5 fi5;go_wp2_with fail
      go_roundg (l.length-(j+1))
      case measure=>rw [Hm.out];omega
      case rel=>exact ⟨i,j+1,P,rfl,by go_num,by omega,rfl,HKN.out,by omega,HPL.out,fun t ht=>HPT.out t (by omega),HB5.out,HBW5.out⟩
     | false=>
      have HKN:=Lib.hid (show i+1=Ji p l (j+1) by rw [HKJ.out,hp,if_neg (by simp),←HIK.out]);have HB6:=Lib.hid (HSET.out w5 HB5.out);have HBW6:=Lib.hid (HBW5.out.trans ((But.set_ w5 (show g∈[g] by simp) i (.int .i64 x)).below (by have:=HBW5.out.size;have:=HBB.out;omega) (fun t ht=>by have h9:t=g:=(by simpa using ht);have:=HG.out;omega)));clear hp;go_wp2_with fail
      go_roundg (l.length-(j+1))
      case measure=>rw [Hm.out];omega
      case rel=>exact ⟨i+1,j+1,P.set i x,by go_num,by go_num,by omega,rfl,HKN.out,by omega,by rw [List.length_set];exact HPL.out,fun t ht=>by rw [List.getElem?_set_ne (by omega)];exact HPT.out t (by omega),HB6.out,HBW6.out⟩
    ·have hje:j=l.length:=by omega
     subst hje;have hjl':¬(l.length:Int)<l.length:=by omega
     obtain ⟨w7,hrun,hbt,_⟩:=ff HB2.out i (l.length-i) (c0-i) (by simp [jf];have:=HPL.out;omega);have hii:(i:Int)≤l.length:=by omega
     have hi0:(0:Int)≤i:=Int.natCast_nonneg i;have hic:(i:Int)≤c0:=by omega
     have HBW7:=Lib.hid (HBW.out.trans (hbt.below (by have:=HBW.out.size;have:=HBB.out;omega) (fun t ht=>by have h9:t=g:=(by simpa using ht);have:=HG.out;omega)));clear hbt hjl
     go_upto_region 11 with fail
     go_wp2_with fail;go_ret;rw [←HIK.out];exact ⟨⟨_,_,rfl⟩,HBW7.out⟩
set_option maxRecDepth 20000 in
/-- a part is a tree -/
theorem ng(A1 A2:Option Addr)(l1 l2 c1 c2 a:Nat)(w:World)(h1:l1≤100000)(h2:l2≤100000) :
  Calls Tryz.prog 54 #[.agg #[.slice A1 l1 c1,.slice A2 l2 c2,.int .i64 (a:Nat)]] w (fun e w'=>e = .returned (.bool ((a:Int)==((l1:Int)+l2-1)))∧Below w.heap.size w w'):=by
 go_enter Tryz.func54,Tryz.ntmps54
 go_wp2_with fail;go_ret;exact ⟨rfl,(Below.refl w.heap.size w).alloc (Nat.le_refl _) _⟩
end Go.Proofs.YtneeknlhlkpnpaaGreat
/-
 slices.Sort and slices.Compact over numbers: the shelf's contracts at this program (their layings printed by the kit's lay-plain.mjs, turned by shelft.py), and what is drawn from them. Written by an AI agent.
-/
namespace Go.Proofs.YtneeknlhlkpnpaaGreat
open Go.RowKit Go.Shelf Go.Sort
def cB:Go.Shelf.Ren:=⟨fun | 189=>57 | 125=>112 | 257=>111 | 128=>151 | 129=>152 | 294=>142 | 295=>143 | 296=>144 | 297=>145 | 298=>146 | 299=>147 | 216=>148 | 300=>149 | 301=>150 | 328=>162 | 329=>163 | 330=>164 | 331=>165 | 332=>166 | 215=>167 | 343=>169 | n=>n,fun | 28=>25 | 3=>3 | 46=>163 | 0=>0 | 51=>196 | 53=>156 | 4=>4 | 183=>189 | 182=>188 | 131=>137 | 5=>5 | 9=>9 | 218=>201 | 222=>205 | 228=>209 | 229=>210 | n=>n,fun | n=>n⟩
theorem iq:Go.Proofs.Lays.n189 Tryz.prog cB:={
 mixed:=by kernel_rfl
 f125:=Tryz.func112.trans (congrArg some (by kernel_rfl))
 f128:=Tryz.func151.trans (congrArg some (by kernel_rfl))
 f129:=Tryz.func152.trans (congrArg some (by kernel_rfl))
 f189:=Tryz.func57.trans (congrArg some (by kernel_rfl))
 f215:=Tryz.func167.trans (congrArg some (by kernel_rfl))
 f216:=Tryz.func148.trans (congrArg some (by kernel_rfl))
 f257:=Tryz.func111.trans (congrArg some (by kernel_rfl))
 f294:=Tryz.func142.trans (congrArg some (by kernel_rfl))
 f295:=Tryz.func143.trans (congrArg some (by kernel_rfl))
 f296:=Tryz.func144.trans (congrArg some (by kernel_rfl))
 f297:=Tryz.func145.trans (congrArg some (by kernel_rfl))
 f298:=Tryz.func146.trans (congrArg some (by kernel_rfl))
 f299:=Tryz.func147.trans (congrArg some (by kernel_rfl))
 f300:=Tryz.func149.trans (congrArg some (by kernel_rfl))
 f301:=Tryz.func150.trans (congrArg some (by kernel_rfl))
 f328:=Tryz.func162.trans (congrArg some (by kernel_rfl))
 f329:=Tryz.func163.trans (congrArg some (by kernel_rfl))
 f330:=Tryz.func164.trans (congrArg some (by kernel_rfl))
 f331:=Tryz.func165.trans (congrArg some (by kernel_rfl))
 f332:=Tryz.func166.trans (congrArg some (by kernel_rfl))
 f343:=Tryz.func169.trans (congrArg some (by kernel_rfl))
 t0:=Tryz.underlying0
 a0:=Tryz.isAgg0
 z0:=Tryz.sizeOf0
 v0:=Tryz.zeroValue0
 t3:=Tryz.underlying3
 a3:=Tryz.isAgg3
 z3:=Tryz.sizeOf3
 v3:=Tryz.zeroValue3
 t4:=Tryz.underlying4
 a4:=Tryz.isAgg4
 z4:=Tryz.sizeOf4
 v4:=Tryz.zeroValue4
 t5:=Tryz.underlying5
 a5:=Tryz.isAgg5
 z5:=Tryz.sizeOf5
 v5:=Tryz.zeroValue5
 t9:=Tryz.underlying9
 a9:=Tryz.isAgg9
 z9:=Tryz.sizeOf9
 v9:=Tryz.zeroValue9
 t28:=Tryz.underlying25
 a28:=Tryz.isAgg25
 z28:=Tryz.sizeOf25
 v28:=Tryz.zeroValue25
 t46:=Tryz.underlying163
 a46:=Tryz.isAgg163
 z46:=Tryz.sizeOf163
 v46:=Tryz.zeroValue163
 t51:=Tryz.underlying196
 a51:=Tryz.isAgg196
 z51:=Tryz.sizeOf196
 v51:=Tryz.zeroValue196
 t53:=Tryz.underlying156
 a53:=Tryz.isAgg156
 z53:=Tryz.sizeOf156
 v53:=Tryz.zeroValue156
 t131:=Tryz.underlying137
 a131:=Tryz.isAgg137
 z131:=Tryz.sizeOf137
 v131:=Tryz.zeroValue137
 t182:=Tryz.underlying188
 a182:=Tryz.isAgg188
 z182:=Tryz.sizeOf188
 v182:=Tryz.zeroValue188
 t183:=Tryz.underlying189
 a183:=Tryz.isAgg189
 z183:=Tryz.sizeOf189
 v183:=Tryz.zeroValue189
 t218:=Tryz.underlying201
 a218:=Tryz.isAgg201
 z218:=Tryz.sizeOf201
 v218:=Tryz.zeroValue201
 t222:=Tryz.underlying205
 a222:=Tryz.isAgg205
 z222:=Tryz.sizeOf205
 v222:=Tryz.zeroValue205
 t228:=Tryz.underlying209
 a228:=Tryz.isAgg209
 z228:=Tryz.sizeOf209
 v228:=Tryz.zeroValue209
 t229:=Tryz.underlying210
 a229:=Tryz.isAgg210
 z229:=Tryz.sizeOf210
 v229:=Tryz.zeroValue210 }
def Wq:Go.Shelf.Ren:=⟨fun | 20=>58 | n=>n,fun | 22=>25 | 3=>3 | 4=>4 | 0=>0 | n=>n,fun | n=>n⟩
theorem Gp:Go.Proofs.Lays2.n20 Tryz.prog Wq:={
 mixed:=by kernel_rfl
 f20:=Tryz.func58.trans (congrArg some (by kernel_rfl))
 t0:=Tryz.underlying0
 a0:=Tryz.isAgg0
 z0:=Tryz.sizeOf0
 v0:=Tryz.zeroValue0
 t3:=Tryz.underlying3
 a3:=Tryz.isAgg3
 z3:=Tryz.sizeOf3
 v3:=Tryz.zeroValue3
 t4:=Tryz.underlying4
 a4:=Tryz.isAgg4
 z4:=Tryz.sizeOf4
 v4:=Tryz.zeroValue4
 t22:=Tryz.underlying25
 a22:=Tryz.isAgg25
 z22:=Tryz.sizeOf25
 v22:=Tryz.zeroValue25
 i3:=by kernel_rfl }
def leI(x y:Int):Bool:=decide (x≤y)
theorem GQ{B:Nat}{w:World}{g q:Nat}{d:Array Int}{os:Array Obj}(hg:B≤g)(hB:B≤w.heap.size):Below B w (grow (putRow (Value.int .i64) (Sort.ahead w q) g 0 d) os):=
 ⟨rfl,rfl,rfl,by simp [putRow,mapBlock,Sort.ahead],fun k hk=>by
  rw [heap_grow_old _ _ (by simp [putRow,mapBlock,Sort.ahead];omega)]
  simp [putRow,mapBlock,Sort.ahead,Array.getElem?_modify,show g≠k by omega]⟩
theorem rU(l:List Int):(Lib.compact l).length≤l.length:=by
 unfold Lib.compact Lib.compactUpTo;rw [List.length_map];exact Nat.le_trans (List.length_filter_le _ _) (by simp)
theorem WO(B g cap:Nat)(l:List Int)(w:World)(hH:Holds (Value.int .i64) w g 0 l.toArray)(hg:g<w.heap.size)(hB:B≤g)(hl:l.length≤100000) :
  Calls Tryz.prog 57 #[.slice (some ⟨g,0,none⟩) l.length cap] w (fun e w'=>e = .returned (.tuple #[])∧Below B w w'∧Holds (Value.int .i64) w' g 0 (l.mergeSort leI).toArray∧g<w'.heap.size):=
 (Any.slices_Sort_int iq g 0 cap l w hH hg (by omega)).mono fun e w' ⟨he,n,os,hw⟩=>by
  subst hw;exact ⟨he,GQ hB (by omega),holds_grow _ _ os g 0 _ (by simpa [putRow,mapBlock,Sort.ahead] using hg) (holds_putRow _ _ g 0 _ _ (holds_ahead _ w n g 0 _ hH) (by simp [])),by simp [putRow,mapBlock,Sort.ahead];omega⟩
theorem KU(a:Option Addr)(cap:Nat)(w:World):Calls Tryz.prog 57 #[.slice a 0 cap] w (fun e w'=>e = .returned (.tuple #[])∧w=w'):=
 (Any.slices_Sort_int_none iq a cap w).mono fun _e _w' ⟨he,hw⟩=>⟨he,hw.symm⟩
theorem ao(B g cap:Nat)(l:List Int)(w:World)(hH:Holds (Value.int .i64) w g 0 l.toArray)(hg:g<w.heap.size)(hB:B≤g)(hl:l.length≤100000)(hc:l.length≤cap) :
  Calls Tryz.prog 58 #[.slice (some ⟨g,0,none⟩) l.length cap] w (fun e w'=>e = .returned (.slice (some ⟨g,0,none⟩) (Lib.compact l).length cap)∧Below B w w'∧jr w' w'.heap.size (some ⟨g,0,none⟩) (jf (Lib.compact l))):=
 (Any.slices_Compact_int Gp g 0 cap l w hH (by omega) hc).mono fun e w' ⟨he,q,hw⟩=>by
  subst hw;have hle:=rU l;have hh:=holds_putRow (Value.int .i64) (Sort.ahead w q) g 0 l.toArray (Lib.compact l++List.replicate (l.length-(Lib.compact l).length) 0).toArray (holds_ahead _ w q g 0 _ hH) (by simp;omega);have hb:=GQ (B:=B) (w:=w) (g:=g) (q:=q) (d:=(Lib.compact l++List.replicate (l.length-(Lib.compact l).length) 0).toArray) (os:=#[]) hB (by omega);rw [grow_empty] at hb;refine ⟨he,hb,fun _=>⟨g,0,rfl,by simpa [putRow,mapBlock,Sort.ahead] using hg,fun j u hj=>?_⟩⟩
  have hjl:j<(Lib.compact l).length:=by
   have:=(List.getElem?_eq_some_iff.1 hj).1;simpa [jf] using this
  have h1:=(hh j (by simp;omega)).1;rw [h1];have h2:(jf (Lib.compact l))[j]? = some (.int .i64 (Lib.compact l)[j]):=by simp [jf,hjl]
  rw [h2] at hj;injection hj with hj;rw [←hj];congr 2;rw [getElem!_pos _ j (by simp;omega)];simp [hjl]
theorem Wy(a:Option Addr)(cap:Nat)(w:World):Calls Tryz.prog 58 #[.slice a 0 cap] w (fun e w'=>e = .returned (.slice a 0 cap)∧w=w'):=
 (Any.slices_Compact_int_empty Gp a cap w).mono fun _e _w' ⟨he,hw⟩=>⟨he,hw.symm⟩
end Go.Proofs.YtneeknlhlkpnpaaGreat
/-
 Which faces can be the outer one, as forest.Outers reckons (plain). Written by an AI agent.
-/
namespace Go.Proofs.YtneeknlhlkpnpaaGreat
open Go.RowKit
def Vh(tb:Bool)(ci:Nat)(fr:Int):Bool:=!tb||(decide (1<ci)||(decide (ci=0)&&decide (0≤fr)))
def zX(tb:Nat→Bool)(ci:Nat→Nat):Nat→Option Int
 | 0=>some (-1)
 | j+1=>match zX tb ci j with
  | none=>none
  | some fr=>if Vh (tb j) (ci j) fr=true then none else if ci j=0 then some (j:Int) else some fr
section
variable {tb:Nat→Bool}{ci:Nat→Nat}
theorem Xw{j:Nat}{fr:Int}(h:zX tb ci j=some fr)(hb:Vh (tb j) (ci j) fr=true):zX tb ci (j+1)=none:=by
 unfold zX;rw [h];exact if_pos hb
theorem JR{j:Nat}{fr:Int}(h:zX tb ci j=some fr)(hb:Vh (tb j) (ci j) fr=false):zX tb ci (j+1)=some (if ci j=0 then (j:Int) else fr):=by
 rw [zX,h]
 show (if Vh (tb j) (ci j) fr=true then none else if ci j=0 then some (j:Int) else some fr)=_
 rw [if_neg (by rw [hb];simp)]
 split<;>rfl
theorem Uj{j:Nat}(h:zX tb ci j=none):∀ {m:Nat},j≤m→zX tb ci m=none
 | 0,hm=>by
  have:j=0:=by omega
  subst this;exact h
 | m+1,hm=>by
  by_cases e:j=m+1
  ·subst e;exact h
  ·rw [zX,Uj h (show j≤m by omega)]
theorem dQ:∀ {m:Nat} {fr:Int},zX tb ci m=some fr → -1≤fr∧fr<m
 | 0,fr,h=>by
  simp [zX] at h;omega
 | m+1,fr,h=>by
  cases hf:zX tb ci m with
  | none=>rw [zX,hf] at h;cases h
  | some f0=>
   have ih:=dQ hf;by_cases hb:Vh (tb m) (ci m) f0=true
   ·rw [Xw hf hb] at h;cases h
   ·rw [JR hf (by simpa using hb)] at h;injection h with h
    split at h<;>omega
end
/-- the faces, among those told, at the vertex asked for -/
def kf(s:Int)(fs:List Int)(Q:List zu):List Int:=(Q.filter fun q=>decide ((q.2.1:Int)=s)&&decide (0≤kZ fs (q.2.2.1:Nat))).map fun q=>((q.2.2.1:Nat):Int)
theorem lp{s:Int}{fs:List Int}{Q:List zu}{i:Nat}(hi:i<Q.length):kf s fs (Q.take (i+1))=kf s fs (Q.take i)++if (decide ((Q[i].2.1:Int)=s)&&decide (0≤kZ fs (Q[i].2.2.1:Nat)))=true then [((Q[i].2.2.1:Nat):Int)] else []:=by
 unfold kf;rw [List.take_succ_eq_append_getElem hi,List.filter_append,List.map_append];congr 1;by_cases h:(decide ((Q[i].2.1:Int)=s)&&decide (0≤kZ fs (Q[i].2.2.1:Nat)))=true
 ·rw [if_pos h];simp [h]
 ·rw [if_neg h];simp [h]
theorem XQ(s:Int)(fs:List Int)(Q:List zu):(kf s fs Q).length≤Q.length:=by
 unfold kf;rw [List.length_map];exact List.length_filter_le _ _
/-- which part is a tree; how many of its vertices have edges -/
def Jf(ro:Nat→Nat)(H:List zu)(F N k:Nat):Bool:=((cA ro H k:Nat):Int)==(((rlB ro F N (2*k)).length:Nat):Int)+(((rlB ro F N (2*k+1)).length:Nat):Int)-1
def Vg(es:List (Int×Int))(ro:Nat→Nat)(F N k:Nat):Nat:=Ji (aD es) (rlB ro F N (2*k+1)) (rlB ro F N (2*k+1)).length
def WG(es:List (Int×Int))(ro:Nat→Nat)(F N:Nat)(Q:List zu):List Int:=match zX (Jf ro (Q.filter hiQ) F N) (Vg es ro F N) (pos ro F) with
 | none=>[]
 | some fr=>if fr<0 then [] else Lib.compact ((kf ((yP N es Prod.snd).getD 0 0) (rlB ro F N (2*fr.toNat)) Q).mergeSort leI)
def Qw(L:List Int)(w:World)(e:Ending)(w':World):Prop:=∃A c,e = .returned (.slice A L.length c)∧Below w.heap.size w w'∧jr w' w'.heap.size A (jf L)
end Go.Proofs.YtneeknlhlkpnpaaGreat
/-
 forest.Outers: the faces at the source, told rising, each once. (Printed by outsgen.py.) Written by an AI agent.
-/
namespace Go.Proofs.YtneeknlhlkpnpaaGreat
open Go.RowKit
theorem PartM.part{w:World}{B m g cap:Nat}{rl:Nat→List Int}{an:Nat→Nat}{rv:Nat→Value}(h:PartM w B (.slice (some ⟨g,0,none⟩) m cap) m rl an rv){k j:Nat}(hk:k<m)(hj:j<2) :
  ∃A c,w.cell? ⟨g,3*k+j,none⟩=some (.slice A (rl (2*k+j)).length c)∧jr w w.heap.size A (jf (rl (2*k+j))):=by
 have ho:=h.row (i:=2*k+j) (by omega);have hc:=h.cell hk hj;obtain ⟨A,c,e⟩:=jA ho;rw [e] at hc ho;exact ⟨A,c,hc,jr.of_own ho⟩
set_option maxRecDepth 100000 in
set_option maxHeartbeats 4000000 in
theorem rr(N cap ccap m cp fr gp B F:Nat)(A C:Option Addr)(es:List (Int×Int))(rs:List (List Int))(ro:Nat→Nat)(H:List zu)(rv:Nat→Value)(src:Int)(w wc:World)(hS:SG w wc (N:Int) A cap es C rs)(hP:PartM wc B (.slice (some ⟨gp,0,none⟩) m cp) m (rlB ro F N) (cA ro H) rv)(hfr:fr<m)(hr1:rs.length≤1000)(hr2:∀l∈rs,l.length≤1000)(L:List Int)(hL:L=Lib.compact ((kf src (rlB ro F N (2*fr)) (yl (N:Int) es rs)).mergeSort leI))(hQl:(yl (N:Int) es rs).length≤1000)(hFl:(rlB ro F N (2*fr)).length≤1000)(u0 u3 u6 u8 u9 u10 u12 u13 u14 u15 u16 u17 u18 u19 u20 u21 u22 u23 u24 u25 u26 u27 u28 u29 u30 u31 u32 u33 u34 u35 u36 u37 u38 u39 u40 u41 u42 u43 u44 u45 u46 u47 u48 u49 u50 u51 u52 u53 u54 u55 u56 u57 u58 u59 u60 u61 u62 u63 u64 u65 u66 u67 u68 u69 u70 u71 u72 u73 u74 u75 u76 u77 u78 u79 u80 u81 u82 u83 u84 u85 u86 u87 u88 u89 u90 u91 u92:Value)(K:Act→World→Prop)(hK:∀a0 w0,Code.wp Tryz.prog (YR (vH 7 ((Tryz.f17.body).getD .skip))) (bodyPost Tryz.prog Tryz.f17 (Qw L w)) a0 w0→K a0 w0)(K4:Act→World→Prop)(hK4:∀a0 w0,Code.wp Tryz.prog (YR (uS (vH 7 ((Tryz.f17.body).getD .skip)))) (Exit.then K (bodyPost Tryz.prog Tryz.f17 (Qw L w))) a0 w0→K4 a0 w0):Code.wp Tryz.prog (uS (uS (vH 7 ((Tryz.f17.body).getD .skip)))) (Exit.then K4 (Exit.then K (bodyPost Tryz.prog Tryz.f17 (Qw L w)))) ⟨#[u0,.slice C rs.length ccap,.pointer (some ⟨w.heap.size,0,none⟩),u3,.slice none 0 0,.slice (some ⟨gp,0,none⟩) m cp,u6,.int .i64 (fr:Nat),u8,u9,u10,.int .i64 src,u12,u13,u14,u15,u16,u17,u18,u19,u20,u21,u22,u23,u24,u25,u26,u27,u28,u29,u30,u31,u32,u33,u34,u35,u36,u37,u38,u39,u40,u41,u42,u43,u44,u45,u46,u47,u48,u49,u50,u51,u52,u53,u54,u55,u56,u57,u58,u59,u60,u61,u62,u63,u64,u65,u66,u67,u68,u69,u70,u71,u72,u73,u74,u75,u76,u77,u78,u79,u80,u81,u82,u83,u84,u85,u86,u87,u88,u89,u90,u91,u92],[]⟩ wc:=by
 conv=>arg 2;whnf
 conv at hK=>intro a0 w0;arg 1;arg 2;whnf
 conv at hK4=>intro a0 w0;arg 1;arg 2;whnf
 have HS:=Lib.hid hS;have HP:=Lib.hid hP;have HR:=Lib.hid (And.intro hr1 hr2);have HL:=Lib.hid hL;have g0:=HS.out.g0;have g1:=HS.out.g1;clear hS hP hr1 hr2 hL;go_wp2_with fail;refine (oR (N:Int) A C cap ccap es rs wc HS.out.es HS.out.rs HR.out.1 HR.out.2).mono ?_;rintro e w2 ⟨A5,c5,rfl,hb2,hc2,_⟩;have HP2:=Lib.hid (HP.out.below hb2 (Nat.le_refl _));have HBW2:=Lib.hid (HS.out.next hb2).below;have HC2:=Lib.hid hc2;clear hb2 hc2 g0 g1;obtain ⟨Q,hQ⟩:∃Q,Q=yl (N:Int) es rs:=⟨_,rfl⟩;rw [←hQ] at HC2 HL hQl;rw [←hQ];obtain ⟨fl,hfl⟩:∃fl,fl=rlB ro F N (2*fr):=⟨_,rfl⟩;rw [←hfl] at HL hFl;have HFE:=Lib.hid hfl;clear hQ hfl;go_wp2_with fail
 go_loopg [4,65] Q.length (fun k s4 s65 wr=>∃i:Nat,s65 = .int .i64 i∧i≤Q.length∧k=Q.length-i∧wr.ownsRow w2.heap.size 3 1 s4 (kf src fl (Q.take i)).length (jf (kf src fl (Q.take i)))∧Below w2.heap.size w2 wr)
 case atStart=>exact ⟨0,rfl,Nat.zero_le _,rfl,World.ownsRow_nil _ _ _ _,Below.refl _ _⟩
 case round=>
  obtain ⟨i,rfl,hi,hk,ho,hb⟩:=hrel;have Hk:=Lib.hid hk;have HO:=Lib.hid ho;have HB:=Lib.hid hb;clear hk ho hb;by_cases hlt:i<Q.length
  ·have hlt':(i:Int)<Q.length:=by omega
   obtain ⟨bq,oq,rfl,hbq,hc⟩:=(HC2.out.below HB.out).quads (by omega);obtain ⟨q0,q1,q2,q3⟩:=hc i hlt;have HST:=Lib.hid (lp (s:=src) (fs:=fl) hlt);obtain ⟨qx,hqx⟩:∃x,x=Q[i]:=⟨_,rfl⟩;rw [←hqx] at q0 q1 q2 q3 HST;clear hc hqx;obtain ⟨qa,qb,qf,qd⟩:=qx;simp only at q0 q1 q2 q3 HST;have HAB:=Lib.hid ((Below.refl wr.heap.size wr).alloc (Nat.le_refl _) (.cells #[.int .i64 (qa:Nat),.int .i64 (qb:Nat),.int .i64 (qf:Nat),.int .i64 (qd:Nat)] 47));have HBA:=Lib.hid (Blk.new wr 47 #[.int .i64 (qa:Nat),.int .i64 (qb:Nat),.int .i64 (qf:Nat),.int .i64 (qd:Nat)]);obtain ⟨gA,hgA⟩:∃gA,gA=wr.heap.size:=⟨_,rfl⟩
   go_upto_region 19 with fail
   generalize wr.alloc (.cells #[.int .i64 (qa:Nat),.int .i64 (qb:Nat),.int .i64 (qf:Nat),.int .i64 (qd:Nat)] 47)=w6 at *;have HO6:=Lib.hid (qP HO.out HAB.out (Nat.le_refl _));have HB6:=Lib.hid (HB.out.trans (HAB.out.mono HB.out.size));have HP6:=Lib.hid ((HP2.out.below HB.out (Nat.le_refl _)).below HAB.out (Nat.le_refl _));rw [←hgA] at HBA;rw [←hgA];clear q0 q1 q2 q3 HO HB HAB hgA;have a1:=HBA.out.cell 1;have a2:=HBA.out.cell 2;simp only [List.getElem?_toArray,List.getElem?_cons_zero,List.getElem?_cons_succ] at a1 a2;obtain ⟨Af,cf,zf,hcf⟩:=HP6.out.part (k:=fr) (j:=0) hfr (by omega);rw [Nat.add_zero,Nat.add_zero,←HFE.out] at zf;rw [Nat.add_zero,←HFE.out] at hcf;rw [Nat.mul_comm 3 fr] at zf;have hfr':(fr:Int)<m:=by omega
   have HCT:=Lib.hid (fun k=>Jl Af cf fl (qf:Nat) (w6.drewN k) ((hcf.below (below_drewN (Below.refl w6.heap.size w6) k)).more (below_drewN (Below.refl w6.heap.size w6) k).size) (by omega));obtain ⟨ix,hix⟩:∃ix,ix=kZ fl (qf:Nat):=⟨_,rfl⟩;rw [←hix] at HCT HST;clear hcf hix;by_cases h1:(qb:Int)=src
   ·have hq1:((qb:Int)==src)=true:=by rw [h1];simp
    by_cases h2:0≤ix
    ·have HS2:=Lib.hid (show kf src fl (Q.take (i+1))=kf src fl (Q.take i)++[((qf:Nat):Int)] by rw [HST.out,if_pos (by rw [decide_eq_true h1,decide_eq_true h2];rfl)]);have hd2:decide (ix≥0)=true:=decide_eq_true h2;rw [hd2] at HCT;clear h1 h2 hd2
     go_quiet ((go_at_call_of 56 (Value.int .i64 (qf:Nat));exact uv (HCT.out _)))
     have hbn:=below_drewN (Below.refl w6.heap.size w6) nq;have how:=qP HO6.out hbn (Nat.le_refl _);have HB7:=Lib.hid (HB6.out.trans (hbn.mono HB6.out.size));have HBA7:=Lib.hid (HBA.out.below hbn HBA.out.lt);have hsz7:w2.heap.size≤(w6.drewN nq).heap.size:=HB7.out.size;clear hbn a1 a2 zf HO6 HP6;generalize w6.drewN nq=w7 at *;have a2:=HBA7.out.cell 2;simp only [List.getElem?_toArray,List.getElem?_cons_zero,List.getElem?_cons_succ] at a2;have hle:(kf src fl (Q.take i)).length≤i:=Nat.le_trans (XQ _ _ _) (by simp;omega);obtain ⟨ln,hln⟩:∃ln,ln=(kf src fl (Q.take i)).length:=⟨_,rfl⟩;rw [←hln] at how hle;have HLN:=Lib.hid hln;clear hln;go_wp2_with (at_builtin;refine yX qY rfl _ _ rfl w2.heap.size u4 ln _ rfl w7.heap.size [.int .i64 ((qf:Nat):Int)] rfl rfl how rfl rfl ?a2 ?a3 ?a4 ?_)
     case a2=>omega
     case a3=>omega
     case a4=>exact hsz7
     intro v1 w8 ho hg hd
     have HO8:=Lib.hid (show w8.ownsRow w2.heap.size 3 1 v1 (kf src fl (Q.take (i+1))).length (jf (kf src fl (Q.take (i+1)))) by
      rw [HS2.out,List.length_append,←HLN.out]
      simpa [jf] using ho)
     have HB8:=Lib.hid (HB7.out.trans ((Evo.of_grown (T:=[3]) (B:=w2.heap.size) how hg (by simp) (Nat.le_refl _)).below hsz7));clear ho hg hd how a2;go_wp2_with fail
     go_roundg (Q.length-(i+1))
     case measure=>rw [Hk.out];omega
     case rel=>exact ⟨i+1,by go_num,by omega,rfl,HO8.out,HB8.out⟩
    ·have HS2:=Lib.hid (show kf src fl (Q.take (i+1))=kf src fl (Q.take i) by rw [HST.out,if_neg (by rw [decide_eq_false h2];simp),List.append_nil]);have hd2:decide (ix≥0)=false:=decide_eq_false h2;rw [hd2] at HCT;clear h1 h2 hd2
     go_quiet ((go_at_call_of 56 (Value.int .i64 (qf:Nat));exact uv (HCT.out _)))
     have hbn:=below_drewN (Below.refl w6.heap.size w6) nq;have HO7:=Lib.hid (qP HO6.out hbn (Nat.le_refl _));have HB7:=Lib.hid (HB6.out.trans (hbn.mono HB6.out.size));clear hbn;go_wp2_with fail
     go_roundg (Q.length-(i+1))
     case measure=>rw [Hk.out];omega
     case rel=>exact ⟨i+1,by go_num,by omega,rfl,by rw [HS2.out];exact HO7.out,HB7.out⟩
   ·have hq1:((qb:Int)==src)=false:=by rw [beq_eq_false_iff_ne];exact h1
    have HS2:=Lib.hid (show kf src fl (Q.take (i+1))=kf src fl (Q.take i) by rw [HST.out,if_neg (by rw [decide_eq_false h1];simp),List.append_nil]);clear h1
    go_quiet (fail)
    have hbn:=below_drewN (Below.refl w6.heap.size w6) nq;have HO7:=Lib.hid (qP HO6.out hbn (Nat.le_refl _));have HB7:=Lib.hid (HB6.out.trans (hbn.mono HB6.out.size));clear hbn;go_wp2_with fail
    go_roundg (Q.length-(i+1))
    case measure=>rw [Hk.out];omega
    case rel=>exact ⟨i+1,by go_num,by omega,rfl,by rw [HS2.out];exact HO7.out,HB7.out⟩
  ·have hie:i=Q.length:=by omega
   have hlt':¬(i:Int)<Q.length:=by omega
   have HOF:=Lib.hid (show wr.ownsRow w2.heap.size 3 1 u4 (kf src fl Q).length (jf (kf src fl Q)) by
    have:=HO.out;rw [hie,List.take_length] at this
    exact this)
   have hsl:(kf src fl Q).length≤1000:=Nat.le_trans (XQ _ _ _) hQl;obtain ⟨S,hS⟩:∃S,S=kf src fl Q:=⟨_,rfl⟩;rw [←hS] at HOF HL hsl;clear hie hlt hi hS HO;rcases Nat.eq_zero_or_pos S.length with h0 | hpos
   ·obtain ⟨A4,c4,rfl⟩:=jA HOF.out
    have HLE:=Lib.hid (show L.length=0∧jf L=[] by
     have:S=[]:=List.length_eq_zero_iff.1 h0;rw [HL.out,this];have hc:Lib.compact (([]:List Int).mergeSort leI)=[]:=by simp [Lib.compact,Lib.compactUpTo]
     rw [hc]
     exact ⟨rfl,rfl⟩)
    have HZ:=Lib.hid h0;clear h0 HOF HL hsl;have hz:∀c,Value.slice A4 S.length c=Value.slice A4 0 c:=fun c=>by rw [HZ.out]
    rw [hz];clear hz;go_wp2_with fail;refine (KU A4 c4 wr).mono ?_;rintro e w9 ⟨rfl,rfl⟩;go_wp2_with fail;refine (Wy A4 c4 wr).mono ?_;rintro e w9 ⟨rfl,rfl⟩;go_wp2_with fail;go_ret;refine ⟨A4,c4,by rw [HLE.out.1];rfl,HBW2.out.trans (HB.out.mono HBW2.out.size),?_⟩;rw [HLE.out.2];exact fun h=>absurd h (by simp)
   ·obtain ⟨gs,cs,R,rfl,hgs,hblk,_,hcs,_,_⟩:=vT HOF.out hpos
    have HHO:=Lib.hid (show Sort.Holds (Value.int .i64) wr gs 0 S.toArray from fun j hj=>by
     have hj2:j<S.length:=by simpa using hj
     rw [Nat.zero_add];refine ⟨?_,hblk.frozen j⟩;rw [hblk.intR hj2,getElem!_pos _ j hj,List.getD_eq_getElem?_getD,List.getElem?_eq_getElem hj2]
     simp)
    have HGS:=Lib.hid (And.intro hgs hblk.lt);have HLM:=Lib.hid (show (S.mergeSort leI).length=S.length from List.length_mergeSort S);clear hblk hgs hpos HOF;go_wp2_with fail;refine (WO w2.heap.size gs cs S wr HHO.out HGS.out.2 HGS.out.1 (by omega)).mono ?_;rintro e w9 ⟨rfl,hb9,hh9,hg9⟩;have HC:=Lib.hid (ao w2.heap.size gs cs (S.mergeSort leI) w9 hh9 hg9 HGS.out.1 (by rw [HLM.out];omega) (by rw [HLM.out];omega));rw [HLM.out,←HL.out] at HC;have HB9:=Lib.hid (HB.out.trans hb9);clear hb9 hh9 hg9 hcs;go_wp2_with fail;refine HC.out.mono ?_;rintro e w10 ⟨rfl,hb10,hc10⟩;have HB10:=Lib.hid (HBW2.out.trans ((HB9.out.trans hb10).mono HBW2.out.size));have HC10:=Lib.hid hc10;clear hb10 hc10 HC;go_wp2_with fail;go_ret;exact ⟨_,_,rfl,HB10.out,HC10.out⟩
end Go.Proofs.YtneeknlhlkpnpaaGreat
/-
 forest.Outers: its parts looked at, one by one. (Printed by outsgen.py.) Written by an AI agent.
-/
namespace Go.Proofs.YtneeknlhlkpnpaaGreat
open Go.RowKit
theorem Gf{es:List (Int×Int)}{ro:Nat→Nat}{F N:Nat}{Q:List zu}(h:zX (Jf ro (Q.filter hiQ) F N) (Vg es ro F N) (pos ro F)=none):WG es ro F N Q=[]:=by
 unfold WG;rw [h]
theorem dw{es:List (Int×Int)}{ro:Nat→Nat}{F N:Nat}{Q:List zu}{fr:Int}(h:zX (Jf ro (Q.filter hiQ) F N) (Vg es ro F N) (pos ro F)=some fr)(hn:fr<0):WG es ro F N Q=[]:=by
 unfold WG;rw [h];exact if_pos hn
theorem Vp{es:List (Int×Int)}{ro:Nat→Nat}{F N:Nat}{Q:List zu}{fr:Nat}(h:zX (Jf ro (Q.filter hiQ) F N) (Vg es ro F N) (pos ro F)=some (fr:Int)):WG es ro F N Q=Lib.compact ((kf ((yP N es Prod.snd).getD 0 0) (rlB ro F N (2*fr)) Q).mergeSort leI):=by
 unfold WG;rw [h]
 show (if (fr:Int)<0 then [] else _)=_
 rw [if_neg (by omega),Int.toNat_natCast]
theorem rg{ro:Nat→Nat}{F x k i:Nat}(hi:i<(rlV ro F x k).length):∃y:Nat,y<x∧(rlV ro F x k)[i]=(y:Int):=by
 have hm:=List.getElem_mem hi;unfold rlV at hm;obtain ⟨y,hy,e⟩:=List.mem_map.1 hm;exact ⟨y,List.mem_range.1 (List.mem_filter.1 hy).1,e.symm⟩
theorem KC(ro:Nat→Nat)(F N k:Nat):rlB ro F N (2*k+1)=rlV ro F N k:=by
 unfold rlB;rw [if_neg (by omega),show (2*k+1)/2=k by omega]
theorem Vn(ro:Nat→Nat)(F N k:Nat):rlB ro F N (2*k)=rlF ro F k:=by
 unfold rlB;rw [if_pos (by omega),show 2*k/2=k by omega]
set_option maxRecDepth 100000 in
set_option maxHeartbeats 4000000 in
theorem ru(N cap ccap m cp B F gc gv:Nat)(A C Ap:Option Addr)(es:List (Int×Int))(rs:List (List Int))(ro:Nat→Nat)(H:List zu)(hH:H=(yl (N:Int) es rs).filter hiQ)(rv:Nat→Value)(w wc:World)(hS:SG w wc (N:Int) A cap es C rs)(hP:PartM wc B (.slice Ap m cp) m (rlB ro F N) (cA ro H) rv)(hm:m=pos ro F)(hc:wc.cell? ⟨gc,0,none⟩=some (.pointer (some ⟨gv,0,none⟩)))(hgc:gc<wc.heap.size)(hv:yQ wc gv N es)(hr1:rs.length≤1000)(hr2:∀l∈rs,l.length≤1000)(hN:N≤64)(hF:F≤1000)(hes:es.length≤1000)(hsrc:0<(yP N es Prod.snd).length)(L:List Int)(hL:L=WG es ro F N (yl (N:Int) es rs))(hQl:(yl (N:Int) es rs).length≤1000)(u0 u3 u8 u9 u10 u11 u12 u13 u14 u15 u16 u17 u18 u19 u20 u21 u22 u23 u24 u25 u26 u27 u28 u29 u30 u31 u32 u33 u34 u35 u36 u37 u38 u39 u40 u41 u42 u43 u44 u45 u46 u47 u48 u49 u50 u51 u52 u53 u54 u55 u56 u57 u58 u59 u60 u61 u62 u63 u64 u65 u66 u67 u68 u69 u70 u71 u72 u73 u74 u75 u76 u77 u78 u79 u80 u81 u82 u83 u84 u85 u86 u87 u88 u89 u90 u91 u92:Value)(K:Act→World→Prop)(hK:∀a0 w0,Code.wp Tryz.prog (YR (vH 4 ((Tryz.f17.body).getD .skip))) (bodyPost Tryz.prog Tryz.f17 (Qw L w)) a0 w0→K a0 w0)(K4:Act→World→Prop)(hK4:∀a0 w0,Code.wp Tryz.prog (YR (uS (vH 4 ((Tryz.f17.body).getD .skip)))) (Exit.then K (bodyPost Tryz.prog Tryz.f17 (Qw L w))) a0 w0→K4 a0 w0):Code.wp Tryz.prog (uS (uS (vH 4 ((Tryz.f17.body).getD .skip)))) (Exit.then K4 (Exit.then K (bodyPost Tryz.prog Tryz.f17 (Qw L w)))) ⟨#[u0,.slice C rs.length ccap,.pointer (some ⟨w.heap.size,0,none⟩),u3,.slice none 0 0,.slice Ap m cp,.pointer (some ⟨gc,0,none⟩),.int .i64 (-1),u8,u9,u10,u11,u12,u13,u14,u15,u16,u17,u18,u19,u20,u21,u22,u23,u24,u25,u26,u27,u28,u29,u30,u31,u32,u33,u34,u35,u36,u37,u38,u39,u40,u41,u42,u43,u44,u45,u46,u47,u48,u49,u50,u51,u52,u53,u54,u55,u56,u57,u58,u59,u60,u61,u62,u63,u64,u65,u66,u67,u68,u69,u70,u71,u72,u73,u74,u75,u76,u77,u78,u79,u80,u81,u82,u83,u84,u85,u86,u87,u88,u89,u90,u91,u92],[]⟩ wc:=by
 conv=>arg 2;whnf
 conv at hK=>intro a0 w0;arg 1;arg 2;whnf
 conv at hK4=>intro a0 w0;arg 1;arg 2;whnf
 have HHE:=Lib.hid hH;have HS:=Lib.hid hS;have HP:=Lib.hid hP;have HMM:=Lib.hid hm;have HC:=Lib.hid (And.intro hc hgc);have HV:=Lib.hid hv;have HR:=Lib.hid (And.intro hr1 hr2);have HL:=Lib.hid hL;have HSRC:=Lib.hid hsrc;have HPF:=Lib.hid (show m≤F by rw [hm];exact pc F);have hmF:m≤1000:=by have:=HPF.out;omega
 clear hH hS hP hm hc hgc hv hr1 hr2 hL hsrc;go_wp2_with fail
 go_loopg [4,7,21] m (fun k s4 s7 s21 wr=>∃(j:Nat) (fr:Int),s4 = .slice none 0 0∧s7 = .int .i64 fr∧s21 = .int .i64 j∧j≤m∧k=m-j∧zX (Jf ro H F N) (Vg es ro F N) j=some fr∧Below wc.heap.size wc wr)
 case atStart=>exact ⟨0,-1,rfl,rfl,rfl,Nat.zero_le _,rfl,rfl,Below.refl _ _⟩
 case round=>
  obtain ⟨j,fr,rfl,rfl,rfl,hj,hk,hfr,hb⟩:=hrel;have Hk:=Lib.hid hk;have HFR:=Lib.hid hfr;have HB:=Lib.hid hb;clear hk hfr hb;have hbd:=dQ HFR.out;by_cases hlt:j<m
  ·have hlt':(j:Int)<m:=by omega
   obtain ⟨gp,cp2,hvp,_⟩:=HP.out.form (by omega);injection hvp with hv1 _ hv2;subst hv1 hv2;have HP1:=Lib.hid (HP.out.below HB.out (Nat.le_refl _));obtain ⟨A1,c1,z0,_⟩:=HP1.out.part (k:=j) (j:=0) hlt (by omega);obtain ⟨A2,c2,z1,hc2⟩:=HP1.out.part (k:=j) (j:=1) hlt (by omega);have z2:=HP1.out.cellN hlt;rw [Nat.add_zero,Nat.add_zero] at z0;rw [Nat.mul_comm 3 j] at z0 z1 z2;have HTK:=Lib.hid (show Jf ro H F N j=(((cA ro H j:Nat):Int)==(((rlB ro F N (2*j)).length:Nat):Int)+(((rlB ro F N (2*j+1)).length:Nat):Int)-1) from rfl);have HIK:=Lib.hid (show Vg es ro F N j=Ji (aD es) (rlB ro F N (2*j+1)) (rlB ro F N (2*j+1)).length from rfl)
   have HLN:=Lib.hid (show ∀i (hi:i<(rlB ro F N (2*j+1)).length),∃y:Nat,y<N∧(rlB ro F N (2*j+1))[i]=(y:Int) by
    rw [KC]
    exact fun i hi=>rg hi)
   have hl0:(rlB ro F N (2*j)).length≤1000:=by rw [Vn];exact Nat.le_trans (Qe _ _) hF
   have hl1:(rlB ro F N (2*j+1)).length≤1000:=by rw [KC];exact Nat.le_trans (KV _ _ _) (by omega)
   obtain ⟨l0,hl0e⟩:∃l,l=(rlB ro F N (2*j)).length:=⟨_,rfl⟩;obtain ⟨lv,hlv⟩:∃l,l=rlB ro F N (2*j+1):=⟨_,rfl⟩;obtain ⟨ca,hca⟩:∃c,c=cA ro H j:=⟨_,rfl⟩;rw [←hl0e] at z0 hl0 HTK;rw [←hlv] at z1 hl1 HTK HIK HLN hc2;rw [←hca] at z2 HTK;clear hl0e hlv hca;have HC2:=Lib.hid hc2;have HAB:=Lib.hid ((Below.refl wr.heap.size wr).alloc (Nat.le_refl _) (.cells #[.slice A1 l0 c1,.slice A2 lv.length c2,.int .i64 (ca:Nat)] 70));have HBA:=Lib.hid (Blk.new wr 70 #[.slice A1 l0 c1,.slice A2 lv.length c2,.int .i64 (ca:Nat)]);obtain ⟨gA,hgA⟩:∃gA,gA=wr.heap.size:=⟨_,rfl⟩;clear hc2
   go_upto_region 7 with fail
   generalize wr.alloc (.cells #[.slice A1 l0 c1,.slice A2 lv.length c2,.int .i64 (ca:Nat)] 70)=w6 at *;have HC6:=Lib.hid ((HC2.out.below HAB.out).more HAB.out.size);have HB6:=Lib.hid (HB.out.trans (HAB.out.mono HB.out.size));rw [←hgA] at HBA;rw [←hgA];clear z0 z1 z2 HB HAB hgA HC2 HP1;have b1:=HBA.out.cell 1;simp only [List.getElem?_toArray,List.getElem?_cons_zero,List.getElem?_cons_succ] at b1;go_wp2_with fail;refine (XB A2 c2 lv w6 HC6.out hl1).mono ?_;rintro e w7 ⟨v7,rfl,hb7,ho7⟩;have HB7:=Lib.hid (HB6.out.trans (hb7.mono HB6.out.size));have HBA7:=Lib.hid (HBA.out.below hb7 HBA.out.lt);have HO7:=Lib.hid ho7;have hs7:=hb7.size;clear hb7 ho7 b1;go_wp2_with fail
   refine (oG w6.heap.size v7 lv 53 #[.pointer (some ⟨gc,0,none⟩)] (aD es) w7 hl1 HO7.out hs7 KN (fun i hi w' hb=>by
    obtain ⟨y,hy,e⟩:=HLN.out i hi;have hbw:=HB7.out.trans (hb.mono HB6.out.size);have:=lT gc gv N y es w' ((hbw.cell (p:=⟨gc,0,none⟩) HC.out.2).trans HC.out.1) (HV.out.below hbw (Nat.le_refl _)) hy hes;rw [e]
    exact this)).mono ?_
   rintro e w8 ⟨A8,c8,rfl,hb8⟩;rw [←HIK.out];have HB8:=Lib.hid (HB7.out.trans (hb8.mono HB6.out.size));have HBA8:=Lib.hid (HBA7.out.below hb8 HBA.out.lt);clear hb8 HBA7 HO7 HC6 hs7;have b0:=HBA8.out.cell 0;have b1:=HBA8.out.cell 1;have b2:=HBA8.out.cell 2;simp only [List.getElem?_toArray,List.getElem?_cons_zero,List.getElem?_cons_succ] at b0 b1 b2;have HCB:=Lib.hid (show Vg es ro F N j≤1000 by rw [HIK.out];exact Nat.le_trans (dF _ _ _) hl1);have HBAD:=Lib.hid (fun hb=>Xw HFR.out hb);have HOK:=Lib.hid (fun hb=>JR HFR.out hb)
   have HNIL:=Lib.hid (show zX (Jf ro H F N) (Vg es ro F N) (j+1)=none→L.length=0∧jf L=[] from fun h=>by
    rw [HL.out,Gf (by rw [←HHE.out,←HMM.out];exact Uj h (by omega))]
    exact ⟨rfl,rfl⟩)
   obtain ⟨ci,hci⟩:∃c,c=Vg es ro F N j:=⟨_,rfl⟩;rw [←hci] at HCB HBAD HOK;rw [←hci];have hcib:=HCB.out;clear hci HIK;go_wp2_with fail;refine (ng A1 A2 l0 lv.length c1 c2 ca w8 (by omega) (by omega)).mono ?_;rintro e w9 ⟨rfl,hb9⟩;rw [←HTK.out];have HB9:=Lib.hid (HB8.out.trans (hb9.mono HB8.out.size));obtain ⟨tv,htv⟩:∃t,t=Jf ro H F N j:=⟨_,rfl⟩;rw [←htv] at HBAD HOK;rw [←htv];clear hb9 htv HTK b0 b1 b2 HBA8 HBA
   cases tv with
   | false=>
    have HZ:=Lib.hid (HNIL.out (HBAD.out (by unfold Vh;rfl)));go_wp2_with fail;go_ret;refine ⟨none,0,by rw [HZ.out.1];rfl,HS.out.below.trans (HB9.out.mono (Nat.le_of_lt HS.out.lt)),?_⟩;rw [HZ.out.2];exact fun h=>absurd h (by simp)
   | true=>
    by_cases h1:1<ci
    ·have h1':(1:Int)<ci:=by omega
     have HZ:=Lib.hid (HNIL.out (HBAD.out (by unfold Vh;rw [decide_eq_true h1];rfl)));clear h1;go_wp2_with fail;go_ret;refine ⟨none,0,by rw [HZ.out.1];rfl,HS.out.below.trans (HB9.out.mono (Nat.le_of_lt HS.out.lt)),?_⟩;rw [HZ.out.2];exact fun h=>absurd h (by simp)
    ·have h1':¬(1:Int)<ci:=by omega
     by_cases h2:ci=0
     ·have h2':((ci:Int)==0)=true:=by rw [h2];rfl
      by_cases h3:0≤fr
      ·have HZ:=Lib.hid (HNIL.out (HBAD.out (by unfold Vh;rw [decide_eq_true h2,decide_eq_true h3];simp)));clear h1 h2;go_wp2_with fail;go_ret;refine ⟨none,0,by rw [HZ.out.1];rfl,HS.out.below.trans (HB9.out.mono (Nat.le_of_lt HS.out.lt)),?_⟩;rw [HZ.out.2];exact fun h=>absurd h (by simp)
      ·have HN:=Lib.hid (show zX (Jf ro H F N) (Vg es ro F N) (j+1)=some (j:Int) by
        rw [HOK.out (by unfold Vh;rw [decide_eq_false h1,decide_eq_false h3];simp),if_pos h2])
       clear h1 h2;go_wp2_with fail
       go_roundg (m-(j+1))
       case measure=>rw [Hk.out];omega
       case rel=>exact ⟨j+1,j,rfl,rfl,by go_num,by omega,rfl,HN.out,HB9.out⟩
     ·have h2':((ci:Int)==0)=false:=by rw [beq_eq_false_iff_ne];omega
      have HN:=Lib.hid (show zX (Jf ro H F N) (Vg es ro F N) (j+1)=some fr by
       rw [HOK.out (by unfold Vh;rw [decide_eq_false h1,decide_eq_false h2];simp),if_neg h2])
      clear h1 h2;go_wp2_with fail
      go_roundg (m-(j+1))
      case measure=>rw [Hk.out];omega
      case rel=>exact ⟨j+1,fr,rfl,rfl,by go_num,by omega,rfl,HN.out,HB9.out⟩
  ·have hje:j=m:=by omega
   subst hje;have hlt':¬(j:Int)<j:=by omega
   by_cases h0:fr<0
   ·have HZ:=Lib.hid (show L.length=0∧jf L=[] by
     rw [HL.out,dw (by rw [←HHE.out,←HMM.out];exact HFR.out) h0]
     exact ⟨rfl,rfl⟩)
    clear hlt hj;go_wp2_with fail;go_ret;refine ⟨none,0,by rw [HZ.out.1];rfl,HS.out.below.trans (HB.out.mono (Nat.le_of_lt HS.out.lt)),?_⟩;rw [HZ.out.2];exact fun h=>absurd h (by simp)
   ·obtain ⟨f,rfl⟩:∃f:Nat,fr=(f:Int):=⟨fr.toNat,by omega⟩;have hfm:f<j:=by omega
    have HLP:=Lib.hid (show L=Lib.compact ((kf ((yP N es Prod.snd).getD 0 0) (rlB ro F N (2*f)) (yl (N:Int) es rs)).mergeSort leI) by
     rw [HL.out]
     exact Vp (by rw [←HHE.out,←HMM.out];exact HFR.out))
    obtain ⟨gp,cp2,hvp,_⟩:=HP.out.form (by omega);injection hvp with hv1 _ hv2;subst hv1 hv2;have zc:=(HB.out.cell (p:=⟨gc,0,none⟩) HC.out.2).trans HC.out.1;have HV1:=Lib.hid (HV.out.below HB.out (Nat.le_refl _));clear hlt hj h0 hbd;go_wp2_with fail;refine (XN gv N es wr HV1.out (by omega) hes).mono ?_;rintro e w9 ⟨v9,rfl,hb9,ho9⟩;obtain ⟨A9,c9,rfl⟩:=jA ho9;obtain ⟨b9,o9,rfl,hlt9,hcc9⟩:=(jr.of_own ho9).ints HSRC.out;have z9:=hcc9 0 HSRC.out;have HSV:=Lib.hid (show (yP N es Prod.snd).getD 0 0=(yP N es Prod.snd)[0]'HSRC.out by rw [List.getD_eq_getElem?_getD,List.getElem?_eq_getElem HSRC.out];rfl);rw [←HSV.out] at z9;have hs0:(0:Int)<(yP N es Prod.snd).length:=by have:=HSRC.out;omega
    have HB9:=Lib.hid (HB.out.trans (hb9.mono HB.out.size));have S9:=Lib.hid (HS.out.next HB9.out);have HP9:=Lib.hid (HP.out.below HB9.out (Nat.le_refl _));clear hb9 ho9 hcc9 zc HV1 HSV;generalize (yP N es Prod.snd).length=ns at *;obtain ⟨src,hsv⟩:∃s,s=(yP N es Prod.snd).getD 0 0:=⟨_,rfl⟩;rw [←hsv] at z9 HLP;clear hsv;rw [Nat.add_zero] at z9
    go_upto_region 16 with fail
    exact rr N cap ccap j cp f gp B F A C es rs ro H rv src w w9 S9.out HP9.out hfm HR.out.1 HR.out.2 L HLP.out hQl (by rw [Vn];exact Nat.le_trans (Qe _ _) hF) _ _ _ _ _ _ _ _ _ _ _ _ _ _ _ _ _ _ _ _ _ _ _ _ _ _ _ _ _ _ _ _ _ _ _ _ _ _ _ _ _ _ _ _ _ _ _ _ _ _ _ _ _ _ _ _ _ _ _ _ _ _ _ _ _ _ _ _ _ _ _ _ _ _ _ _ _ _ _ _ _ _ _ _ _ _ _ _ (by assumption) _ (by assumption)
end Go.Proofs.YtneeknlhlkpnpaaGreat
/-
 forest.Outers, whole. (Printed by outsgen.py.) Written by an AI agent.
-/
namespace Go.Proofs.YtneeknlhlkpnpaaGreat
open Go.RowKit
noncomputable def roR(n:Int)(es:List (Int×Int))(rs:List (List Int)):Nat→Nat:=roH (jo n es rs).length ((yl n es rs).filter hiQ)
noncomputable def Ve(n:Int)(es:List (Int×Int))(rs:List (List Int)):List Int:=if zn n es rs=true then WG es (roR n es rs) (jo n es rs).length rs.length (yl n es rs) else []
set_option maxRecDepth 100000 in
set_option maxHeartbeats 4000000 in
theorem Ka(n:Int)(A C:Option Addr)(cap ccap:Nat)(es:List (Int×Int))(rs:List (List Int))(w:World)(hes:jr w w.heap.size A (jD es))(hrs:qz w w.heap.size C rs)(hr1:rs.length≤1000)(hr2:∀l∈rs,l.length≤1000)(hcap:es.length≤cap) :
  Calls Tryz.prog 17 #[.agg #[.int .i64 n,.slice A es.length cap],.slice C rs.length ccap] w (Qw (Ve n es rs) w):=by
 have S1:=Lib.hid (SG.start n cap hes hrs);have HR2:=Lib.hid hr2;clear hes hrs hr2
 cases hf:zn n es rs with
 | false=>
  have HF:=Lib.hid hf;have HL:=Lib.hid (show Ve n es rs=[] by unfold Ve;rw [hf];rfl);clear hf
  go_enter Tryz.func17,Tryz.ntmps17
  go_upto_region 1 with fail
  generalize w.alloc (.cells #[.int .i64 n,.slice A es.length cap] 24)=w1 at *;have g0:=S1.out.g0;have g1:=S1.out.g1;go_wp2_with fail;refine (Zs n A C cap ccap es rs w1 S1.out.es S1.out.rs hr1 HR2.out hcap).mono ?_;rintro e w2 ⟨v,rfl,hb2,hv,_⟩;obtain rfl:=hv HF.out;have S2:=Lib.hid (S1.out.next hb2);have g0:=S2.out.g0;have g1:=S2.out.g1;clear hb2 S1;go_wp2_with fail;refine (uG n A cap es w2 S2.out.es).mono ?_;rintro e w3 ⟨gv,rfl,hb3,_⟩;have S3:=Lib.hid (S2.out.next hb3);have hb4:=(Below.refl w3.heap.size w3).alloc (Nat.le_refl _) (.cells #[.pointer (some ⟨gv,0,none⟩)] 84);have S4:=Lib.hid (S3.out.next hb4);clear hb3 hb4 S2 S3 g0 g1
  go_upto_region 4 with fail
  generalize w3.alloc (.cells #[.pointer (some ⟨gv,0,none⟩)] 84)=w4 at *;go_wp2_with fail
  go_loopg [7,21] 0 (fun k s7 s21 wr=>s7 = .int .i64 (-1)∧s21 = .int .i64 0∧w4=wr)
  case atStart=>exact ⟨rfl,rfl,rfl⟩
  case round=>
   obtain ⟨rfl,rfl,rfl⟩:=hrel;go_wp2_with fail;go_ret;rw [HL.out];exact ⟨none,0,rfl,S4.out.below,fun h=>absurd h (by simp [jf])⟩
 | true=>
  have hA:=zN hf;have hP:=yF hA;have hn:n=(rs.length:Int):=hP.len.symm;subst hn;have hm:=qv hP.may;have hfl:=kM hP;have HF:=Lib.hid hf;have HM:=Lib.hid hP.may;have HL:=Lib.hid (show Ve (rs.length:Int) es rs=WG es (roH (jo (rs.length:Int) es rs).length ((yl (rs.length:Int) es rs).filter hiQ)) (jo (rs.length:Int) es rs).length rs.length (yl (rs.length:Int) es rs) by unfold Ve roR;rw [if_pos hf])
  have HB:=Lib.hid (show rs.length≤64∧(jo (rs.length:Int) es rs).length≤1000∧es.length≤1000∧(yl (rs.length:Int) es rs).length≤1000 by
   rw [QZ hA]
   omega)
  have HSR:=Lib.hid (show 0<(yP rs.length es Prod.snd).length by
   unfold yP;rw [List.length_map,YI (xM hf)]
   omega)
  clear hm hfl hA hP hf
  go_enter Tryz.func17,Tryz.ntmps17
  go_upto_region 1 with fail
  generalize w.alloc (.cells #[.int .i64 (rs.length:Int),.slice A es.length cap] 24)=w1 at *;have g0:=S1.out.g0;have g1:=S1.out.g1;go_wp2_with fail;refine (Zs (rs.length:Int) A C cap ccap es rs w1 S1.out.es S1.out.rs hr1 HR2.out hcap).mono ?_;rintro e w2 ⟨v,rfl,hb2,_,hv⟩;obtain ⟨rv,hpm⟩:=hv HF.out;obtain ⟨Ap,cp,rfl⟩:=jA hpm.own;have HPM:=Lib.hid hpm;have S2:=Lib.hid (S1.out.next hb2);have g0:=S2.out.g0;have g1:=S2.out.g1;clear hb2 S1 hpm hv;go_wp2_with fail;refine (uG (rs.length:Int) A cap es w2 S2.out.es).mono ?_;rintro e w3 ⟨gv,rfl,hb3,hvw⟩;rw [show vN (rs.length:Int) es=rs.length by rw [vN,if_pos HM.out,Int.toNat_natCast],show vE (rs.length:Int) es=es by rw [vE,if_pos HM.out]] at hvw;have S3:=Lib.hid (S2.out.next hb3);have hb4:=(Below.refl w3.heap.size w3).alloc (Nat.le_refl _) (.cells #[.pointer (some ⟨gv,0,none⟩)] 84);have S4:=Lib.hid (S3.out.next hb4);have HV4:=Lib.hid (hvw.below hb4 (Nat.le_refl _));have HC4:=Lib.hid (Blk.new w3 84 #[.pointer (some ⟨gv,0,none⟩)]);have HP4:=Lib.hid ((HPM.out.below hb3 (Nat.le_refl _)).below hb4 (Nat.le_refl _));clear hb3 hb4 S2 S3 g0 g1 hvw HPM
  go_upto_region 4 with fail
  exact ru rs.length cap ccap _ cp _ (jo (rs.length:Int) es rs).length w3.heap.size gv A C Ap es rs _ _ rfl rv w _ S4.out HP4.out rfl (HC4.out.cell 0) HC4.out.lt HV4.out hr1 HR2.out HB.out.1 HB.out.2.1 HB.out.2.2.1 HSR.out _ HL.out HB.out.2.2.2 _ _ _ _ _ _ _ _ _ _ _ _ _ _ _ _ _ _ _ _ _ _ _ _ _ _ _ _ _ _ _ _ _ _ _ _ _ _ _ _ _ _ _ _ _ _ _ _ _ _ _ _ _ _ _ _ _ _ _ _ _ _ _ _ _ _ _ _ _ _ _ _ _ _ _ _ _ _ _ _ _ _ _ _ _ _ _ _ (by assumption) _ (by assumption)
end Go.Proofs.YtneeknlhlkpnpaaGreat
