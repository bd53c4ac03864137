import Derived.Test.YtneeknlhlkpnpaaGreatZFollow
import Derived.Test.YtneeknlhlkpnpaaGreatZReg
import Derived.Test.YtneeknlhlkpnpaaGreatZRPl
/-
 rise.halved, rise.outs: what they compute. Written by an AI agent.
-/
namespace Go.Proofs.YtneeknlhlkpnpaaGreat
open Go.RowKit
theorem im{l:List Int}{i:Nat}(h:i<l.length):uU (l.take (i+1))=uU (l.take i)++[l[i]/2]:=by
 unfold uU;rw [List.take_succ_eq_append_getElem h,List.map_append];rfl
theorem VU(l:List Int):(uU l).length=l.length:=by unfold uU;rw [List.length_map]
set_option maxRecDepth 20000 in
set_option maxHeartbeats 4000000 in
theorem dn(A:Option Addr)(c:Nat)(l:List Int)(w:World)(h:jr w w.heap.size A (jf l))(hl:l.length≤1000)(hn:∀a∈l,∃d:Nat,a=d∧d≤100000) :
  Calls Tryz.prog 73 #[.slice A l.length c] w (fun e w'=>∃v,e = .returned v∧Below w.heap.size w w'∧w'.ownsRow w.heap.size 3 1 v (uU l).length (jf (uU l))):=by
 have H:=Lib.hid h;have HN:=Lib.hid hn;clear h hn
 go_enter Tryz.func73,Tryz.ntmps73
 go_wp2_with fail
 go_loopg [2,7] l.length (fun k s2 s7 wr=>∃i:Nat,s7 = .int .i64 i∧i≤l.length∧k=l.length-i∧Below w.heap.size w wr∧wr.ownsRow w.heap.size 3 1 s2 i (jf (uU (l.take i))))
 case atStart=>exact ⟨0,rfl,Nat.zero_le _,rfl,Below.refl _ _,World.ownsRow_nil _ _ _ _⟩
 case round=>
  obtain ⟨i,rfl,hi,hk,hb,ho⟩:=hrel;have Hk:=Lib.hid hk;have HB:=Lib.hid hb;have hsw:=hb.size;clear hk;by_cases hlt:i<l.length
  ·have hlt':(i:Int)<l.length:=by omega
   obtain ⟨b1,o1,rfl,hb1,hc1⟩:=(H.out.below hb).ints (by omega);have c0:=hc1 i hlt;obtain ⟨d,hd,hd2⟩:=HN.out _ (List.getElem_mem hlt);have HS:=im hlt;rw [hd] at c0 HS;have hq:Int.tdiv (d:Int) 2=((d/2:Nat):Int):=by rw [Int.tdiv_eq_ediv_of_nonneg (by omega)];simp
   rw [show (d:Int)/2=((d/2:Nat):Int) by omega] at HS;have HS:=Lib.hid HS;obtain ⟨q,hqq⟩:∃q,q=d/2:=⟨_,rfl⟩;rw [←hqq] at hq HS;have hqb:q≤100000:=by omega
   clear hc1 hb hd hqq;go_wp2_with (at_builtin;refine yC qz rfl _ _ rfl w.heap.size u2 _ _ rfl wr.heap.size [.int .i64 q] rfl rfl ho rfl rfl ?h7 ?h8 ?h9 ?_)
   case h7=>omega
   case h8=>omega
   try (case h9=>omega)
   intro v' w' hown' hg' _;have hb':=qb HB.out ho hg' hsw (Nat.le_refl _)
   have ho':w'.ownsRow w.heap.size 3 1 v' (i+1) (jf (uU (l.take (i+1)))):=by
    rw [HS.out,show ∀(l:List Int) (x:Int),jf (l++[x])=jf l++[.int .i64 x] from fun l x=>by simp [jf]];exact hown'
   have HX:=Lib.hid (And.intro hb' ho');clear hb' ho' ho hown' hg';go_wp2_with fail
   go_roundg (l.length-(i+1))
   case measure=>rw [Hk.out];omega
   case rel=>exact ⟨i+1,by go_num,by omega,rfl,HX.out.1,HX.out.2⟩
  ·have hie:i=l.length:=by omega
   have hlt':¬(i:Int)<l.length:=by omega
   have HF:=Lib.hid (show wr.ownsRow w.heap.size 3 1 u2 (uU l).length (jf (uU l)) by rw [hie,List.take_length] at ho;rw [VU];exact ho);clear hie ho hb;go_wp2_with fail;go_ret;exact ⟨_,rfl,HB.out,HF.out⟩
def Xg(l:List Int)(i j:Nat):List Int:=((rot l i).take j).map (· / 2)
theorem fN{l:List Int}{i j:Nat}(hi:i<l.length)(hj:j<l.length):Xg l i (j+1)=Xg l i j++[l[(i+j)%l.length]'(Nat.mod_lt _ (by omega))/2]:=by
 unfold Xg;rw [List.take_succ_eq_append_getElem (by rw [qM];exact hj),List.map_append,JP hi hj];rfl
theorem lu{l:List Int}{i j:Nat}(hi:i<l.length)(hj:j<l.length)(h:∀t (ht:t<j),evI (l[(i+t)%l.length]'(Nat.mod_lt _ (by omega)))=true)(hno:evI (l[(i+j)%l.length]'(Nat.mod_lt _ (by omega)))=false):Xg l i j=((rot l i).takeWhile evI).map (· / 2):=by
 unfold Xg;congr 1;have h1:rot l i=(rot l i).take j++(rot l i).drop j:=(List.take_append_drop _ _).symm
 have h2:∀a∈(rot l i).take j,evI a=true:=fun a ha=>by
  obtain ⟨t,ht,rfl⟩:=List.getElem_of_mem ha;rw [List.length_take,qM] at ht;rw [List.getElem_take,JP hi (by omega)];exact h t (by omega)
 have h3:((rot l i).drop j).takeWhile evI=[]:=by
  rw [List.drop_eq_getElem_cons (by rw [qM];exact hj),List.takeWhile_cons_of_neg];rw [JP hi hj,hno];simp
 conv=>rhs;rw [h1]
 rw [List.takeWhile_append_of_pos h2,h3,List.append_nil]
theorem lw{l:List Int}{i:Nat}(hi:i<l.length)(h:Qc l i=true):evI l[i]=true∧evI (l[(i+(l.length-1))%l.length]'(Nat.mod_lt _ (by omega)))=false:=by
 unfold Qc at h;rw [List.getD_eq_getElem?_getD,List.getElem?_eq_getElem hi,List.getD_eq_getElem?_getD,List.getElem?_eq_getElem (Nat.mod_lt _ (by omega))] at h;simp only [Option.getD_some,Bool.and_eq_true,Bool.not_eq_true'] at h;refine ⟨h.1,?_⟩;rw [←h.2];simp only [show i+(l.length-1)=i+l.length-1 by omega]
theorem df{l:List Int}{i:Nat}(hi:i<l.length)(h:Qc l i=true)(hn:∀t,t<i→Qc l t=false):yM l=((rot l i).takeWhile evI).map (· / 2):=by
 have hf:(List.range l.length).find? (Qc l)=some i:=by
  rw [List.find?_range_eq_some];refine ⟨h,List.mem_range.2 hi,fun t ht=>?_⟩;rw [hn t ht];rfl
 unfold yM;rw [hf]
set_option maxRecDepth 20000 in
set_option maxHeartbeats 8000000 in
theorem de(A:Option Addr)(c:Nat)(l:List Int)(w:World)(h:jr w w.heap.size A (jf l))(hl:l.length≤1000)(hn:∀a∈l,∃d:Nat,a=d∧d≤100000) :
  Calls Tryz.prog 72 #[.slice A l.length c] w (fun e w'=>∃v,e = .returned v∧Below w.heap.size w w'∧w'.ownsRow w.heap.size 3 1 v (yM l).length (jf (yM l))):=by
 have H:=Lib.hid h;have HN:=Lib.hid hn;have HG:=Lib.hid (show ∀i (hi:i<l.length),∃d:Nat,l[i]=(d:Int)∧d≤100000 from fun i hi=>hn _ (List.getElem_mem hi));clear h hn
 go_enter Tryz.func72,Tryz.ntmps72
 go_wp2_with fail
 go_loopg [10,2] l.length (fun k s10 s2 wr=>∃i:Nat,s10 = .int .i64 i∧s2 = .slice none 0 0∧i≤l.length∧k=l.length-i∧wr=w ∧ ∀t,t<i→Qc l t=false)
 case atStart=>exact ⟨0,rfl,rfl,Nat.zero_le _,rfl,rfl,fun t ht=>absurd ht (Nat.not_lt_zero _)⟩
 case round=>
  obtain ⟨i,rfl,rfl,hi,hk,rfl,hno⟩:=hrel;have Hk:=Lib.hid hk;have HNO:=Lib.hid hno;clear hk hno;by_cases hlt:i<l.length
  ·have hlt':(i:Int)<l.length:=by omega
   have HM:=Lib.hid (show ∀x:Nat,x%l.length<l.length from fun x=>Nat.mod_lt _ (by omega));obtain ⟨b1,o1,rfl,hb1,hc1⟩:=H.out.ints (by omega);have c0:=hc1 i hlt;obtain ⟨j,hj⟩:∃j,j=(i+(l.length-1))%l.length:=⟨_,rfl⟩;have hjl:j<l.length:=by rw [hj];exact Nat.mod_lt _ (by omega)
   have c1:=hc1 j hjl;obtain ⟨d,hd,hd2⟩:=HG.out i hlt;obtain ⟨z,hz,hz2⟩:=HG.out j hjl
   have HUP:=Lib.hid (show Qc l i=(evI (d:Int) && !evI (z:Int)) by
    unfold Qc;rw [List.getD_eq_getElem?_getD,List.getElem?_eq_getElem hlt,List.getD_eq_getElem?_getD,List.getElem?_eq_getElem (Nat.mod_lt _ (by omega)),Option.getD_some,Option.getD_some,←hd,←hz]
    simp only [hj,show i+(l.length-1)=i+l.length-1 by omega])
   rw [hd] at c0;rw [hz] at c1
   have hmd:Int.tmod ((i:Int)+l.length-1) l.length=(j:Int):=by
    rw [Int.tmod_eq_emod_of_nonneg (by omega),hj,show (i:Int)+l.length-1=((i+(l.length-1):Nat):Int) by omega];rfl
   have hjl':(j:Int)<l.length:=by omega
   have hd0:Int.tmod (d:Int) 2=((d%2:Nat):Int):=by rw [Int.tmod_eq_emod_of_nonneg (by omega)];omega
   have hz0:Int.tmod (z:Int) 2=((z%2:Nat):Int):=by rw [Int.tmod_eq_emod_of_nonneg (by omega)];omega
   have HCC:=Lib.hid hc1;have HJ:=Lib.hid hj;clear hc1 hd hz hj;by_cases hup:d%2=0∧z%2=1
   case neg=>
    have HU2:=Lib.hid (show Qc l i=false by
     rw [HUP.out];unfold evI;by_cases h1:d%2=0
     ·have h2:z%2=0:=by omega
      rw [decide_eq_true (show (z:Int)%2=0 by omega)];simp
     ·rw [decide_eq_false (show ¬(d:Int)%2=0 by omega)];rfl)
    have HNO2:=Lib.hid (show ∀t,t<i+1→Qc l t=false from fun t ht=>by
     by_cases e:t=i
     ·rw [e];exact HU2.out
     ·exact HNO.out t (by omega))
    by_cases h1:d%2=0
    ·have h2:z%2=0:=by omega
     rw [h1] at hd0;rw [h2] at hz0;clear hup h1 h2;go_wp2_with fail
     go_roundg (l.length-(i+1))
     case measure=>rw [Hk.out];omega
     case rel=>exact ⟨i+1,by go_num,rfl,by omega,rfl,rfl,HNO2.out⟩
    ·have h1:d%2=1:=by omega
     rw [h1] at hd0;clear hup h1;go_wp2_with fail
     go_roundg (l.length-(i+1))
     case measure=>rw [Hk.out];omega
     case rel=>exact ⟨i+1,by go_num,rfl,by omega,rfl,rfl,HNO2.out⟩
   case pos=>
    obtain ⟨h1,h2⟩:=hup
    have HU2:=Lib.hid (show Qc l i=true by
     rw [HUP.out];unfold evI;rw [decide_eq_true (show (d:Int)%2=0 by omega),decide_eq_false (show ¬(z:Int)%2=0 by omega)]
     rfl)
    have HF:=Lib.hid (df hlt HU2.out HNO.out);have HODD:=Lib.hid (lw hlt HU2.out).2;rw [h1] at hd0;rw [h2] at hz0;clear h1 h2;obtain ⟨w0,rfl⟩:∃w0,w0=wr:=⟨_,rfl⟩;go_wp2_with fail;clear hd0 hz0 hmd
    go_loopg [2,5] l.length (fun k s2 s5 wr=>∃t:Nat,s5 = .int .i64 ((i:Int)+t)∧t<l.length∧k=l.length-t∧(∀x (hx:x<t),evI (l[(i+x)%l.length]'(HM.out _))=true)∧Below w0.heap.size w0 wr∧wr.ownsRow w0.heap.size 3 1 s2 t (jf (Xg l i t)))
    case atStart=>exact ⟨0,by go_num,by omega,rfl,fun x hx=>absurd hx (Nat.not_lt_zero _),Below.refl _ _,by
     rw [show Xg l i 0=[] by unfold Xg;simp]
     exact World.ownsRow_nil _ _ _ _⟩
    case round=>
     obtain ⟨t,rfl,ht,hk2,hev,hb,ho⟩:=hrel;have Hk2:=Lib.hid hk2;have HEV:=Lib.hid hev;have HB:=Lib.hid hb;have hsw:=hb.size;obtain ⟨p,hp⟩:∃p,p=(i+t)%l.length:=⟨_,rfl⟩;have hpl:p<l.length:=by rw [hp];exact Nat.mod_lt _ (by omega)
     have hpl':(p:Int)<l.length:=by omega
     obtain ⟨y,hy,hy2⟩:=HG.out p hpl;have cy:=(hb.cell (p:=⟨b1,o1+p,none⟩) hb1).trans (HCC.out p hpl);rw [hy] at cy
     have hmd:Int.tmod ((i:Int)+t) l.length=(p:Int):=by
      rw [Int.tmod_eq_emod_of_nonneg (by omega),hp,show (i:Int)+t=((i+t:Nat):Int) by omega];rfl
     have hy0:Int.tmod (y:Int) 2=((y%2:Nat):Int):=by rw [Int.tmod_eq_emod_of_nonneg (by omega)];omega
     have HYE:=Lib.hid (show evI (l[(i+t)%l.length]'(HM.out _))=decide (y%2=0) by
      have:l[(i+t)%l.length]'(HM.out _)=(y:Int):=by
       rw [←hy];simp only [hp]
      rw [this];unfold evI;rw [decide_eq_decide]
      omega)
     by_cases hye:y%2=0
     ·rw [hye] at hy0;have HYT:=Lib.hid (HYE.out.trans (decide_eq_true hye))
      have ht1:t+1<l.length:=by
       apply Classical.byContradiction;intro hn;have e:t=l.length-1:=by omega
       have h1:=HODD.out;have h2:=HYT.out;simp only [e] at h2;rw [h1] at h2
       cases h2
      have HS:=Lib.hid (show Xg l i (t+1)=Xg l i t++[((y/2:Nat):Int)] by
       rw [fN hlt ht]
       have:l[(i+t)%l.length]'(HM.out _)=(y:Int):=by
        rw [←hy];simp only [hp]
       rw [this];congr 1
       )
      have hyq:Int.tdiv (y:Int) 2=((y/2:Nat):Int):=by rw [Int.tdiv_eq_ediv_of_nonneg (by omega)];simp
      obtain ⟨q,hqq⟩:∃q,q=y/2:=⟨_,rfl⟩;rw [←hqq] at hyq HS;have hqb:q≤100000:=by omega
      have HEV2:=Lib.hid (show ∀x (hx:x<t+1),evI (l[(i+x)%l.length]'(HM.out _))=true from fun x hx=>by
       by_cases e:x=t
       ·subst e;exact HYT.out
       ·exact HEV.out x (by omega))
      clear hk2 hev hb hp hy hqq hye;go_wp2_with (at_builtin;refine yC qz rfl _ _ rfl w0.heap.size u2 _ _ rfl wr.heap.size [.int .i64 q] rfl rfl ho rfl rfl ?h7 ?h8 ?h9 ?_)
      case h7=>omega
      case h8=>omega
      try (case h9=>omega)
      intro v' w' hown' hg' _;have hb':=qb HB.out ho hg' hsw (Nat.le_refl _)
      have ho':w'.ownsRow w0.heap.size 3 1 v' (t+1) (jf (Xg l i (t+1))):=by
       rw [HS.out,show ∀(l:List Int) (x:Int),jf (l++[x])=jf l++[.int .i64 x] from fun l x=>by simp [jf]];exact hown'
      have HX:=Lib.hid (And.intro hb' ho');clear hb' ho' ho hown' hg';go_wp2_with fail
      go_roundg (l.length-(t+1))
      case measure=>rw [Hk2.out];omega
      case rel=>exact ⟨t+1,by go_num,ht1,rfl,HEV2.out,HX.out.1,HX.out.2⟩
     ·have hye1:y%2=1:=by omega
      rw [hye1] at hy0
      have HFI:=Lib.hid (show wr.ownsRow w0.heap.size 3 1 u2 (yM l).length (jf (yM l)) by
       have e:yM l=Xg l i t:=by
        rw [HF.out];exact (lu hlt ht HEV.out (HYE.out.trans (decide_eq_false hye))).symm
       have e2:(Xg l i t).length=t:=by unfold Xg;rw [List.length_map,List.length_take,qM];omega
       rw [e,e2]
       exact ho)
      clear hk2 hev hb hp hy hye hye1 ho;go_wp2_with fail;go_ret;exact ⟨_,rfl,HB.out,HFI.out⟩
  ·have hie:i=l.length:=by omega
   have hlt':¬(i:Int)<l.length:=by omega
   have HNI:=Lib.hid (show yM l=[] from Kh (by rw [←hie];exact HNO.out));clear hie;go_wp2_with fail;go_ret;exact ⟨_,rfl,Below.refl _ _,by rw [HNI.out];exact World.ownsRow_nil _ _ _ _⟩
end Go.Proofs.YtneeknlhlkpnpaaGreat
/-
 sweep.Mirror: what it computes. Written by an AI agent.
-/
namespace Go.Proofs.YtneeknlhlkpnpaaGreat
open Go.RowKit
theorem mD:kP Tryz.prog 26 25 (.slice none 0 0) 1 24:=kP.mk' Tryz.underlying26 (by kernel_rfl) rfl (by omega)
theorem qo.evo{B base:Nat}{T:List TypeId}{w w':World}{v:Value}{F:List (List Int)}(h:qo w base v F)(he:Evo B T w w')(h1:25∉T)(h2:3∉T):qo w' base v F:=by
 obtain ⟨sl,k1,k2⟩:=h;refine ⟨sl,qA k1 he h1,fun i hi=>?_⟩;obtain ⟨Ai,ci,k3,k4⟩:=k2 i hi;exact ⟨Ai,ci,k3,qA k4 he h2⟩
end Go.Proofs.YtneeknlhlkpnpaaGreat
/-
 A list of rows that is made here, in memory: a row put in another one's place; two lists joined. Written by an AI agent.
-/
namespace Go.Proofs.YtneeknlhlkpnpaaGreat
open Go.RowKit
theorem aD(a:List Int)(k:Nat)(hk:k≤a.length)(W:World)(q:Nat)(A1 A2:Option Addr)(c1 c2:Nat)(hq:Blk W q 25 #[.slice A1 (a.length-k) c1,.slice A2 k c2])(h1:jr W W.heap.size A1 (jf (a.drop k)))(h2:jr W W.heap.size A2 (jf (a.take k)))(hl:a.length≤100000) :
  Calls Tryz.prog 74 #[.slice (some ⟨q,0,none⟩) 2 2] W (fun e w'=>∃A c,e = .returned (.slice A a.length c)∧Below W.heap.size W w'∧w'.ownsRow W.heap.size 3 1 (.slice A a.length c) a.length (jf (rot a k))):=by
 have e1:(a.drop k).length=a.length-k:=by simp
 have e2:(a.take k).length=k:=by simp;omega
 have hR:qm W W.heap.size (some ⟨q,0,none⟩) [a.drop k,a.take k]:=fun _=>by
  refine ⟨q,0,rfl,hq.lt,fun i hi=>?_⟩
  match i with
  | 0=>exact ⟨A1,c1,by rw [Nat.zero_add,hq.cell];show _=some (Value.slice A1 (a.drop k).length c1);rw [e1];rfl,h1⟩
  | 1=>exact ⟨A2,c2,by rw [Nat.zero_add,hq.cell];show _=some (Value.slice A2 (a.take k).length c2);rw [e2];rfl,h2⟩
  | i+2=>exact absurd hi (by simp)
 have hf:([a.drop k,a.take k]:List (List Int)).flatten=rot a k:=by simp [rot]
 have h:=VY (some ⟨q,0,none⟩) 2 [a.drop k,a.take k] W hR (by simp) (by rw [hf,qM];exact hl);rw [hf,qM] at h;exact h
theorem qo.set_{w:World}{base gU cap x c:Nat}{A:Option Addr}{F:List (List Int)}{f:List Int}(h:qo w base (.slice (some ⟨gU,0,none⟩) F.length cap) F)(hx:x<F.length)(hf:w.ownsRow base 3 1 (.slice A f.length c) f.length (jf f)) :
  qo (w.setCell ⟨gU,x,none⟩ (.slice A f.length c)) base (.slice (some ⟨gU,0,none⟩) F.length cap) (F.set x f)∧Evo base [25] w (w.setCell ⟨gU,x,none⟩ (.slice A f.length c))∧(∃u,w.cell? ⟨gU,x,none⟩=some u)∧w.frozen? ⟨gU,x,none⟩=false:=by
 obtain ⟨sl,h1,h2⟩:=h;obtain ⟨g,cap',R,e,hg,hb,hR,hcap,hcm,hxl⟩:=xO h1 (by omega);injection e with e _ e2;injection e with e;injection e with e;subst e e2;have hE:Evo base [25] w (w.setCell ⟨gU,x,none⟩ (.slice A f.length c)):=Evo.set_ hb (List.mem_singleton.2 rfl) hg x _;refine ⟨⟨sl.set x (.slice A f.length c),?_,fun i hi=>?_⟩,hE,⟨sl[x]'(by omega),?_⟩,hb.frozen x⟩
 ·rw [List.length_set];have hb2:=hb.set_ x (.slice A f.length c);refine vl (R:=R) hg ?_ (by rw [List.length_set];exact hR) hcap hcm (by rw [List.length_set];exact hxl)
  have e3:(sl.toArray++R).setIfInBounds x (.slice A f.length c)=(sl.set x (.slice A f.length c)).toArray++R:=by
   apply Array.ext';simp only [Array.toList_setIfInBounds,Array.toList_append]
   show (sl++R.toList).set x _=sl.set x _++R.toList
   rw [List.set_append_left _ _ (by omega)]
  rw [←e3];exact hb2
 ·rw [List.length_set] at hi;by_cases hk:x=i
  ·subst hk;refine ⟨A,c,?_,?_⟩
   ·rw [List.getElem_set_self,List.getElem?_set_self (by omega)]
   ·rw [List.getElem_set_self];exact qA hf hE (by decide)
  ·obtain ⟨Ai,ci,h3,h4⟩:=h2 i hi;refine ⟨Ai,ci,?_,?_⟩
   ·rw [List.getElem_set_ne hk,List.getElem?_set_ne hk];exact h3
   ·rw [List.getElem_set_ne hk];exact qA h4 hE (by decide)
 ·rw [hb.cell x,Array.getElem?_append_left (by show x<sl.length;omega),List.getElem?_toArray,List.getElem?_eq_getElem (by omega)]
end Go.Proofs.YtneeknlhlkpnpaaGreat
/-
 (*front.Front).Ready, Placed, Done: what they compute. Written by an AI agent.
-/
namespace Go.Proofs.YtneeknlhlkpnpaaGreat
open Go.RowKit
def JT(es:List (Int×Int))(r:List Itm)(pl:List Int)(i:Nat):List Int:=((List.range i).filter (qT es r pl)).map fun x:Nat=>(x:Int)
theorem gB(es:List (Int×Int))(r:List Itm)(pl:List Int)(i:Nat):JT es r pl (i+1)=JT es r pl i++if qT es r pl i=true then [(i:Int)] else []:=by
 unfold JT;rw [List.range_succ,List.filter_append,List.map_append];congr 1;by_cases h:qT es r pl i=true
 ·rw [if_pos h];simp [h]
 ·rw [if_neg h];simp [h]
theorem nZ(es:List (Int×Int))(r:List Itm)(pl:List Int)(i:Nat):(JT es r pl i).length≤i:=by
 unfold JT;rw [List.length_map];exact Nat.le_trans (List.length_filter_le _ _) (by simp)
set_option maxRecDepth 20000 in
set_option maxHeartbeats 4000000 in
theorem XY(w0 w:World)(g gv n:Nat)(es:List (Int×Int))(r:List Itm)(pl:List Int)(h:FrontW w0 w g gv n es r pl)(hn:n≤1000)(hl:es.length≤1000)(hr:r.length≤50000)(hp:pl.length≤1000) :
  Calls Tryz.prog 13 #[.pointer (some ⟨g,0,none⟩)] w (fun e w'=>∃v,e = .returned v∧Below w.heap.size w w'∧w'.ownsRow w.heap.size 3 1 v (JT es r pl n).length (jf (JT es r pl n))):=by
 have H:=Lib.hid h;obtain ⟨vi,vp,hb,_,_⟩:=h.st;have z1:=hb.cell 1;simp only [List.getElem?_toArray,List.getElem?_cons_zero,List.getElem?_cons_succ] at z1;obtain ⟨_,_,_,_,hv1,_,_⟩:=h.view.tabs;have y0:=hv1.cell 0;simp only [List.getElem?_toArray,List.getElem?_cons_zero] at y0;clear h hb hv1
 go_enter Tryz.func13,Tryz.ntmps13
 go_wp2_with fail
 go_loopg [2,12] n (fun k s2 s12 wr=>∃i:Nat,s12 = .int .i64 i∧i≤n∧k=n-i∧Below w.heap.size w wr∧wr.ownsRow w.heap.size 3 1 s2 (JT es r pl i).length (jf (JT es r pl i)))
 case atStart=>exact ⟨0,rfl,Nat.zero_le _,rfl,Below.refl _ _,World.ownsRow_nil _ _ _ _⟩
 case round=>
  obtain ⟨i,rfl,hi,hk,hb,ho⟩:=hrel;have Hk:=Lib.hid hk;have HB:=Lib.hid hb;have HO:=Lib.hid ho;have hsw:=hb.size;have HFW:=Lib.hid (H.out.next hb);clear hk hb ho;by_cases hlt:i<n
  ·have hlt':(i:Int)<n:=by omega
   have HS:=Lib.hid (gB es r pl i);have HLE:=Lib.hid (nZ es r pl i);have HRD:=Lib.hid (Vj w0 wr g gv n es r pl i HFW.out hlt hl hr hp)
   cases hrd:qT es r pl i with
   | false=>
    rw [hrd] at HRD HS;simp only [Bool.false_eq_true,if_false,List.append_nil] at HS;clear hrd;go_wp2_with fail;refine HRD.out.mono ?_;rintro e w2 ⟨rfl,hb2⟩;have HB2:=Lib.hid (HB.out.trans (hb2.mono hsw));have HO2:=Lib.hid (jT HO.out hb2 (Nat.le_refl _));rw [←HS.out] at HO2;clear hb2;go_wp2_with fail
    go_roundg (n-(i+1))
    case measure=>rw [Hk.out];omega
    case rel=>exact ⟨i+1,by go_num,by omega,rfl,HB2.out,HO2.out⟩
   | true=>
    rw [hrd,if_pos rfl] at HS;rw [hrd] at HRD;clear hrd;go_wp2_with fail;refine HRD.out.mono ?_;rintro e w2 ⟨rfl,hb2⟩;have HB2:=Lib.hid (HB.out.trans (hb2.mono hsw));have ho2:=jT HO.out hb2 (Nat.le_refl _);have hsw2:w.heap.size≤w2.heap.size:=HB2.out.size;have HLE:=HLE.out;clear hb2;go_wp2_with (at_builtin;refine yC qz rfl _ _ rfl w.heap.size u2 _ _ rfl w2.heap.size [.int .i64 i] rfl rfl ho2 rfl rfl ?h7 ?h8 ?h9 ?_)
    case h7=>omega
    case h8=>omega
    try (case h9=>omega)
    intro v' w' hown' hg' _;have hb':=qb HB2.out ho2 hg' hsw2 (Nat.le_refl _)
    have ho':w'.ownsRow w.heap.size 3 1 v' (JT es r pl (i+1)).length (jf (JT es r pl (i+1))):=by
     rw [HS.out,List.length_append,yW];exact hown'
    have HX:=Lib.hid (And.intro hb' ho');clear hb' ho' ho2 hown' hg';go_wp2_with fail
    go_roundg (n-(i+1))
    case measure=>rw [Hk.out];omega
    case rel=>exact ⟨i+1,by go_num,by omega,rfl,HX.out.1,HX.out.2⟩
  ·have hie:i=n:=by omega
   have hlt':¬(i:Int)<n:=by omega
   have HF:=Lib.hid (show wr.ownsRow w.heap.size 3 1 u2 (JT es r pl n).length (jf (JT es r pl n)) by rw [←hie];exact HO.out);clear hie;go_wp2_with fail;go_ret;exact ⟨_,rfl,HB.out,HF.out⟩
set_option maxRecDepth 20000 in
theorem dc(w0 w:World)(g gv n:Nat)(es:List (Int×Int))(r:List Itm)(pl:List Int)(h:FrontW w0 w g gv n es r pl)(hp:pl.length≤1000) :
  Calls Tryz.prog 15 #[.pointer (some ⟨g,0,none⟩)] w (fun e w'=>∃v,e = .returned v∧Below w.heap.size w w'∧w'.ownsRow w.heap.size 3 1 v pl.length (jf pl)):=by
 obtain ⟨vi,vp,hb,_,hpl⟩:=h.st;obtain ⟨Ap,cp,rfl⟩:=jv hpl;have z2:=hb.cell 2;simp only [List.getElem?_toArray,List.getElem?_cons_zero,List.getElem?_cons_succ] at z2;have HC:=Lib.hid (Wv Ap cp pl w (jr.of_own hpl) hp);clear h hb hpl
 go_enter Tryz.func15,Tryz.ntmps15
 go_wp2_with fail;refine HC.out.mono ?_;rintro e w2 ⟨v,rfl,hb2,ho2⟩;have HX:=Lib.hid (And.intro hb2 ho2);clear hb2 ho2;go_wp2_with fail;go_ret;exact ⟨_,rfl,HX.out.1,HX.out.2⟩
set_option maxRecDepth 20000 in
theorem mK(w0 w:World)(g gv n:Nat)(es:List (Int×Int))(r:List Itm)(pl:List Int)(h:FrontW w0 w g gv n es r pl) :
  Calls Tryz.prog 122 #[.pointer (some ⟨g,0,none⟩)] w (fun e w'=>e = .returned (.bool (decide (pl.length=n)))∧Below w.heap.size w w'):=by
 obtain ⟨vi,vp,hb,_,hpl⟩:=h.st;obtain ⟨Ap,cp,rfl⟩:=jv hpl;have z1:=hb.cell 1;have z2:=hb.cell 2;simp only [List.getElem?_toArray,List.getElem?_cons_zero,List.getElem?_cons_succ] at z1 z2;obtain ⟨_,_,_,_,hv1,_,_⟩:=h.view.tabs;have y0:=hv1.cell 0;simp only [List.getElem?_toArray,List.getElem?_cons_zero] at y0
 have hq:(((pl.length:Nat):Int)==((n:Nat):Int))=decide (pl.length=n):=by
  by_cases e:pl.length=n
  ·simp [e]
  ·rw [decide_eq_false e];simp;omega
 clear h hb hpl hv1
 go_enter Tryz.func122,Tryz.ntmps122
 go_wp2_with fail
 go_region
 go_wp2_with fail;go_ret;exact ⟨rfl,(Below.refl w.heap.size w).drew⟩
end Go.Proofs.YtneeknlhlkpnpaaGreat
/-
 rise.order: what it computes. Written by an AI agent.
-/
namespace Go.Proofs.YtneeknlhlkpnpaaGreat
open Go.RowKit
def fk(N:Nat)(es:List (Int×Int))(outs:List (List Int))(l:List Nat):Prop:=∃r en,Walk es outs ([],[],List.replicate N []) l (r,yd l,en)∧(∀x∈l,x<N) ∧ ∀x,x<N→qT es r (yd l) x=false
def iV(N:Nat)(es:List (Int×Int))(outs:List (List Int))(w:World)(e:Ending)(w':World):Prop:=
 ∃l A c,e = .returned (.tuple #[.slice A l.length c,.bool (decide (l.length=N))])∧Below w.heap.size w w'∧w'.ownsRow w.heap.size 3 1 (.slice A l.length c) l.length (jf (yd l))∧fk N es outs l
theorem uG(l:List Nat):(yd l).length=l.length:=by unfold yd;rw [List.length_map]
theorem fL{es:List (Int×Int)}{outs:List (List Int)}:∀ {l:List Nat} {st:Ju} {r:List Itm} {pl:List Int} {en:List (List Itm)},Walk es outs st l (r,pl,en) → ∀ {x:Nat} {A E B:List Itm},(x:Int)∉pl→CutR es r x A E B→Walk es outs st (l++[x]) (A++yD es outs x++B,pl++[(x:Int)],en.set x E):=by
 intro l st r pl en h;generalize hf:(r,pl,en)=fin at h
 induction h with
 | nil st=>
  intro x A E B hp hc;subst hf;exact Walk.cons hp hc (Walk.nil _)
 | cons hp hc _ ih=>
  intro x A E B hp' hc';exact Walk.cons hp hc (ih hf hp' hc')
theorem nQ{N:Nat}{es:List (Int×Int)}{outs:List (List Int)}{l:List Nat}{r:List Itm}{pl:List Int}{en:List (List Itm)}(h:Walk es outs ([],[],List.replicate N []) l (r,pl,en))(hl:∀x∈l,x<N):l.length≤N:=by
 have hi:=h.inv hl SwI.start;have hp:=h.placed;simp only [List.nil_append] at hp;have hn:=hi.nd;simp only [hp] at hn
 have h1:l.Nodup:=by
  unfold yd at hn;rw [List.nodup_iff_pairwise_ne,List.pairwise_map] at hn;exact List.nodup_iff_pairwise_ne.2 (hn.imp fun h e=>h (by rw [e]))
 have:=List.Nodup.length_le_of_subset h1 (l₂ :=List.range N) (fun a ha=>List.mem_range.2 (hl a ha));simpa using this
theorem gD{es:List (Int×Int)}{r:List Itm}{pl:List Int}{n:Nat}{x:Int}{t:List Int}(h:JT es r pl n=x::t):∃y:Nat,x=y∧y<n∧qT es r pl y=true:=by
 have:x∈JT es r pl n:=by rw [h];simp
 unfold JT at this;obtain ⟨y,hy,rfl⟩:=List.mem_map.1 this;obtain ⟨h1,h2⟩:=List.mem_filter.1 hy;exact ⟨y,rfl,List.mem_range.1 h1,h2⟩
theorem lQ{es:List (Int×Int)}{r:List Itm}{pl:List Int}{n:Nat}(h:JT es r pl n=[]):∀x,x<n→qT es r pl x=false:=fun x hx=>by
 unfold JT at h;have h:=List.map_eq_nil_iff.1 h
 cases hq:qT es r pl x with
 | false=>rfl
 | true=>exact absurd hq (List.filter_eq_nil_iff.1 h x (List.mem_range.2 hx))
theorem lq{B:Nat}{T:List TypeId}{w w':World}(hT:T=[])(h:Evo B T w w'):Below w.heap.size w w':=⟨h.os,h.tape,h.output,h.size,fun k hk=>h.keep k hk (.inr (fun _ _ _ _=>by subst hT;simp))⟩
def om{B:Nat}(w0:World)(g gv n:Nat)(es:List (Int×Int))(r:List Itm)(pl:List Int)(hB:w0.heap.size≤B):PFact B:=⟨[89,81,3],[],fun _ _ w=>FrontW w0 w g gv n es r pl∧B≤w.heap.size,fun T hT _ _ _ _ he ⟨h,hs⟩=>⟨h.evo he hB hs (hT _ (by simp)) (hT _ (by simp)) (hT _ (by simp)),Nat.le_trans hs he.size⟩,fun _ _ _ _ _ h=>h⟩
set_option maxRecDepth 20000 in
set_option maxHeartbeats 4000000 in
theorem dh(N:Nat)(A C:Option Addr)(cap cc:Nat)(es:List (Int×Int))(outs:List (List Int))(w:World)(hes:jr w w.heap.size A (jA es))(hcap:es.length≤cap)(hU:qm w w.heap.size C outs)(hg:GoodP N es)(hO:zO N es outs)(hol:outs.length=N) :
  Calls Tryz.prog 75 #[.agg #[.int .i64 N,.slice A es.length cap],.slice C outs.length cc] w (iV N es outs w):=by
 have hN64:N≤64:=by have:=(jP hg.may).2.1;omega
 have hm128:=(jP hg.may).2.2;obtain ⟨wb,hwb⟩:∃wb,wb=w.alloc (.cells #[.int .i64 N,.slice A es.length cap] 24):=⟨_,rfl⟩;have hb0:Below w.heap.size w wb:=by rw [hwb];exact (Below.refl _ _).alloc (Nat.le_refl _) _
 have hGB:Blk wb w.heap.size 24 #[.int .i64 N,.slice A es.length cap]:=by rw [hwb];exact Blk.new _ _ _
 have HES:=Lib.hid ((hes.below hb0).more hb0.size);have HU:=Lib.hid ((hU.below hb0).more hb0.size);have HB0:=Lib.hid hb0;have HG:=Lib.hid hg;have HO:=Lib.hid hO;have g0:=hGB.cell 0;have g1:=hGB.cell 1;simp only [List.getElem?_toArray,List.getElem?_cons_zero,List.getElem?_cons_succ] at g0 g1;clear hes hU hGB hb0 hg hO
 go_enter Tryz.func75,Tryz.ntmps75
 go_upto_region 1 with fail
 rw [←hwb];obtain ⟨gG,hgG⟩:∃g,g=w.heap.size:=⟨_,rfl⟩;rw [←hgG] at g0 g1 ⊢;clear hwb hgG;go_wp2_with fail;refine (eN N A cap es wb HES.out hcap).mono ?_;rintro e w2 (⟨hno,_⟩ | ⟨_,w0,g,gv,rfl,hb2,hfw⟩)
 case inl=>exact absurd HG.out hno
 rw [Int.toNat_natCast] at hfw;have HFW2:=Lib.hid hfw;have HB2:=Lib.hid hb2;clear hb2 hfw g0 g1;go_wp2_with fail;refine (XY w0 w2 g gv N es [] [] HFW2.out (by omega) (by omega) (by simp) (by simp)).mono ?_;rintro e w3 ⟨v3,rfl,hb3,ho3⟩;obtain ⟨A3,c3,rfl⟩:=jv ho3;have HFW3:=Lib.hid (HFW2.out.next hb3);have HC3:=Lib.hid (jr.of_own ho3);clear hb3 ho3;go_wp2_with fail;have HUW:=Lib.hid ((HU.out.below HB2.out).more HB2.out.size)
 go_loopg [8] N (fun k s8 wr=>∃(l:List Nat) (r:List Itm) (en:List (List Itm)) (A8:Option Addr) (c8:Nat),s8 = .slice A8 (JT es r (yd l) N).length c8∧l.length≤N∧k=N-l.length∧FrontW w0 wr g gv N es r (yd l)∧jr wr wr.heap.size A8 (jf (JT es r (yd l) N))∧Walk es outs ([],[],List.replicate N []) l (r,yd l,en)∧(∀x∈l,x<N)∧r.length≤l.length*501)
 case atStart=>exact ⟨[],[],List.replicate N [],A3,c3,rfl,Nat.zero_le _,rfl,HFW3.out,HC3.out,Walk.nil _,by simp,by simp⟩
 case round=>
  obtain ⟨l,r,en,A8,c8,rfl,hlN,hk,hfw,hc8,hwk,hlt,hrl⟩:=hrel;have Hk:=Lib.hid hk;have HFW:=Lib.hid hfw;have HC8:=Lib.hid hc8;have HWK:=Lib.hid hwk;have HLT:=Lib.hid hlt;have HRL:=Lib.hid hrl;have hr5:r.length≤50000:=by have:l.length*501≤64*501:=Nat.mul_le_mul_right _ (by omega);omega
  have HPL:=Lib.hid (uG l);clear hk hfw hc8 hwk hlt hrl;obtain ⟨L,hL⟩:∃L,L=JT es r (yd l) N:=⟨_,rfl⟩;have HL:=Lib.hid hL;rw [←hL] at HC8 ⊢;clear hL
  cases L with
  | nil=>
   have HGR:=Lib.hid (show fk N es outs l from ⟨r,en,HWK.out,HLT.out,lQ HL.out.symm⟩);go_wp2_with fail;refine (dc w0 wr g gv N es r (yd l) HFW.out (by rw [HPL.out];omega)).mono ?_;rintro e w5 ⟨v5,rfl,hb5,ho5⟩;obtain ⟨A5,c5,rfl⟩:=jv ho5;rw [HPL.out] at ho5 ⊢;have HO5:=Lib.hid ho5;have HFW5:=Lib.hid (HFW.out.next hb5);clear hb5 ho5;go_wp2_with fail;refine (mK w0 w5 g gv N es r (yd l) HFW5.out).mono ?_;rintro e w6 ⟨rfl,hb6⟩;rw [HPL.out];have HO6:=Lib.hid (jT HO5.out hb6 (Nat.le_refl _));have HB6:=Lib.hid ((HB0.out.trans (HB2.out.mono HB0.out.size)).trans ((HFW5.out.bel.trans (hb6.mono HFW5.out.bel.size)).mono (HB0.out.trans (HB2.out.mono HB0.out.size)).size));clear hb6;go_wp2_with fail;refine bodyPost_ret (results_tmp2 rfl _ _ _) (by rfl) ?_;exact ⟨l,A5,c5,rfl,HB6.out,qh HO6.out (Nat.le_trans HB0.out.size (Nat.le_trans HB2.out.size HFW.out.bel.size)),HGR.out⟩
  | cons x0 t=>
   obtain ⟨x,rfl,hxN,hrd⟩:=gD HL.out.symm;have hxu:x<outs.length:=by omega
   have hxu':(x:Int)<outs.length:=by omega
   have hlen:(0:Int)<((t.length+1:Nat):Int):=by omega
   obtain ⟨b8,o8,rfl,hb8,hcx⟩:=HC8.out.ints (by simp);have c0:=hcx 0 (by simp);simp only [List.getElem_cons_zero,Nat.add_zero] at c0;obtain ⟨bu,ou,rfl,hbu,hcu⟩:=(HUW.out.below HFW.out.bel) (by omega);obtain ⟨Ax,cx,d0,hCx⟩:=hcu x hxu;have HOX:=Lib.hid (show outs.getD x []=outs[x] by rw [List.getD_eq_getElem?_getD,List.getElem?_eq_getElem hxu];rfl);have HSX:=Lib.hid (show outs[x].mergeSort leI=jK es Prod.fst (x:Nat) es.length by rw [←HOX.out];exact ZO (HO.out x hxN) (kF _ _ _ _));have HCX:=Lib.hid hCx;have HRD:=Lib.hid hrd
   have hOXL:outs[x].length≤500:=by
    have h1:(outs[x].mergeSort leI).length=outs[x].length:=List.length_mergeSort _;rw [HSX.out] at h1;have:=qd es Prod.fst (x:Nat) es.length;omega
   have HOXL:=Lib.hid hOXL;have hbuw:bu<wr.heap.size:=Nat.lt_of_lt_of_le hbu HFW.out.bel.size;have hsz:=HFW.out.bel.size;clear hcx hcu hCx hrd hOXL;generalize outs[x]=ox at *
   go_upto_region 5 with fail
   refine R3.wp_region_i w0.heap.size [[],[89,3]] [0,0,0,0,0,0,0,0,0,0,1]
    [([],.val (.pointer (some ⟨g,0,none⟩))),([],.val (.slice (some ⟨b8,o8,none⟩) (t.length+1) c8)),([1],.val (.pointer (some ⟨b8,o8,none⟩))),([2],.val (.int .i64 (x:Nat))),([],.val (.slice (some ⟨bu,ou,none⟩) N cc)),([],.val (.slice (some ⟨b8,o8,none⟩) (t.length+1) c8)),([5],.val (.pointer (some ⟨b8,o8,none⟩))),([6],.val (.int .i64 (x:Nat))),([4,7],.val (.pointer (some ⟨bu,ou+x,none⟩))),([8],.val (.slice Ax ox.length cx)),([0,3,9],om w0 g gv N es (yf es r x ox) (yd l++[(x:Int)]) (Nat.le_refl _))] [10] (by kernel_rfl) (by kernel_rfl) (fun us=>?_) ?_
   ·refine R3.pgo_pure _ rfl rfl (fun wv hw hu=>⟨.pointer (some ⟨g,0,none⟩),?_,rfl⟩) ?_
    ·have tok:=True.intro;clear hw hu;go_simp
    refine R3.pgo_pure _ rfl rfl (fun wv hw hu=>⟨.slice (some ⟨b8,o8,none⟩) (t.length+1) c8,?_,rfl⟩) ?_
    ·have tok:=True.intro;clear hw hu;go_simp
    refine R3.pgo_pure _ rfl rfl (fun wv hw hu=>⟨.pointer (some ⟨b8,o8,none⟩),?_,rfl⟩) ?_
    ·have tok:=True.intro;have h1:us 1 = .slice (some ⟨b8,o8,none⟩) (t.length+1) c8:=hu.1;clear hw hu;go_simp
    refine R3.pgo_pure _ rfl rfl (fun wv hw hu=>⟨.int .i64 (x:Nat),?_,rfl⟩) ?_
    ·have tok:=True.intro;have h2:us 2 = .pointer (some ⟨b8,o8,none⟩):=hu.1;have zy:wv.cell? ⟨b8,o8,none⟩=some (.int .i64 (x:Nat)):=((lq (by kernel_rfl) hw).cell (p:=⟨b8,o8,none⟩) (by first | exact hb8 | exact hbuw)).trans c0;clear hw hu;go_simp
    refine R3.pgo_pure _ rfl rfl (fun wv hw hu=>⟨.slice (some ⟨bu,ou,none⟩) N cc,?_,rfl⟩) ?_
    ·have tok:=True.intro;clear hw hu;go_simp
    refine R3.pgo_pure _ rfl rfl (fun wv hw hu=>⟨.slice (some ⟨b8,o8,none⟩) (t.length+1) c8,?_,rfl⟩) ?_
    ·have tok:=True.intro;clear hw hu;go_simp
    refine R3.pgo_pure _ rfl rfl (fun wv hw hu=>⟨.pointer (some ⟨b8,o8,none⟩),?_,rfl⟩) ?_
    ·have tok:=True.intro;have h5:us 5 = .slice (some ⟨b8,o8,none⟩) (t.length+1) c8:=hu.1;clear hw hu;go_simp
    refine R3.pgo_pure _ rfl rfl (fun wv hw hu=>⟨.int .i64 (x:Nat),?_,rfl⟩) ?_
    ·have tok:=True.intro;have h6:us 6 = .pointer (some ⟨b8,o8,none⟩):=hu.1;have zy:wv.cell? ⟨b8,o8,none⟩=some (.int .i64 (x:Nat)):=((lq (by kernel_rfl) hw).cell (p:=⟨b8,o8,none⟩) (by first | exact hb8 | exact hbuw)).trans c0;clear hw hu;go_simp
    refine R3.pgo_pure _ rfl rfl (fun wv hw hu=>⟨.pointer (some ⟨bu,ou+x,none⟩),?_,rfl⟩) ?_
    ·have tok:=True.intro;have h4:us 4 = .slice (some ⟨bu,ou,none⟩) N cc:=hu.1;have h7:us 7 = .int .i64 (x:Nat):=hu.2.1;clear hw hu;go_simp
    refine R3.pgo_pure _ rfl rfl (fun wv hw hu=>⟨.slice Ax ox.length cx,?_,rfl⟩) ?_
    ·have tok:=True.intro;have h8:us 8 = .pointer (some ⟨bu,ou+x,none⟩):=hu.1;have zy:wv.cell? ⟨bu,ou+x,none⟩=some (.slice Ax ox.length cx):=((lq (by kernel_rfl) hw).cell (p:=⟨bu,ou+x,none⟩) (by first | exact hb8 | exact hbuw)).trans d0;clear hw hu;go_simp
    refine R3.pgo_op _ rfl rfl (fun K wv hw hu hK=>?_) ?_
    ·have tok:=True.intro;have h0:us 0 = .pointer (some ⟨g,0,none⟩):=hu.1;have h3:us 3 = .int .i64 (x:Nat):=hu.2.1;have h9:us 9 = .slice Ax ox.length cx:=hu.2.2.1;have hbl:=lq (by kernel_rfl) hw;have hfv:=(HFW.out.next (Below.refl wr.heap.size wr).drew).next hbl
     refine yI (f:=14) (args:=#[.pointer (some ⟨g,0,none⟩),.int .i64 (x:Nat),.slice Ax ox.length cx]) ?_ ((UR w0 wv g gv N es r (yd l) x Ax cx ox hfv (HCX.out.drew.below (hbl.mono hsz)) hxN (by omega) hr5 (by rw [HPL.out];omega) HRD.out HSX.out).mono ?_)
     ·clear hK hw hu;go_simp
     rintro e w' ⟨v,rfl,hev,_,hfw'⟩;exact ⟨_,rfl,hK _ _ hev ⟨hfw',hfw'.bel.size⟩⟩
    trivial
   ·intro us w5 hw hu;have hfw5:FrontW w0 w5 g gv N es (yf es r x ox) (yd l++[(x:Int)]):=hu.1.1;have HFW5:=Lib.hid hfw5;clear hw hu hfw5;simp only [kx];go_simp;obtain ⟨hp,E1,E2,E3,hcut⟩:=QS HRD.out;have hpl:=hcut.place ox;have hsn:=fL HWK.out hp hcut;have e1:yd (l++[x])=yd l++[(x:Int)]:=by unfold yd;simp
    have e2:E1++yD es outs x++E3=yf es r x ox:=by rw [hpl];unfold yD;rw [HOX.out]
    rw [e2,←e1] at hsn;rw [←e1] at HFW5;have HSN:=Lib.hid hsn
    have HLT2:=Lib.hid (show ∀y∈l++[x],y<N from fun y hy=>by
     rcases List.mem_append.1 hy with h | h
     ·exact HLT.out y h
     ·rw [List.mem_singleton.1 h];exact hxN)
    have hlen2:l.length+1≤N:=by
     have:=nQ HSN.out HLT2.out;simpa using this
    have HRL2:=Lib.hid (show (yf es r x ox).length≤(l.length+1)*501 by
     have:=uM (es:=es) (r:=r) (x:=x) (outs:=ox);have:=HRL.out;have:=HOXL.out
     omega)
    have hr6:(yf es r x ox).length≤50000:=by have:=HRL2.out;have:(l.length+1)*501≤64*501:=Nat.mul_le_mul_right _ (by omega);omega
    have HPL2:=Lib.hid (uG (l++[x]));have HLA:=Lib.hid (show (l++[x]).length=l.length+1 by simp);clear hp hcut hpl hsn e1 e2 c0 d0;generalize yf es r x ox=r7 at *;generalize en.set x E2=en7 at *;go_wp2_with fail;refine (XY w0 w5 g gv N es r7 (yd (l++[x])) HFW5.out (by omega) (by omega) hr6 (by rw [HPL2.out,HLA.out];omega)).mono ?_;rintro e w6 ⟨v6,rfl,hb6,ho6⟩;obtain ⟨A6,c6,rfl⟩:=jv ho6;have HFW6:=Lib.hid (HFW5.out.next hb6);have HC6:=Lib.hid (jr.of_own ho6);clear hb6 ho6;go_wp2_with fail
    go_roundg (N-(l.length+1))
    case measure=>rw [Hk.out];omega
    case rel=>exact ⟨l++[x],r7,en7,A6,c6,rfl,by rw [HLA.out];omega,by rw [HLA.out],HFW6.out,HC6.out,HSN.out,HLT2.out,by rw [HLA.out];exact HRL2.out⟩
end Go.Proofs.YtneeknlhlkpnpaaGreat
