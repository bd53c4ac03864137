import Derived.Test.YtneeknlhlkpnpaaGreatZFit2
import Derived.Test.YtneeknlhlkpnpaaGreatZOrdm
import Derived.Test.YtneeknlhlkpnpaaGreatZVw
import Derived.Test.YtneeknlhlkpnpaaGreatZReg
import Derived.Test.YtneeknlhlkpnpaaGreatZAng0
/-
 What graph.Check calls: small functions. Written by an AI agent.
-/
namespace Go.Proofs.YtneeknlhlkpnpaaGreat
open Go.RowKit
theorem lR(x:Int)(w:World):Calls Tryz.prog 132 #[.int .i64 x] w fun e w'=>e = .returned (.bool (decide (x>0)))∧w=w':=by
 go_enter Tryz.func132,Tryz.ntmps132
 go_wp2
 go_ret;exact ⟨rfl,rfl⟩
theorem Ga(u:World)(args:Array Value):(callFunc 132 args).run Tryz.prog u = .ok (.enter 132 args) u:=by
 go_simp
def pg(l:List Int)(w:World)(e:Ending)(w':World):Prop:=
 ∃r:Int,e = .returned (.int .i64 r)∧w=w'∧(r = -1∧(∀i,i<l.length→l.getD i 0≤0) ∨ ∃k:Nat,r=k∧k<l.length∧l.getD k 0>0)
set_option maxHeartbeats 1000000 in
theorem dm(A:Option Addr)(cap:Nat)(l:List Int)(w:World)(hlen:l.length≤1000)(h:jr w w.heap.size A (jf l)) :
  Calls Tryz.prog 108 #[.slice A l.length cap,.func (.func 132) #[] #[]] w (pg l w):=by
 have H:=Lib.hid h;have hcf:=Ga;clear h
 go_enter Tryz.func108,Tryz.ntmps108
 go_wp2_with fail
 go_loopg [8] l.length (fun k s8 wr=>∃i:Nat,s8 = .int .i64 i∧i≤l.length∧k=l.length-i∧w=wr ∧ ∀j,j<i→l.getD j 0≤0)
 case atStart=>exact ⟨0,rfl,Nat.zero_le _,rfl,rfl,fun j hj=>absurd hj (by omega)⟩
 case round=>
  obtain ⟨i,rfl,hi,hk,rfl,hf⟩:=hrel;have Hk:=Lib.hid hk;have Hf:=Lib.hid hf;clear hk hf;by_cases hlt:i<l.length
  ·have hlt':(i:Int)<l.length:=by omega
   obtain ⟨b,off,rfl,hb,hc⟩:=H.out.ints (by omega);have e0:=hc i hlt;have HV:=Lib.hid (show l.getD i 0=l[i] by rw [List.getD_eq_getElem?_getD,List.getElem?_eq_getElem hlt];rfl);clear hc;obtain ⟨v,hv⟩:∃v,v=l[i]:=⟨_,rfl⟩;rw [←hv] at e0 HV;clear hv;go_wp2_with fail;refine (lR v w).mono ?_;rintro e w' ⟨rfl,rfl⟩;by_cases hp:v>0
   ·rw [decide_eq_true hp];have HP:=Lib.hid (show l.getD i 0>0 by rw [HV.out];exact hp);clear hp;go_wp2_with fail;go_ret;exact ⟨_,rfl,rfl,.inr ⟨i,rfl,hlt,HP.out⟩⟩
   ·rw [decide_eq_false hp];have HP:=Lib.hid (show l.getD i 0≤0 by rw [HV.out];omega);clear hp;go_wp2_with fail
    go_roundg (l.length-(i+1))
    case measure=>rw [Hk.out];omega
    case rel=>exact ⟨i+1,by go_num,by omega,rfl,rfl,fun j hj=>by
     by_cases h:j=i
     ·rw [h];exact HP.out
     ·exact Hf.out j (by omega)⟩
  ·have hlt':¬(i:Int)<l.length:=by omega
   go_wp2_with fail;go_ret;exact ⟨_,rfl,rfl,.inl ⟨rfl,fun j hj=>Hf.out j (by omega)⟩⟩
theorem ic(a b:Int)(w:World):Calls Tryz.prog 93 #[.agg #[.int .i64 a,.int .i64 b]] w fun e w'=>e = .returned (.bool (a==b))∧Below w.heap.size w w':=by
 go_enter Tryz.func93,Tryz.ntmps93
 go_wp2_with fail;go_ret;exact ⟨rfl,(Below.refl _ _).alloc (Nat.le_refl _) _⟩
theorem Us(u:World)(args:Array Value):(callFunc 93 args).run Tryz.prog u = .ok (.enter 93 args) u:=by
 go_simp
def na(es:List (Int×Int))(e0:Int×Int)(k:Nat)(w:World)(e:Ending)(w':World):Prop:=
 ∃r:Int,e = .returned (.int .i64 r)∧Below w.heap.size w w'∧(r = -1∧(∀j,j<k→es.getD j (0,0)≠e0) ∨ ∃j:Nat,r=j∧j<k∧es.getD j (0,0)=e0)
set_option maxHeartbeats 1000000 in
theorem dl(A:Option Addr)(cap:Nat)(es:List (Int×Int))(a b:Int)(k:Nat)(w:World)(hk:k≤es.length)(hlen:es.length≤1000)(hes:jr w w.heap.size A (jA es)) :
  Calls Tryz.prog 130 #[.slice A k cap,.agg #[.int .i64 a,.int .i64 b]] w (na es (a,b) k w):=by
 have H:=Lib.hid hes;have HK:=Lib.hid hk;clear hes hk;have HB1:=Lib.hid (Blk.new w 66 #[.int .i64 a,.int .i64 b]);have HB:=Lib.hid ((Below.refl w.heap.size w).alloc (Nat.le_refl _) (.cells #[.int .i64 a,.int .i64 b] 66))
 go_enter Tryz.func130,Tryz.ntmps130
 go_upto_region 1 with fail
 obtain ⟨g,hg⟩:∃g,g=w.heap.size:=⟨_,rfl⟩;rw [←hg] at HB1;rw [←hg];generalize w.alloc (.cells #[.int .i64 a,.int .i64 b] 66)=w1 at *;clear hg;go_wp2_with fail
 go_loopg [8] k (fun m s8 wr=>∃i:Nat,s8 = .int .i64 i∧i≤k∧m=k-i∧Below w1.heap.size w1 wr ∧ ∀j,j<i→es.getD j (0,0)≠(a,b))
 case atStart=>exact ⟨0,rfl,Nat.zero_le _,rfl,Below.refl _ _,fun j hj=>absurd hj (by omega)⟩
 case round=>
  obtain ⟨i,rfl,hi,hm,hbw,hf⟩:=hrel;have Hk:=Lib.hid hm;have Hf:=Lib.hid hf;have HW:=Lib.hid hbw;clear hm hf hbw;have HBq:=Lib.hid (HB.out.trans (HW.out.mono HB.out.size));by_cases hlt:i<k
  ·have hlt':(i:Int)<k:=by omega
   have hle:i<es.length:=by have:=HK.out;omega
   obtain ⟨be,oe,rfl,hbe,hce⟩:=H.out.edges (by omega);obtain ⟨c0,c1⟩:=hce i hle;have d0:=(HBq.out.cell (p:=⟨be,oe+i*2,none⟩) hbe).trans c0;have d1:=(HBq.out.cell (p:=⟨be,oe+i*2+1,none⟩) hbe).trans c1;have hG:=HB1.out.below HW.out HB1.out.lt;have z0:=hG.cell 0;have z1:=hG.cell 1;have hgl:=hG.lt;have hbl:be<wr.heap.size:=by have:=HBq.out.size;omega
   simp only [List.getElem?_toArray,List.getElem?_cons_zero,List.getElem?_cons_succ] at z0 z1;have HV:=Lib.hid (show es.getD i (0,0)=(es[i].1,es[i].2) by rw [List.getD_eq_getElem?_getD,List.getElem?_eq_getElem hle];rfl);obtain ⟨u,hu⟩:∃u,u=es[i].1:=⟨_,rfl⟩;obtain ⟨v,hv⟩:∃v,v=es[i].2:=⟨_,rfl⟩;rw [←hu] at d0 HV;rw [←hv] at d1 HV;clear hce c0 c1 hu hv
   go_upto_region 4 with fail
   refine R3.wp_region_i wr.heap.size [[]] [0,0,0,0,0,0]
    [([],.val (.agg #[.int .i64 a,.int .i64 b])),([],.val (.slice (some ⟨be,oe,none⟩) k cap)),([],.val (.int .i64 i)),([1,2],.val (.pointer (some ⟨be,oe+i*2,none⟩))),([3],.val (.agg #[.int .i64 u,.int .i64 v])),([0,4],.val (.bool (decide (a=u)&&decide (b=v))))] [5] (by kernel_rfl) (by kernel_rfl) (fun us=>?_) ?_
   ·refine R3.pgo_pure _ rfl rfl (fun wv hw hu=>⟨.agg #[.int .i64 a,.int .i64 b],?_,rfl⟩) ?_
    ·have tok:=True.intro;have z0:=(yZ (yG (by kernel_rfl) hw)).cell (p:=⟨g,0,none⟩) hgl |>.trans z0;have z1:=(yZ (yG (by kernel_rfl) hw)).cell (p:=⟨g,1,none⟩) hgl |>.trans z1;clear hw hu;go_simp
    refine R3.pgo_pure _ rfl rfl (fun wv hw hu=>⟨.slice (some ⟨be,oe,none⟩) k cap,?_,rfl⟩) ?_
    ·have tok:=True.intro;clear hw hu;go_simp
    refine R3.pgo_pure _ rfl rfl (fun wv hw hu=>⟨.int .i64 i,?_,rfl⟩) ?_
    ·have tok:=True.intro;clear hw hu;go_simp
    refine R3.pgo_pure _ rfl rfl (fun wv hw hu=>⟨.pointer (some ⟨be,oe+i*2,none⟩),?_,rfl⟩) ?_
    ·have tok:=True.intro;have h1:us 1 = .slice (some ⟨be,oe,none⟩) k cap:=hu.1;have h2:us 2 = .int .i64 i:=hu.2.1;clear hw hu;go_simp
    refine R3.pgo_pure _ rfl rfl (fun wv hw hu=>⟨.agg #[.int .i64 u,.int .i64 v],?_,rfl⟩) ?_
    ·have tok:=True.intro;have h3:us 3 = .pointer (some ⟨be,oe+i*2,none⟩):=hu.1;have d0:=(yZ (yG (by kernel_rfl) hw)).cell (p:=⟨be,oe+i*2,none⟩) hbl |>.trans d0;have d1:=(yZ (yG (by kernel_rfl) hw)).cell (p:=⟨be,oe+i*2+1,none⟩) hbl |>.trans d1;clear hw hu;go_simp
    refine R3.pgo_pure _ rfl rfl (fun wv hw hu=>⟨.bool (decide (a=u)&&decide (b=v)),?_,rfl⟩) ?_
    ·have tok:=True.intro;have h0:us 0 = .agg #[.int .i64 a,.int .i64 b]:=hu.1;have h4:us 4 = .agg #[.int .i64 u,.int .i64 v]:=hu.2.1;clear hw hu;go_simp;by_cases h1:a=u<;>by_cases h2:b=v<;>simp [h1,h2]
    trivial
   ·intro us w5 hw hu;have h5:us 5 = .bool (decide (a=u)&&decide (b=v)):=hu.1;have HW5:=Lib.hid (HW.out.trans ((yZ (yG (by kernel_rfl) hw)).mono HW.out.size));clear hw hu;simp only [kx];go_simp;by_cases h1:a=u
    ·by_cases h2:b=v
     ·have HR:=Lib.hid (show es.getD i (0,0)=(a,b) by rw [HV.out,h1,h2]);rw [decide_eq_true h1,decide_eq_true h2,Bool.and_true];clear h1 h2 h5;go_wp2_with fail;go_ret;exact ⟨_,rfl,HB.out.trans (HW5.out.mono HB.out.size),.inr ⟨i,rfl,hlt,HR.out⟩⟩
     ·have HR:=Lib.hid (show es.getD i (0,0)≠(a,b) by rw [HV.out];intro e;injection e with e1 e2;exact h2 e2.symm);rw [decide_eq_false h2,Bool.and_false];clear h1 h2 h5;go_wp2_with fail
      go_roundg (k-(i+1))
      case measure=>rw [Hk.out];omega
      case rel=>exact ⟨i+1,by go_num,by omega,rfl,HW5.out,fun j hj=>by
       by_cases h:j=i
       ·rw [h];exact HR.out
       ·exact Hf.out j (by omega)⟩
    ·have HR:=Lib.hid (show es.getD i (0,0)≠(a,b) by rw [HV.out];intro e;injection e with e1 e2;exact h1 e1.symm);rw [decide_eq_false h1,Bool.false_and];clear h1 h5;go_wp2_with fail
     go_roundg (k-(i+1))
     case measure=>rw [Hk.out];omega
     case rel=>exact ⟨i+1,by go_num,by omega,rfl,HW5.out,fun j hj=>by
      by_cases h:j=i
      ·rw [h];exact HR.out
      ·exact Hf.out j (by omega)⟩
  ·have hlt':¬(i:Int)<k:=by omega
   have hie:i=k:=by omega
   subst hie;go_wp2_with fail;go_ret;exact ⟨_,rfl,HBq.out,.inl ⟨rfl,Hf.out⟩⟩
theorem Uq(A:Option Addr)(cap:Nat)(es:List (Int×Int))(a b:Int)(k:Nat)(w:World)(hk:k≤es.length)(hlen:es.length≤1000)(hes:jr w w.heap.size A (jA es)) :
  Calls Tryz.prog 94 #[.slice A k cap,.agg #[.int .i64 a,.int .i64 b]] w (fun e w'=>∃r,e = .returned (.bool r)∧Below w.heap.size w w'∧(r=true ↔ ∃j,j<k∧es.getD j (0,0)=(a,b))):=by
 have HB:=Lib.hid ((Below.refl w.heap.size w).alloc (Nat.le_refl _) (.cells #[.int .i64 a,.int .i64 b] 66));have HES:=Lib.hid ((hes.below HB.out).more HB.out.size);clear hes
 go_enter Tryz.func94,Tryz.ntmps94
 go_upto_region 1 with fail
 go_wp2_with fail;refine (dl A cap es a b k _ hk hlen HES.out).mono ?_;rintro e w2 ⟨r,rfl,hb2,hr⟩;have HB2:=Lib.hid (HB.out.trans (hb2.mono HB.out.size));have HR:=Lib.hid hr;clear hr hb2;go_wp2_with fail;go_ret;refine ⟨_,rfl,HB2.out,?_⟩;rw [decide_eq_true_eq];rcases HR.out with ⟨rfl,h⟩ | ⟨j,rfl,h1,h2⟩
 ·exact ⟨fun h0=>absurd h0 (by omega),fun ⟨j,h1,h2⟩=>absurd h2 (h j h1)⟩
 ·exact ⟨fun _=>⟨j,h1,h2⟩,fun _=>by omega⟩
theorem YD(A:Option Addr)(c:Nat)(l:List Int)(v:Int)(w:World)(h:jr w w.heap.size A (jf l))(hl:l.length≤100000) :
  Calls Tryz.prog 56 #[.slice A l.length c,.int .i64 v] w (fun e w'=>e = .returned (.bool (decide (xX l v≥0)))∧w=w'):=by
 have H:=Lib.hid h;clear h
 go_enter Tryz.func56,Tryz.ntmps56
 go_wp2_with fail;refine (Jg A c l v w H.out hl).mono ?_;rintro e w2 ⟨rfl,rfl⟩;go_wp2_with fail;go_ret;exact ⟨rfl,rfl⟩
end Go.Proofs.YtneeknlhlkpnpaaGreat
namespace Go.Proofs.YtneeknlhlkpnpaaGreat
open Go.RowKit
section
variable {n:Nat}{es:List (Int×Int)}
theorem YJ(x:Nat)(hx:x<n)(hno:(x:Int)∉qO es n):∃e∈es,e.2=(x:Int)∧e.1∉qO es n:=by
 have ho:=uf es n;apply Classical.byContradiction;intro hn;have hok:Xf es (qO es n) x=true:=JD.2 ⟨hno,fun e he h2=>Classical.byContradiction fun h1=>hn ⟨e,he,h2,h1⟩⟩;rcases ew (es:=es) (N:=n) n [] with h | h
 ·have h':kC es n (qO es n)=none:=h;unfold kC at h';rw [List.find?_eq_none] at h';exact h' x (List.mem_range.2 hx) hok
 ·have h':(qO es n).length=n:=by
   show (YR es n n []).length=n
   rw [h];simp
  exact hno (Xz ho h' hx)
theorem cI{out:List Int}{x:Nat}(hx:x<n):(qK n es out).getD x 0=if out.contains (x:Int) then -1 else (Xj es out x:Int):=by
 unfold qK;rw [List.getD_eq_getElem?_getD,List.getElem?_map,List.getElem?_range hx];rfl
theorem Zx{x:Nat}(hx:x<n):(qK n es (qO es n)).getD x 0>0↔(x:Int)∉qO es n:=by
 rw [cI hx];by_cases h:(x:Int)∈qO es n
 ·rw [if_pos (List.contains_iff_mem.2 h)];exact ⟨fun h2=>absurd h2 (by omega),fun h2=>absurd h h2⟩
 ·rw [if_neg (by rw [List.contains_iff_mem];exact h)];refine ⟨fun _=>h,fun _=>?_⟩;obtain ⟨e,he,h2,h1⟩:=YJ x hx h;have:Xj es (qO es n) x≠0:=fun h0=>h1 (Ws.1 h0 e he h2);omega
theorem KI:kO n es=true ↔ ∀x,x<n→(x:Int)∈qO es n:=by
 unfold kO;rw [decide_eq_true_eq];exact ⟨fun h x hx=>Xz (uf es n) h hx,fun h=>Nat.le_antisymm (uf es n).le (dI h)⟩
theorem oH(h:∀i,i<n→(qK n es (qO es n)).getD i 0≤0):kO n es=true:=
 KI.2 fun x hx=>Classical.byContradiction fun hno=>by
  have h1:=(Zx hx).2 hno;have h2:=h x hx;omega
theorem fU{k:Nat}(hk:k<n)(h:(qK n es (qO es n)).getD k 0>0):kO n es=false:=by
 cases ho:kO n es with
 | false=>rfl
 | true=>exact absurd (KI.1 ho k hk) ((Zx hk).1 h)
theorem fM(hin:InN n es){x:Nat}(hx:x<n)(h:(qK n es (qO es n)).getD x 0>0):∃j,∃hj:j<(jK es Prod.snd x es.length).length,∃i t:Nat,(jK es Prod.snd x es.length)[j]=(i:Int)∧i<es.length∧(es.getD i (0,0)).1=(t:Int)∧t<n∧(qK n es (qO es n)).getD t 0>0:=by
 obtain ⟨e,he,h2,h1⟩:=YJ x hx ((Zx hx).1 h);obtain ⟨i,hi,hie⟩:=QH he;have hm:((i:Nat):Int)∈jK es Prod.snd x es.length:=ql.2 ⟨i,rfl,hi,by rw [hie];exact h2⟩;obtain ⟨j,hj,hje⟩:=List.getElem_of_mem hm;have hb:=hin e he;obtain ⟨t,ht⟩:=Int.eq_ofNat_of_zero_le hb.1;refine ⟨j,hj,i,t,hje,hi,by rw [hie];exact ht,by omega,(Zx (by omega)).2 ?_⟩;rw [←ht];exact h1
end
theorem kE{n:Nat}{l:List Nat}(h:l.Nodup)(hl:∀a∈l,a<n):l.length≤n:=by
 have:=uN (l:=l.map fun z:Nat=>(z:Int)) (l':=(List.range n).map fun z:Nat=>(z:Int)) (Zl h fun a _ b _ e=>by omega) fun a ha=>by
  obtain ⟨b,hb,rfl⟩:=List.mem_map.1 ha;exact List.mem_map.2 ⟨b,List.mem_range.2 (hl b hb),rfl⟩
 simpa using this
end Go.Proofs.YtneeknlhlkpnpaaGreat
namespace Go.Proofs.YtneeknlhlkpnpaaGreat
open Go.RowKit
set_option maxRecDepth 20000 in
set_option maxHeartbeats 4000000 in
theorem lI(gv n:Nat)(es:List (Int×Int))(w:World)(hv:zC w gv n es)(hE:∀e∈es,0≤e.1∧e.1<(n:Int)∧0≤e.2∧e.2<(n:Int))(hn:n≤64)(hl:es.length≤1000) :
  Calls Tryz.prog 131 #[.pointer (some ⟨gv,0,none⟩)] w (fun e w'=>∃v1 v2,e = .returned (.tuple #[v1,v2])∧Below w.heap.size w w'∧w'.ownsRow w.heap.size 3 1 v1 (qO es n).length (jf (qO es n))∧w'.ownsRow w.heap.size 3 1 v2 n (jf (qK n es (qO es n)))):=by
 obtain ⟨A,c,go,gi,os,is,hbv,hes,hol,hil,hgo,hgi,hrw⟩:=hv;have HV:=Lib.hid hbv;have HES:=Lib.hid hes;have HGO:=Lib.hid hgo;have HGI:=Lib.hid hgi;have HRW:=Lib.hid hrw;have HE:=Lib.hid hE;have z2:w.cell? ⟨gv,2,none⟩=some (.slice (some ⟨go,0,none⟩) n n):=hbv.cell 2;have z3:w.cell? ⟨gv,3,none⟩=some (.slice (some ⟨gi,0,none⟩) n n):=hbv.cell 3;have lv:=hbv.lt;have lgo:=hgo.lt;have lgi:=hgi.lt;clear hbv hes hgo hgi hrw hE
 go_enter Tryz.func131,Tryz.ntmps131
 go_wp2_with fail
 go_loopg [3,14] n (fun k s3 s14 wr=>∃i:Nat,s14 = .int .i64 i∧i≤n∧k=n-i∧Below w.heap.size w wr∧wr.ownsRow w.heap.size 3 1 s3 i (jf ((qK n es []).take i)))
 case atStart=>exact ⟨0,rfl,Nat.zero_le _,rfl,Below.refl _ _,World.ownsRow_nil _ _ _ _⟩
 case round=>
  obtain ⟨i,rfl,hi,hk,hb,hown⟩:=hrel;have Hk:=Lib.hid hk;have HB:=Lib.hid hb;have HO:=Lib.hid hown;have hsz:=hb.size;have y3:=(hb.cell (p:=⟨gv,3,none⟩) lv).trans z3;clear hk hb hown;by_cases hlt:i<n
  ·have hlt':(i:Int)<n:=by omega
   have hix:n+i<(os++is).length:=by simp;omega
   have hro:=HRW.out.own (n+i) hix (by rw [←HRW.out.len];exact hix);rw [List.getElem_append_right (by omega),ug hlt] at hro;simp only [show n+i-os.length=i by omega] at hro;obtain ⟨Ai,ci,hiv⟩:=jv hro;have yi:wr.cell? ⟨gi,i,none⟩=some (.slice Ai (jK es Prod.snd i es.length).length ci):=(HB.out.cell (p:=⟨gi,i,none⟩) lgi).trans ((HGI.out.cell i).trans (by rw [←hiv];simp [List.getElem?_eq_getElem (show i<is.length by omega)]));obtain ⟨li,hli⟩:∃z,z=(jK es Prod.snd i es.length).length:=⟨_,rfl⟩;have hli2:li≤es.length:=by rw [hli];exact qd _ _ _ _
   rw [←hli] at yi
   have HW:=Lib.hid (show (qK n es []).take (i+1)=(qK n es []).take i++[(li:Int)] by
    rw [List.take_succ_eq_append_getElem (by rw [qf];exact hlt)];congr 2
    have:(qK n es [])[i]'(by rw [qf];exact hlt)=((List.range n).map fun h:Nat=>((jK es Prod.snd h es.length).length:Int))[i]'(by simpa using hlt):=by
     congr 1;exact XK n es
    rw [this,hli]
    simp)
   clear hro hiv hli;go_wp2_with (at_builtin;refine yC qz rfl _ _ rfl w.heap.size u3 _ _ rfl wr.heap.size [.int .i64 (li:Int)] rfl rfl HO.out rfl rfl ?h2 ?h3 ?h4 ?_)
   case h2=>omega
   case h3=>omega
   case h4=>omega
   intro v5 w5 ho5 hg5 _;have HB5:=Lib.hid (qb HB.out HO.out hg5 hsz (Nat.le_refl _));have HO5:=Lib.hid (show w5.ownsRow w.heap.size 3 1 v5 (i+1) (jf ((qK n es []).take (i+1))) by rw [HW.out];simpa [jf] using ho5);clear ho5 hg5 HO HB y3 yi;go_wp2_with fail
   go_roundg (n-(i+1))
   case measure=>rw [Hk.out];omega
   case rel=>exact ⟨i+1,by go_num,by omega,rfl,HB5.out,HO5.out⟩
  ·have hie:n=i:=by omega
   subst hie;have hlt':¬(n:Int)<n:=by omega
   obtain ⟨A3,c3,hs3⟩:=jv HO.out
   have HO1:=Lib.hid (show wr.ownsRow w.heap.size 3 1 (.slice A3 n c3) n (jf (qK n es [])) by
    have:=HO.out;rw [List.take_of_length_le (by rw [qf];exact Nat.le_refl _)] at this
    rw [←hs3];exact this)
   rw [hs3];have HA3:=Lib.hid (fun k hk=>(HO1.out.lt k hk).2);clear HO hs3 y3;go_wp2_with fail;obtain ⟨w1,rfl⟩:∃x,x=wr:=⟨_,rfl⟩
   go_loopg [2,3] n (fun k s2 s3 wr=>∃out:List Int,s3 = .slice A3 n c3∧Ord es n out∧qO es n=YR es n (n-out.length) out∧k=n-out.length∧Below w.heap.size w wr∧w1.heap.size≤wr.heap.size∧wr.ownsRow w1.heap.size 3 1 s2 out.length (jf out)∧wr.ownsRow w.heap.size 3 1 (.slice A3 n c3) n (jf (qK n es out)))
   case atStart=>exact ⟨[],rfl,Ord.nil es n,rfl,rfl,HB.out,Nat.le_refl _,World.ownsRow_nil _ _ _ _,HO1.out⟩
   case round=>
    obtain ⟨out,rfl,hord,hrun,hk,hb,hsw,hown,hwt⟩:=hrel;have Hk:=Lib.hid hk;have HRun:=Lib.hid hrun;have HOrd:=Lib.hid hord;have HB2:=Lib.hid hb;have HO2:=Lib.hid hown;have HW2:=Lib.hid hwt;have hidx:=Jg A3 c3 (qK n es out) 0 wr (jr.of_own hwt) (by rw [qf];omega);rw [qf] at hidx;clear hk hrun hord hb hown hwt;go_wp2_with fail;refine hidx.mono ?_;rintro e w2 ⟨rfl,rfl⟩;clear hidx
    cases hx:kC es n out with
    | none=>
     rw [YA hx];have HF:=Lib.hid (show qO es n=out by rw [HRun.out,UK hx]);clear hx;go_wp2_with fail;go_ret2;exact ⟨_,_,rfl,HB2.out,by rw [HF.out];exact qh HO2.out HB.out.size,by rw [HF.out];exact HW2.out⟩
    | some x=>
     obtain ⟨hxn,hix⟩:=Yz hx;rw [hix];have HX:=Lib.hid hx;have hxn':(x:Int)<n:=by omega
     have hx0:¬(x:Int)<0:=by omega
     have hll:=(HOrd.out.push hx).le;simp only [List.length_append,List.length_singleton] at hll;clear hx hix;have hsz2:=HB2.out.size;go_wp2_with (at_builtin;refine yC qz rfl _ _ rfl w1.heap.size u2 _ _ rfl wr.heap.size [.int .i64 (x:Int)] rfl rfl HO2.out rfl rfl ?h2 ?h3 ?h4 ?_)
     case h2=>omega
     case h3=>omega
     case h4=>omega
     intro v5 w5 ho5 hg5 hat5;have hsz5:=hg5.size;have hwt5:=HW2.out.kept hg5 (Kx HO2.out HA3.out);have HB5:=Lib.hid (qb HB2.out HO2.out hg5 hsz2 HB.out.size);have HO5:=Lib.hid (show w5.ownsRow w1.heap.size 3 1 v5 (out++[(x:Int)]).length (jf (out++[(x:Int)])) by simpa [jf] using ho5);obtain ⟨g,R,hA3,hgb,hgB,hR,hnc,hcm,_⟩:=Jo hwt5 (by omega);have HRl:=Lib.hid hR;have hg1:g<w1.heap.size:=HA3.out g (by rw [hA3];rfl);have HGB:=Lib.hid hgB;have cx:=hgB.intR (k:=x) (by rw [qf];exact hxn);have fx:=hgB.frozen x;have hgs:g<w5.heap.size:=hgB.lt;have HG6:=Lib.hid (hgB.setIntR x (-1) (by rw [qf];exact hxn));have HB6:=Lib.hid (HB5.out.setCell (p:=⟨g,x,none⟩) hgb (.int .i64 (-1)));have HO6:=Lib.hid (HO5.out.kept (zP (World.grownBy.refl w5 (some g)) (p:=⟨g,x,none⟩) (.inl rfl) (.int .i64 (-1))) (uF HO5.out hg1));have y2:=(HB6.out.cell (p:=⟨gv,2,none⟩) lv).trans z2;have y1:=(HB6.out.cell (p:=⟨gv,1,none⟩) lv).trans (HV.out.cell 1);simp only [List.getElem?_toArray,List.getElem?_cons_zero,List.getElem?_cons_succ] at y1;have hix:x<(os++is).length:=by simp;omega
     have hro:=HRW.out.own x hix (by rw [←HRW.out.len];exact hix);rw [List.getElem_append_left (by omega),JE hxn] at hro;obtain ⟨Ax,cx2,hxv⟩:=jv hro;have yx:(w5.setCell ⟨g,x,none⟩ (.int .i64 (-1))).cell? ⟨go,x,none⟩=some (.slice Ax (jK es Prod.fst x es.length).length cx2):=(HB6.out.cell (p:=⟨go,x,none⟩) lgo).trans ((HGO.out.cell x).trans (by rw [←hxv];simp [List.getElem?_eq_getElem (show x<os.length by omega)]));rw [hxv] at hro;have HAx:=Lib.hid (jr.of_own hro);subst hA3;obtain ⟨lx,hlx⟩:∃z,z=(jK es Prod.fst x es.length).length:=⟨_,rfl⟩;have hlx2:lx≤es.length:=by rw [hlx];exact qd _ _ _ _
     rw [←hlx] at yx;have HLX:=Lib.hid hlx;have hss:(w5.setCell ⟨g,x,none⟩ (.int .i64 (-1))).heap.size=w5.heap.size:=by simp
     clear ho5 hg5 hat5 hwt5 HW2 HO2 HB2 HO5 HB5 hR hgB HGB hro hxv hlx;go_wp2_with fail;generalize w5.setCell ⟨g,x,none⟩ (.int .i64 (-1))=w6 at *;rw [VJ] at HG6;obtain ⟨w4,rfl⟩:∃y,y=wr:=⟨_,rfl⟩
     go_loopg [45] lx (fun k s45 wr=>∃j:Nat,s45 = .int .i64 j∧j≤lx∧k=lx-j∧w6.grownBy wr (some g)∧Blk wr g 3 ((jf (vf n es out x j)).toArray++R))
     case atStart=>exact ⟨0,rfl,Nat.zero_le _,rfl,World.grownBy.refl _ _,HG6.out⟩
     case round=>
      obtain ⟨j,rfl,hj,hk2,hgr,hbj⟩:=hrel;have Hk2:=Lib.hid hk2;have HGR:=Lib.hid hgr;have HBJ:=Lib.hid hbj;have HBW:=Lib.hid (HB6.out.trans ((Below.refl w.heap.size w6).grown hgr (by omega) (fun k hk=>by injection hk;omega)));have hszr:=hgr.size;clear hk2 hgr hbj;by_cases hjl:j<lx
      ·have hjl':(j:Int)<lx:=by omega
       have hjl2:j<(jK es Prod.fst x es.length).length:=by have:=HLX.out;omega
       obtain ⟨i,hei,hil,hi1⟩:=ZK hjl2;obtain ⟨bx,offx,hAxe,hbx,hcx⟩:=HAx.out.ints (by omega);obtain ⟨b,off,hAe,hbb,hcc⟩:=HES.out.edges (by omega);have c0:=(HBW.out.cell (p:=⟨bx,offx+j,none⟩) hbx).trans (hcx j hjl2);rw [hei] at c0;obtain ⟨_,c1⟩:=hcc i hil;have c1':=(HBW.out.cell (p:=⟨b,off+i*2+1,none⟩) hbb).trans c1;obtain ⟨q0,q1,q2,q3⟩:=HE.out es[i] (List.getElem_mem hil);obtain ⟨t,ht⟩:=Int.eq_ofNat_of_zero_le q2;have ht':es[i].2=(t:Int):=ht;rw [ht'] at c1';have htn:t<n:=by omega
       have htn':(t:Int)<n:=by omega
       have hil':(i:Int)<es.length:=by omega
       have HS:=Lib.hid (VK HOrd.out HX.out hjl2 hei hil ht' htn);obtain ⟨vb1,vb2⟩:=Zj (n:=n) (es:=es) (out:=out) (x:=(x:Int)) (j:=j) (t:=t) hl;have ct:=HBJ.out.intR (k:=t) (by rw [zR];exact htn);obtain ⟨v,hv⟩:∃v,v=(vf n es out x j).getD t 0:=⟨_,rfl⟩;rw [←hv] at ct vb1 vb2;have hwv:wrap64 (v-1)=v-1:=by unfold wrap64;omega
       have ft:=HBJ.out.frozen t;have y1r:=(HBW.out.cell (p:=⟨gv,1,none⟩) lv).trans (HV.out.cell 1);simp only [List.getElem?_toArray,List.getElem?_cons_zero,List.getElem?_cons_succ] at y1r
       have HBS:=Lib.hid (show Blk (wr.setCell ⟨g,t,none⟩ (.int .i64 (v-1))) g 3 ((jf (vf n es out x (j+1))).toArray++R) by
        rw [←HS.out,←hv]
        exact HBJ.out.setIntR t (v-1) (by rw [zR];exact htn))
       have HGS:=Lib.hid (zP HGR.out (p:=⟨g,t,none⟩) (.inl rfl) (.int .i64 (v-1)));subst hAxe hAe;clear hcx hcc c1 ht ht' q0 q1 q2 q3 hi1 hei hv HS y1 y2 yx;go_wp2_with fail
       go_roundg (lx-(j+1))
       case measure=>rw [Hk2.out];omega
       case rel=>exact ⟨j+1,by go_num,by omega,rfl,HGS.out,HBS.out⟩
      ·have hje:j=lx:=by omega
       have HBF:=Lib.hid (show Blk wr g 3 ((jf (qK n es (out++[(x:Int)]))).toArray++R) by
        rw [←XJ HX.out,←HLX.out,←hje];exact HBJ.out)
       have hjl':¬(j:Int)<lx:=by omega
       have HOF:=Lib.hid (HO6.out.kept HGR.out (uF HO6.out hg1));have HWF:=Lib.hid (bd (base:=w.heap.size) (n:=n) (c:=c3) hgb HBF.out (by have:=HRl.out;simp [jf,qf] at this ⊢;omega) hnc hcm (by simp [jf,qf]))
       have HRF:=Lib.hid (show qO es n=YR es n (n-(out++[(x:Int)]).length) (out++[(x:Int)]) by
        rw [HRun.out,List.length_append,List.length_singleton,←UL HX.out];congr 1;omega)
       have HOrF:=Lib.hid (HOrd.out.push HX.out);clear HBF HBJ hje y1 y2 yx;go_wp2_with fail
       go_roundg (n-(out.length+1))
       case measure=>rw [Hk.out];omega
       case rel=>exact ⟨out++[(x:Int)],rfl,HOrF.out,HRF.out,by simp,HBW.out,by omega,HOF.out,HWF.out⟩
end Go.Proofs.YtneeknlhlkpnpaaGreat
namespace Go.Proofs.YtneeknlhlkpnpaaGreat
open Go.RowKit
set_option maxRecDepth 20000 in
set_option maxHeartbeats 4000000 in
theorem lO(g o m cap:Nat)(L:List Int)(R:Array Value)(w:World)(hb:Blk w g 3 ((jf L).toArray++R))(ho:o+m≤L.length)(hm:m≤1000)(_hc:m≤cap) :
  Calls Tryz.prog 69 #[.slice (some ⟨g,o,none⟩) m cap] w (fun e w'=>e = .returned (.tuple #[])∧Below g w w' ∧ ∃L':List Int,L'.length=L.length∧Blk w' g 3 ((jf L').toArray++R)):=by
 have HB0:=Lib.hid hb;have hgw:=hb.lt;clear hb
 go_enter Tryz.func69,Tryz.ntmps69
 have hwm:IntKind.i64.wrap ((m:Int)-1)=(m:Int)-1:=by rw [IntKind.wrap_i64];omega
 go_wp2_with fail
 go_loopg [2,3] m (fun k s2 s3 wr=>∃(i:Nat) (P:List Int),s2 = .int .i64 i∧s3 = .int .i64 ((m:Int)-1-i)∧2*i≤m∧k=m-i∧P.length=L.length∧Below g w wr∧Blk wr g 3 ((jf P).toArray++R))
 case atStart=>exact ⟨0,L,rfl,by simp,by omega,rfl,rfl,Below.refl _ _,HB0.out⟩
 case round=>
  obtain ⟨i,P,rfl,rfl,hi,hk,hP,hbl,hb⟩:=hrel;have hwi:IntKind.i64.wrap ((m:Int)-1-i-1)=(m:Int)-1-i-1:=by rw [IntKind.wrap_i64];omega
  by_cases hlt:i+1<m-i
  ·obtain ⟨j,hj⟩:∃j,j=m-1-i:=⟨_,rfl⟩;have hji:(m:Int)-1-i=(j:Int):=by omega
   have hlt':(i:Int)<(j:Int):=by omega
   have hjl:j<m:=by omega
   have hil:i<m:=by omega
   have hjl':(j:Int)<m:=by omega
   have hil':(i:Int)<m:=by omega
   rw [hji] at hwi;rw [hji];have HJ:=Lib.hid hj;have Hk:=Lib.hid hk;have HP:=Lib.hid hP;have HB:=Lib.hid hb;have HBL:=Lib.hid hbl;obtain ⟨li,hli⟩:∃z,z=P.getD (o+i) 0:=⟨_,rfl⟩;obtain ⟨lj,hlj⟩:∃z,z=P.getD (o+j) 0:=⟨_,rfl⟩;have ci:=hb.intR (k:=o+i) (by omega);have cj:=hb.intR (k:=o+j) (by omega);rw [←hli] at ci;rw [←hlj] at cj;have Hci:=Lib.hid ((hb.cell (o+i)).symm.trans ci);have Hcj:=Lib.hid ((hb.cell (o+j)).symm.trans cj);have hsD:L.length≤((jf P).toArray++R).size:=by simp [jf,hP]
   have HsD:=Lib.hid hsD;obtain ⟨D0,hD0⟩:∃D,D=(jf P).toArray++R:=⟨_,rfl⟩;obtain ⟨D1,hD1⟩:∃D,D=(jf (P.set (o+i) lj)).toArray++R:=⟨_,rfl⟩;obtain ⟨D2,hD2⟩:∃D,D=(jf ((P.set (o+i) lj).set (o+j) li)).toArray++R:=⟨_,rfl⟩;have HsD1:=Lib.hid (show L.length≤D1.size by rw [hD1];simp [jf,hP]);have HD1:=Lib.hid (fun (wv:World) (h:Blk wv g 3 ((jf P).toArray++R))=>(by rw [hD1];exact h.setIntR (o+i) lj (by omega):Blk (wv.setCell ⟨g,o+i,none⟩ (.int .i64 lj)) g 3 D1));have HD2:=Lib.hid (fun (wv:World) (h:Blk wv g 3 D1)=>(by rw [hD2];rw [hD1] at h;exact h.setIntR (o+j) li (by rw [List.length_set];omega):Blk (wv.setCell ⟨g,o+j,none⟩ (.int .i64 li)) g 3 D2));have HR2:=Lib.hid hD2;have hsz:=hbl.size;clear hb hbl hk hj hsD hD0 hD1 hD2 ci cj hli hlj hP
   go_upto_region 3 with fail
   refine R3.wp_region_i g [[],[3]] [0,0,0,0,0,0,0,0,0,0,0,0,0,1,0,1]
    [([],.val (.slice (some ⟨g,o,none⟩) m cap)),([],.val (.int .i64 i)),([],.val (.slice (some ⟨g,o,none⟩) m cap)),([],.val (.int .i64 j)),([],.val (.slice (some ⟨g,o,none⟩) m cap)),([],.val (.int .i64 j)),([4,5],.val (.pointer (some ⟨g,o+j,none⟩))),([6],.val (.int .i64 lj)),([],.val (.slice (some ⟨g,o,none⟩) m cap)),([],.val (.int .i64 i)),([8,9],.val (.pointer (some ⟨g,o+i,none⟩))),([10],.val (.int .i64 li)),([0,1],.val (.pointer (some ⟨g,o+i,none⟩))),([12,7],pfB g 3 D1),([2,3],.val (.pointer (some ⟨g,o+j,none⟩))),([14,11,13],pfB g 3 D2)] [15] (by kernel_rfl) (by kernel_rfl) (fun us=>?_) ?_
   ·refine R3.pgo_pure _ rfl rfl (fun wv hw hu=>⟨.slice (some ⟨g,o,none⟩) m cap,?_,rfl⟩) ?_
    ·have tok:=True.intro;clear hw hu;go_simp
    refine R3.pgo_pure _ rfl rfl (fun wv hw hu=>⟨.int .i64 i,?_,rfl⟩) ?_
    ·have tok:=True.intro;clear hw hu;go_simp
    refine R3.pgo_pure _ rfl rfl (fun wv hw hu=>⟨.slice (some ⟨g,o,none⟩) m cap,?_,rfl⟩) ?_
    ·have tok:=True.intro;clear hw hu;go_simp
    refine R3.pgo_pure _ rfl rfl (fun wv hw hu=>⟨.int .i64 j,?_,rfl⟩) ?_
    ·have tok:=True.intro;clear hw hu;go_simp
    refine R3.pgo_pure _ rfl rfl (fun wv hw hu=>⟨.slice (some ⟨g,o,none⟩) m cap,?_,rfl⟩) ?_
    ·have tok:=True.intro;clear hw hu;go_simp
    refine R3.pgo_pure _ rfl rfl (fun wv hw hu=>⟨.int .i64 j,?_,rfl⟩) ?_
    ·have tok:=True.intro;clear hw hu;go_simp
    refine R3.pgo_pure _ rfl rfl (fun wv hw hu=>⟨.pointer (some ⟨g,o+j,none⟩),?_,rfl⟩) ?_
    ·have tok:=True.intro;have h4:us 4 = .slice (some ⟨g,o,none⟩) m cap:=hu.1;have h5:us 5 = .int .i64 j:=hu.2.1;clear hw hu;go_simp
    refine R3.pgo_pure _ rfl rfl (fun wv hw hu=>⟨.int .i64 lj,?_,rfl⟩) ?_
    ·have tok:=True.intro;have h6:us 6 = .pointer (some ⟨g,o+j,none⟩):=hu.1;have zy:wv.cell? ⟨g,o+j,none⟩=some (.int .i64 lj):=((HB.out.drew.evo hw (.inr (of_decide_eq_true (by kernel_rfl)))).cell (o+j)).trans Hcj.out;clear hw hu;go_simp
    refine R3.pgo_pure _ rfl rfl (fun wv hw hu=>⟨.slice (some ⟨g,o,none⟩) m cap,?_,rfl⟩) ?_
    ·have tok:=True.intro;clear hw hu;go_simp
    refine R3.pgo_pure _ rfl rfl (fun wv hw hu=>⟨.int .i64 i,?_,rfl⟩) ?_
    ·have tok:=True.intro;clear hw hu;go_simp
    refine R3.pgo_pure _ rfl rfl (fun wv hw hu=>⟨.pointer (some ⟨g,o+i,none⟩),?_,rfl⟩) ?_
    ·have tok:=True.intro;have h8:us 8 = .slice (some ⟨g,o,none⟩) m cap:=hu.1;have h9:us 9 = .int .i64 i:=hu.2.1;clear hw hu;go_simp
    refine R3.pgo_pure _ rfl rfl (fun wv hw hu=>⟨.int .i64 li,?_,rfl⟩) ?_
    ·have tok:=True.intro;have h10:us 10 = .pointer (some ⟨g,o+i,none⟩):=hu.1;have zy:wv.cell? ⟨g,o+i,none⟩=some (.int .i64 li):=((HB.out.drew.evo hw (.inr (of_decide_eq_true (by kernel_rfl)))).cell (o+i)).trans Hci.out;clear hw hu;go_simp
    refine R3.pgo_pure _ rfl rfl (fun wv hw hu=>⟨.pointer (some ⟨g,o+i,none⟩),?_,rfl⟩) ?_
    ·have tok:=True.intro;have h0:us 0 = .slice (some ⟨g,o,none⟩) m cap:=hu.1;have h1:us 1 = .int .i64 i:=hu.2.1;clear hw hu;go_simp
    refine R3.pgo_skip _ rfl rfl (fun wv hw hu=>?_) ?_
    ·have tok:=True.intro;have h12:us 12 = .pointer (some ⟨g,o+i,none⟩):=hu.1;have h7:us 7 = .int .i64 lj:=hu.2.1;have hbv:=HB.out.drew.evo hw (.inr (of_decide_eq_true (by kernel_rfl)));have fy:=hbv.frozen (o+i);obtain ⟨zq,zy⟩:∃z,wv.cell? ⟨g,o+i,none⟩=some z:=⟨_,(hbv.cell (o+i)).trans (Array.getElem?_eq_getElem (by have:=HsD.out;omega))⟩;refine ⟨wv.setCell ⟨g,o+i,none⟩ (.int .i64 lj),?_,Evo.set_ hbv (by simp) (Nat.le_refl _) (o+i) _,HD1.out wv hbv⟩;clear hw hu;clear hbv;go_simp
    refine R3.pgo_pure _ rfl rfl (fun wv hw hu=>⟨.pointer (some ⟨g,o+j,none⟩),?_,rfl⟩) ?_
    ·have tok:=True.intro;have h2:us 2 = .slice (some ⟨g,o,none⟩) m cap:=hu.1;have h3:us 3 = .int .i64 j:=hu.2.1;clear hw hu;go_simp
    refine R3.pgo_skip _ rfl rfl (fun wv hw hu=>?_) ?_
    ·have tok:=True.intro;have h14:us 14 = .pointer (some ⟨g,o+j,none⟩):=hu.1;have h11:us 11 = .int .i64 li:=hu.2.1;have hbv:=hu.2.2.1;have fy:=hbv.frozen (o+j);obtain ⟨zq,zy⟩:∃z,wv.cell? ⟨g,o+j,none⟩=some z:=⟨_,(hbv.cell (o+j)).trans (Array.getElem?_eq_getElem (by have:=HsD1.out;omega))⟩;refine ⟨wv.setCell ⟨g,o+j,none⟩ (.int .i64 li),?_,Evo.set_ hbv (by simp) (Nat.le_refl _) (o+j) _,HD2.out wv hbv⟩;clear hw hu hbv;go_simp
    trivial
   ·intro us w' hw hu;have hb15:Blk w' g 3 D2:=hu.1;rw [HR2.out] at hb15;have HB15:=Lib.hid hb15;have HW15:=Lib.hid (HBL.out.trans (vG (hw.below (Nat.le_of_lt HB.out.lt))));clear hw hu hb15;simp only [kx];go_simp;go_wp2_with fail
    go_roundg (m-(i+1))
    case measure=>rw [Hk.out];omega
    case rel=>exact ⟨i+1,_,by go_num,by first | rfl | (congr 1;omega) | (congr 2;have:=HJ.out;omega),by omega,rfl,by rw [List.length_set,List.length_set];exact HP.out,HW15.out,HB15.out⟩
  ·have hlt':¬(i:Int)<(m:Int)-1-i:=by omega
   have HX:=Lib.hid hb;have HY:=Lib.hid hbl;have HP:=Lib.hid hP;clear hb hbl hP;go_wp2_with fail;refine bodyPost_end (results_none rfl _ _ _) rfl ?_;exact ⟨rfl,HY.out,P,HP.out,HX.out⟩
end Go.Proofs.YtneeknlhlkpnpaaGreat
namespace Go.Proofs.YtneeknlhlkpnpaaGreat
open Go.RowKit
theorem Gt{l:List Int}{v:Int}(h:v∈l):∃i:Nat,xX l v=i∧i<l.length∧l.getD i 0=v:=by
 have:∃i,(i<l.length∧l.getD i 0=v) ∧ ∀j,j<i → ¬(j<l.length∧l.getD j 0=v):=by
  obtain ⟨i,hi,e⟩:=List.getElem_of_mem h;obtain ⟨m,_,hm,hmin⟩:=xG (P:=fun i=>i<l.length∧l.getD i 0=v) ⟨hi,by rw [List.getD_eq_getElem?_getD,List.getElem?_eq_getElem hi];exact e⟩;exact ⟨m,hm,hmin⟩
 obtain ⟨i,⟨h1,h2⟩,h3⟩:=this;refine ⟨i,KT h1 ?_ fun j hj e=>h3 j hj ⟨by omega,?_⟩,h1,h2⟩
 ·rw [List.getD_eq_getElem?_getD,List.getElem?_eq_getElem h1] at h2;exact h2.symm
 ·rw [List.getD_eq_getElem?_getD,List.getElem?_eq_getElem (by omega)];exact e.symm
theorem bB{l:List Int}{v:Int}(h:v∉l):xX l v = -1:=QI fun _j hj e=>h (e▸List.getElem_mem hj)
theorem jr.part{w:World}{g i:Nat}{t:TypeId}{L:List Int}{R:Array Value}(h:Blk w g t ((jf L).toArray++R)):jr w w.heap.size (some ⟨g,i,none⟩) (jf (L.drop i)):=fun hn=>by
 refine ⟨g,i,rfl,h.lt,fun j u hj=>?_⟩
 have hj2:j<(jf (L.drop i)).length:=by
  rcases Nat.lt_or_ge j (jf (L.drop i)).length with h | h
  ·exact h
  ·rw [List.getElem?_eq_none h] at hj;cases hj
 have hj3:i+j<L.length:=by simp [jf] at hj2;omega
 rw [h.cell,Array.getElem?_append_left (by simpa [jf] using hj3)];rw [←hj];simp [jf]
theorem jr.drop_{w:World}{B g i:Nat}{l:List Int}(h:jr w B (some ⟨g,i,none⟩) (jf l))(j:Nat):jr w B (some ⟨g,i+j,none⟩) (jf (l.drop j)):=fun hn=>by
 obtain ⟨b,off,e,hb,hc⟩:=h (by simp [jf] at hn ⊢;omega);injection e with e;injection e with e1 e2 _;subst e1 e2;refine ⟨g,i+j,rfl,hb,fun k u hk=>?_⟩;rw [Nat.add_assoc];refine hc (j+k) u ?_;rw [←hk];simp [jf]
theorem jr.take_{w:World}{B:Nat}{A:Option Addr}{l:List Int}(h:jr w B A (jf l))(j:Nat):jr w B A (jf (l.take j)):=fun hn=>by
 obtain ⟨b,off,e,hb,hc⟩:=h (by simp [jf] at hn ⊢;omega);refine ⟨b,off,e,hb,fun k u hk=>hc k u ?_⟩
 have hk2:k<(jf (l.take j)).length:=by
  rcases Nat.lt_or_ge k (jf (l.take j)).length with h | h
  ·exact h
  ·rw [List.getElem?_eq_none h] at hk;cases hk
 rw [←hk];simp [jf] at hk2 ⊢;rw [List.getElem?_take_of_lt (by omega),List.getElem?_map]
def Gx(n:Nat)(es:List (Int×Int))(w:World)(e:Ending)(w':World):Prop:=∃A L c,e = .returned (.slice A L c)∧Below w.heap.size w w'∧(kO n es=true→L=0)∧(kO n es=false→0<L)∧L≤100000
structure WayP(n:Nat)(W:List Int)(way:List Nat):Prop where
 nd:way.Nodup
 lt:∀a∈way,a<n
def Yq(way:List Nat):List Int:=way.map fun z:Nat=>(z:Int)
theorem VI(way:List Nat):(Yq way).length=way.length:=by simp [Yq]
theorem Zw{way:List Nat}{x:Nat}:(x:Int)∈Yq way↔x∈way:=by
 unfold Yq;rw [List.mem_map];constructor
 ·rintro ⟨a,ha,e⟩;have:a=x:=by omega
  exact this▸ha
 ·exact fun h=>⟨x,h,rfl⟩
set_option maxRecDepth 20000 in
set_option maxHeartbeats 4000000 in
theorem iI(gv n:Nat)(es:List (Int×Int))(w:World)(hv:zC w gv n es)(hE:InN n es)(hn:n≤64)(hl:es.length≤1000) :
  Calls Tryz.prog 95 #[.pointer (some ⟨gv,0,none⟩)] w (Gx n es w):=by
 have hrun:=lI gv n es w hv hE hn hl;obtain ⟨A,c,go,gi,os,is,hbv,hes,hol,hil,hgo,hgi,hrw⟩:=hv;have HV:=Lib.hid hbv;have HES:=Lib.hid hes;have HGI:=Lib.hid hgi;have HRW:=Lib.hid hrw;have HE:=Lib.hid hE;have lv:=hbv.lt;have lgi:=hgi.lt;clear hbv hes hgo hgi hrw hE
 go_enter Tryz.func95,Tryz.ntmps95
 go_wp2_with fail;refine hrun.mono ?_;rintro e w1 ⟨v1,v2,rfl,hb1,_,ho2⟩;obtain ⟨A2,c2,rfl⟩:=jv ho2;have HB1:=Lib.hid hb1;have HW1:=Lib.hid (jr.of_own ho2);have hwl:=qf n es (qO es n);have HWL:=Lib.hid hwl;have HWP:=Lib.hid (fun k (hk:k<n) (h:(qK n es (qO es n)).getD k 0>0)=>fM HE.out hk h);have HNO:=Lib.hid (fun (h:∀i,i<n→(qK n es (qO es n)).getD i 0≤0)=>oH (es:=es) h);have HSO:=Lib.hid (fun k (hk:k<n) (h:(qK n es (qO es n)).getD k 0>0)=>fU (es:=es) hk h);have hip:=dm A2 c2 (qK n es (qO es n)) w1 (by omega) HW1.out;rw [hwl] at hip;generalize qK n es (qO es n)=W at *;clear hrun hb1 ho2;go_wp2_with fail;refine hip.mono ?_;rintro e w2 ⟨r,rfl,rfl,hr⟩;clear hip;rcases hr with ⟨rfl,hno⟩ | ⟨k,rfl,hk,hpos⟩
 ·have HO:=Lib.hid (HNO.out fun i hi=>hno i (by rw [HWL.out];exact hi));clear hno;go_wp2_with fail;refine wp_loop_rounds 1 ?_;rw [rounds_succ];go_wp2_with fail;go_ret;refine ⟨none,0,0,rfl,HB1.out,fun _=>rfl,fun h=>?_,by omega⟩;rw [HO.out] at h
  cases h
 ·rw [hwl] at hk;have HO:=Lib.hid (HSO.out k hk hpos);have HPOS:=Lib.hid hpos;clear hwl hpos;go_wp2_with fail
  go_loopg [5,6] n (fun m s5 s6 wr=>∃(x:Nat) (way:List Nat),s5 = .int .i64 x∧x<n∧W.getD x 0>0∧WayP n W way∧m=n-way.length∧Below w1.heap.size w1 wr∧wr.ownsRow w1.heap.size 3 1 s6 way.length (jf (Yq way)))
  case atStart=>exact ⟨k,[],rfl,hk,HPOS.out,⟨List.nodup_nil,by simp⟩,rfl,Below.refl _ _,World.ownsRow_nil _ _ _ _⟩
  case round=>
   obtain ⟨x,way,rfl,hx,hxp,hway,hm,hb,hown⟩:=hrel;have Hm:=Lib.hid hm;have HXP:=Lib.hid hxp;have HWY:=Lib.hid hway;have HB:=Lib.hid hb;have HOW:=Lib.hid hown;obtain ⟨A6,c6,rfl⟩:=jv hown;have hwln:=kE hway.nd hway.lt;have HLN:=Lib.hid (VI way);have hcon:=YD A6 c6 (Yq way) x wr (jr.of_own HOW.out) (by rw [HLN.out];omega);rw [HLN.out] at hcon;have hx0:((x:Int)≥0):=Int.natCast_nonneg x;clear hm hxp hway hb hown;go_wp2_with fail;refine hcon.mono ?_;rintro e w3 ⟨rfl,rfl⟩;clear hcon;by_cases hxw:x∈way
   ·obtain ⟨i,hi,hil2,hie⟩:=Gt (Zw.2 hxw);rw [HLN.out] at hil2;have hi0:decide (xX (Yq way) (x:Int)≥0)=true:=by rw [hi];exact decide_eq_true (Int.natCast_nonneg i)
    rw [hi0];obtain ⟨g,R,hA6,hgb,hgB,hR,hnc,hcm,hxl⟩:=Jo HOW.out (by omega);subst hA6;have hidx:=Jg (some ⟨g,0,none⟩) c6 (Yq way) x wr (jr.of_own HOW.out) (by rw [HLN.out];omega);rw [HLN.out,hi] at hidx;have hxl0:¬(x:Int)<0:=by omega
    have hil':(i:Int)≤way.length:=by omega
    have hi0':(0:Int)≤i:=Int.natCast_nonneg i;have hrev:=lO g i (way.length-i) (c6-i) (Yq way) R wr hgB (by rw [HLN.out];omega) (by omega) (by omega);clear hi hie hi0 hxw
    go_upto_region 15 with fail
    go_wp2_with fail;refine hidx.mono ?_;rintro e w4 ⟨rfl,rfl⟩;go_wp2_with fail;refine hrev.mono ?_;rintro e w5 ⟨rfl,hb5,L',hL',hB5⟩;have hlm:(L'.drop i).length=way.length-i:=by rw [List.length_drop,hL',HLN.out]
    have hC5:=jr.part hB5 (i:=i);obtain ⟨l5,hl5⟩:∃l5,l5=L'.drop i:=⟨_,rfl⟩;rw [←hl5] at hlm hC5;obtain ⟨m,hm⟩:∃m,m=way.length-i:=⟨_,rfl⟩;obtain ⟨c5,hc5⟩:∃c5,c5=c6-i:=⟨_,rfl⟩;rw [←hm] at hlm;rw [←hm,←hc5];have hm0:0<m:=by omega
    have hm1:m≤64:=by omega
    have hmc:m≤c5:=by omega
    have hmin:=oK (some ⟨g,i,none⟩) c5 l5 w5 hC5 (by omega) (by omega);have hmem:=bm (l:=l5) l5.length (by omega) (Nat.le_refl _);rw [hlm] at hmin hmem;obtain ⟨mv,hmv⟩:∃mv,mv=Uy l5 m:=⟨_,rfl⟩;rw [←hmv] at hmin hmem;obtain ⟨j,hj,hjm,_⟩:=Gt hmem;rw [hlm] at hjm;have hix:=Jg (some ⟨g,i,none⟩) c5 l5 mv w5 hC5 (by omega);rw [hlm,hj] at hix;have HB5:=Lib.hid (HB1.out.trans ((HB.out.trans (hb5.mono hgb)).mono HB1.out.size));have hjl':(j:Int)≤m:=by omega
    have hjl2:(j:Int)<m:=by omega
    have hjc:(j:Int)≤c5:=by omega
    have hcj:¬c5=j:=by omega
    have hj0:(0:Int)≤j:=Int.natCast_nonneg j;have hC5a:=Lib.hid hC5;have hl1:(l5.drop j).length=m-j:=by rw [List.length_drop,hlm]
    have hl2:(l5.take j).length=j:=by rw [List.length_take,hlm];omega
    have HL1:=Lib.hid hl1;have HL2:=Lib.hid hl2;clear hrev hidx hb5 hL' hB5 hl5 hm hc5 hmem hmv hj hl1 hl2 hgB hC5
    go_upto_region 19 with fail
    go_wp2_with fail;refine hmin.mono ?_;rintro e w6 ⟨rfl,rfl⟩;go_wp2_with fail;refine hix.mono ?_;rintro e w7 ⟨rfl,rfl⟩;clear hmin hix
    go_upto_region 20 with fail
    have hD:=Lib.hid (show ∀W:World,Below w5.heap.size w5 W→qm (W.alloc (.cells #[.slice (some ⟨g,i+j,none⟩) (m-j) (c5-j),.slice (some ⟨g,i,none⟩) j c5] 25)) (W.alloc (.cells #[.slice (some ⟨g,i+j,none⟩) (m-j) (c5-j),.slice (some ⟨g,i,none⟩) j c5] 25)).heap.size (some ⟨W.heap.size,0,none⟩) [l5.drop j,l5.take j] from fun W hW _=>by
     have hb:=Blk.new W 25 #[.slice (some ⟨g,i+j,none⟩) (m-j) (c5-j),.slice (some ⟨g,i,none⟩) j c5];have hc:=((hC5a.out.below hW).alloc hW.size (.cells #[.slice (some ⟨g,i+j,none⟩) (m-j) (c5-j),.slice (some ⟨g,i,none⟩) j c5] 25)).more (show w5.heap.size≤(W.alloc (.cells #[.slice (some ⟨g,i+j,none⟩) (m-j) (c5-j),.slice (some ⟨g,i,none⟩) j c5] 25)).heap.size by rw [World.size_alloc];have:=hW.size;omega);refine ⟨W.heap.size,0,rfl,hb.lt,fun k hk=>?_⟩
     match k,hk with
     | 0,_=>exact ⟨some ⟨g,i+j,none⟩,c5-j,by rw [show ([l5.drop j,l5.take j]:List (List Int))[0]=l5.drop j from rfl,HL1.out];exact hb.cell 0,jr.drop_ hc j⟩
     | 1,_=>exact ⟨some ⟨g,i,none⟩,c5,by rw [show ([l5.drop j,l5.take j]:List (List Int))[1]=l5.take j from rfl,HL2.out];exact hb.cell 1,jr.take_ hc j⟩)
    have HCAT:=Lib.hid (fun W (h:qm W W.heap.size (some ⟨w5.heap.size,0,none⟩) [l5.drop j,l5.take j])=>Ku (some ⟨w5.heap.size,0,none⟩) 2 [l5.drop j,l5.take j] W h (by simp) (by simp;omega));have hfl:([l5.drop j,l5.take j]:List (List Int)).flatten.length=m:=by simp [hlm];omega
    rw [hfl] at HCAT
    go_region_held3 (fun _=>True)
     (exact True.intro)
     (first
      | (go_at_call 74;refine (HCAT.out _ (by exact hD.out w5 (Below.refl _ _))).mono ?_;rintro e w8 ⟨A8,c8,rfl,hb8,_⟩))
    have HB8:=Lib.hid (HB5.out.trans (((Qx ((Below.refl w5.heap.size w5).alloc (Nat.le_refl _) (.cells #[.slice (some ⟨g,i+j,none⟩) (m-j) (c5-j),.slice (some ⟨g,i,none⟩) j c5] 25))).trans (hb8.mono (by show w5.heap.size≤(w5.alloc _).heap.size;rw [World.size_alloc];exact Nat.le_succ _))).mono HB5.out.size));clear hb8;go_wp2_with fail;go_ret;refine ⟨A8,m,c8,rfl,HB8.out,fun h=>?_,fun _=>hm0,by omega⟩;rw [HO.out] at h
    cases h
   ·have hi0:decide (xX (Yq way) (x:Int)≥0)=false:=by rw [bB (fun h=>hxw (Zw.1 h))];rfl
    rw [hi0]
    have HWY2:=Lib.hid (show WayP n W (way++[x]) from ⟨List.nodup_append.2 ⟨HWY.out.nd,by simp,fun a ha b hb e=>by
     rw [List.mem_singleton] at hb;subst hb
     exact hxw (e▸ha)⟩,fun a ha=>by
     rcases List.mem_append.1 ha with h | h
     ·exact HWY.out.lt a h
     ·rw [List.mem_singleton] at h;rw [h];exact hx⟩)
    have hwl2:=kE HWY2.out.nd HWY2.out.lt;rw [List.length_append,List.length_singleton] at hwl2;have hzw:=HB.out.size;clear hi0 hxw
    go_upto_region 5 with fail
    go_wp2_with (at_builtin;refine yC qz rfl _ _ rfl w1.heap.size (.slice A6 way.length c6) _ _ rfl wr.heap.size [.int .i64 (x:Int)] rfl rfl HOW.out rfl rfl ?h2 ?h3 ?h4 ?_)
    case h2=>omega
    case h3=>omega
    case h4=>omega
    intro v5 w5 ho5 hg5 _;obtain ⟨A5,c5,rfl⟩:=jv ho5;have HB5:=Lib.hid (qb HB.out HOW.out hg5 hzw (Nat.le_refl _))
    have HO5:=Lib.hid (show w5.ownsRow w1.heap.size 3 1 (.slice A5 (way.length+1) c5) (way++[x]).length (jf (Yq (way++[x]))) by
     rw [List.length_append,List.length_singleton]
     simpa [jf,Yq] using ho5)
    have HBA:=Lib.hid (HB1.out.trans (HB5.out.mono HB1.out.size));have hix:n+x<(os++is).length:=by simp;omega
    have hro:=HRW.out.own (n+x) hix (by rw [←HRW.out.len];exact hix);rw [List.getElem_append_right (by omega),ug hx] at hro;simp only [show n+x-os.length=x by omega] at hro;obtain ⟨Ai,ci,hiv⟩:=jv hro;have y3:=(HBA.out.cell (p:=⟨gv,3,none⟩) lv).trans (HV.out.cell 3);have y1:=(HBA.out.cell (p:=⟨gv,1,none⟩) lv).trans (HV.out.cell 1);simp only [List.getElem?_toArray,List.getElem?_cons_zero,List.getElem?_cons_succ] at y3 y1;have yi:w5.cell? ⟨gi,x,none⟩=some (.slice Ai (jK es Prod.snd x es.length).length ci):=(HBA.out.cell (p:=⟨gi,x,none⟩) lgi).trans ((HGI.out.cell x).trans (by rw [←hiv];simp [List.getElem?_eq_getElem (show x<is.length by omega)]));rw [hiv] at hro;have HAI:=Lib.hid ((jr.of_own hro).below HBA.out);have HWB:=Lib.hid (HWP.out x hx HXP.out);have HES5:=Lib.hid (HES.out.below HBA.out);have HWC:=Lib.hid ((HW1.out.below HB5.out));obtain ⟨lx,hlx⟩:∃z,z=(jK es Prod.snd x es.length).length:=⟨_,rfl⟩;have hlx2:lx≤es.length:=by rw [hlx];exact qd _ _ _ _
    rw [←hlx] at yi;have HLX:=Lib.hid hlx;have hx':(x:Int)<n:=by omega
    clear ho5 hg5 hro hiv hlx HOW
    go_upto_region 7 with fail
    go_wp2_with fail
    go_loopg [7,39] lx (fun m s7 s39 wr=>∃(j:Nat) (bk:Int),s39 = .int .i64 j∧s7 = .int .i64 bk∧j≤lx∧m=lx-j∧w5=wr∧(bk = -1 ∨ ∃t:Nat,bk=t∧t<n∧W.getD t 0>0)∧(bk = -1 → ∀j' (hj:j'<(jK es Prod.snd x es.length).length),j'<j → ∀i t:Nat,(jK es Prod.snd x es.length)[j']=(i:Int)→i<es.length→(es.getD i (0,0)).1=(t:Int)→t<n → ¬W.getD t 0>0))
    case atStart=>exact ⟨0,-1,rfl,rfl,Nat.zero_le _,rfl,rfl,.inl rfl,fun _ j' _ h=>absurd h (Nat.not_lt_zero _)⟩
    case round=>
     obtain ⟨j,bk,rfl,rfl,hj,hm2,rfl,hbk,hno⟩:=hrel;have Hm2:=Lib.hid hm2;have HBK:=Lib.hid hbk;have HNO2:=Lib.hid hno;clear hm2 hbk hno;by_cases hjl:j<lx
     ·have hjl':(j:Int)<lx:=by omega
      have hjl2:j<(jK es Prod.snd x es.length).length:=by have:=HLX.out;omega
      obtain ⟨i,hei,hil2,_⟩:=ZK hjl2;obtain ⟨bx,offx,rfl,hbx,hcx⟩:=HAI.out.ints (by omega);obtain ⟨b,off,rfl,hbb,hcc⟩:=HES5.out.edges (by omega);have c0:=hcx j hjl2;rw [hei] at c0;obtain ⟨e0,_⟩:=hcc i hil2;have hge:es.getD i (0,0)=es[i]:=by rw [List.getD_eq_getElem?_getD,List.getElem?_eq_getElem hil2];rfl
      obtain ⟨q0,q1,_,_⟩:=HE.out es[i] (List.getElem_mem hil2);obtain ⟨t,ht⟩:=Int.eq_ofNat_of_zero_le q0;have ht':es[i].1=(t:Int):=ht;rw [ht'] at e0;have htn:t<n:=by omega
      have htn':(t:Int)<n:=by omega
      have hil3:(i:Int)<es.length:=by omega
      obtain ⟨bw,ow,rfl,hbw,hcw⟩:=HWC.out.ints (by rw [HWL.out];omega);have cw:=hcw t (by rw [HWL.out];exact htn);have hwv:W[t]'(by rw [HWL.out];exact htn)=W.getD t 0:=by rw [List.getD_eq_getElem?_getD,List.getElem?_eq_getElem (by rw [HWL.out];exact htn)];rfl
      rw [hwv] at cw
      have HY:=Lib.hid (show ¬W.getD t 0>0→(bk = -1 → ∀j' (hj:j'<(jK es Prod.snd x es.length).length),j'<j+1 → ∀i t:Nat,(jK es Prod.snd x es.length)[j']=(i:Int)→i<es.length→(es.getD i (0,0)).1=(t:Int)→t<n → ¬W.getD t 0>0) from fun h hb j' hj' hl i2 t2 h1 h2 h3 h4=>by
       by_cases e:j'=j
       ·subst e;rw [hei] at h1;have:i2=i:=by omega
        subst this;rw [hge,ht'] at h3;have:t2=t:=by omega
        subst this;exact h
       ·exact HNO2.out hb j' hj' (by omega) i2 t2 h1 h2 h3 h4)
      obtain ⟨wt,hwt⟩:∃wt,wt=W.getD t 0:=⟨_,rfl⟩;have HWT:=Lib.hid hwt;rw [←hwt] at cw HY;clear hcx hcc hcw q0 q1 ht ht' hei hge hwv hwt;by_cases hpos:wt>0
      ·have hpos':decide (wt>0)=true:=decide_eq_true hpos;have HPT:=Lib.hid (show W.getD t 0>0 by rw [←HWT.out];exact hpos);by_cases hb0:bk<0
       ·have hb0':decide (bk<0)=true:=decide_eq_true hb0;clear hpos;go_wp2_with fail
        go_roundg (lx-(j+1))
        case measure=>rw [Hm2.out];omega
        case rel=>exact ⟨j+1,t,by go_num,rfl,by omega,rfl,rfl,.inr ⟨t,rfl,htn,HPT.out⟩,fun h=>absurd h (by omega)⟩
       ·have hb0':decide (bk<0)=false:=decide_eq_false hb0;by_cases htb:(t:Int)<bk
        ·have htb':decide ((t:Int)<bk)=true:=decide_eq_true htb;clear hpos hb0;go_wp2_with fail
         go_roundg (lx-(j+1))
         case measure=>rw [Hm2.out];omega
         case rel=>exact ⟨j+1,t,by go_num,rfl,by omega,rfl,rfl,.inr ⟨t,rfl,htn,HPT.out⟩,fun h=>absurd h (by omega)⟩
        ·have htb':decide ((t:Int)<bk)=false:=decide_eq_false htb;have HB0:=Lib.hid hb0;clear hpos hb0 htb;go_wp2_with fail
         go_roundg (lx-(j+1))
         case measure=>rw [Hm2.out];omega
         case rel=>exact ⟨j+1,bk,by go_num,rfl,by omega,rfl,rfl,HBK.out,fun h=>absurd h (by have:=HB0.out;omega)⟩
      ·have hpos':decide (wt>0)=false:=decide_eq_false hpos;have HY2:=Lib.hid (HY.out hpos);clear hpos;go_wp2_with fail
       go_roundg (lx-(j+1))
       case measure=>rw [Hm2.out];omega
       case rel=>exact ⟨j+1,bk,by go_num,rfl,by omega,rfl,rfl,HBK.out,HY2.out⟩
     ·have hje:j=lx:=by omega
      have hjl':¬(j:Int)<lx:=by omega
      have HT:=Lib.hid (show ∃t:Nat,bk=t∧t<n∧W.getD t 0>0 by
       rcases HBK.out with h | h
       ·exfalso;obtain ⟨j',hj',i,t,h1,h2,h3,h4,h5⟩:=HWB.out;exact HNO2.out h j' hj' (by have:=HLX.out;omega) i t h1 h2 h3 h4 h5
       ·exact h)
      obtain ⟨t,rfl,htn,htp⟩:=HT.out;have HTP:=Lib.hid htp;clear hje htp HT;go_wp2_with fail
      go_roundg (n-(way.length+1))
      case measure=>rw [Hm.out];omega
      case rel=>exact ⟨t,way++[x],rfl,htn,HTP.out,HWY2.out,by rw [List.length_append,List.length_singleton],HB5.out,HO5.out⟩
end Go.Proofs.YtneeknlhlkpnpaaGreat
namespace Go.Proofs.YtneeknlhlkpnpaaGreat
open Go.RowKit
structure GoodP(n:Int)(es:List (Int×Int)):Prop where
 may:vj n es=true
 loop:∀i,i<es.length→(es.getD i (0,0)).1≠(es.getD i (0,0)).2
 twice:∀i,i<es.length → ∀j,j<i→es.getD j (0,0)≠es.getD i (0,0)
 ord:kO n.toNat es=true
 src:(xg n.toNat es Prod.snd).length≤1
def pj(n:Int)(es:List (Int×Int))(w:World)(e:Ending)(w':World):Prop:=∃c a v,e = .returned (.agg #[.int .i64 c,.int .i64 a,v])∧Below w.heap.size w w'∧(c=0↔GoodP n es)
theorem kq{n:Nat}{es:List (Int×Int)}(h:vj n es=true):InN n es:=by
 intro e he;obtain ⟨i,hi,hie⟩:=QH he;unfold vj at h;simp only [Bool.and_eq_true,Bool.not_eq_true',decide_eq_true_eq] at h;have h2:=h.2;unfold Xt at h2;rw [List.any_eq_false] at h2;have:=h2 i (List.mem_range.2 hi);rw [hie] at this;unfold UB ZZ at this;simp only [Bool.or_eq_true,decide_eq_true_eq,not_or] at this;omega
theorem vM{w:World}{g:Nat}{c0 a0 v0:Value}(h:Blk w g 74 #[c0,a0,v0])(c a v:Value):Blk (((w.setCell ⟨g,0,none⟩ c).setCell ⟨g,1,none⟩ a).setCell ⟨g,2,none⟩ v) g 74 #[c,a,v]:=
 ((h.set_ 0 c).set_ 1 a).set_ 2 v
theorem zF{B:Nat}{w0 w:World}(hb:Below B w0 w){g:Nat}(hg:B≤g)(c a v:Value):Below B w0 (((w.setCell ⟨g,0,none⟩ c).setCell ⟨g,1,none⟩ a).setCell ⟨g,2,none⟩ v):=
 ((hb.setCell (p:=⟨g,0,none⟩) hg c).setCell (p:=⟨g,1,none⟩) hg a).setCell (p:=⟨g,2,none⟩) hg v
set_option maxRecDepth 20000 in
set_option maxHeartbeats 4000000 in
theorem VG(n:Int)(A:Option Addr)(cap:Nat)(es:List (Int×Int))(w:World)(hes:jr w w.heap.size A (jA es))(hcap:es.length≤cap) :
  Calls Tryz.prog 38 #[.agg #[.int .i64 n,.slice A es.length cap]] w (pj n es w):=by
 have S1:=Lib.hid (SG.start n cap hes (rs:=[]) (C:=none) (fun h=>absurd h (by simp)));clear hes;have HF2:=Lib.hid (QM (w.alloc (.cells #[.int .i64 n,.slice A es.length cap] 24)) (w.heap.size+1) 74 #[.int .i64 0,.int .i64 0,.slice none 0 0] (by simp));have hb2:=(Below.refl (w.alloc (.cells #[.int .i64 n,.slice A es.length cap] 24)).heap.size (w.alloc (.cells #[.int .i64 n,.slice A es.length cap] 24))).alloc (Nat.le_refl _) (.cells #[.int .i64 0,.int .i64 0,.slice none 0 0] 74);have S2:=Lib.hid (S1.out.next hb2);clear hb2 S1
 go_enter Tryz.func38,Tryz.ntmps38
 go_upto_region 1 with fail
 obtain ⟨gF,hgF⟩:∃gF,gF=w.heap.size+1:=⟨_,rfl⟩;rw [←hgF] at HF2;rw [←hgF];generalize (w.alloc (.cells #[.int .i64 n,.slice A es.length cap] 24)).alloc (.cells #[.int .i64 0,.int .i64 0,.slice none 0 0] 74)=w2 at *;have HGF:=Lib.hid hgF;clear hgF;have g0:=S2.out.g0;have g1:=S2.out.g1;go_wp2_with fail;refine (ZP n A cap es w2 S2.out.es).mono ?_;rintro e w3 ⟨rfl,hb3⟩;have S3:=Lib.hid (S2.out.next hb3);have HF3:=Lib.hid (HF2.out.below hb3 HF2.out.lt);clear hb3 g0 g1;have g0:=S3.out.g0;have g1:=S3.out.g1
 cases hm:vj n es with
 | false=>
  have HN:=Lib.hid (show ¬GoodP n es from fun h=>by rw [h.may] at hm;cases hm);have f0:=HF3.out.cell 0;have f1:=HF3.out.cell 1;have f2:=HF3.out.cell 2;have r0:=HF3.out.frozen 0;have r1:=HF3.out.frozen 1;have r2:=HF3.out.frozen 2;simp only [List.getElem?_toArray,List.getElem?_cons_zero,List.getElem?_cons_succ] at f0 f1 f2;clear hm;go_wp2_with fail;refine bodyPost_ret (results_cell_row Tryz.results38 _ _ gF 74 #[.int .i64 1,.int .i64 0,.slice none 0 0] (0,0) _ rfl (vM HF3.out _ _ _) Tryz.underlying74 rfl (by kernel_rfl)) (by rfl) ?_;exact ⟨_,_,_,rfl,zF S3.out.below (by have:=HGF.out;omega) _ _ _,fun h=>absurd h (by decide),fun h=>absurd h HN.out⟩
 | true=>
  obtain ⟨hn0,hn1,hem⟩:=jP hm;obtain ⟨N,rfl⟩:∃N:Nat,n=N:=⟨n.toNat,by omega⟩;have HIN:=Lib.hid (kq hm);have HM:=Lib.hid hm
  have hix:=Yy A cap es 93 #[] (fun i=>(es.getD i (0,0)).1==(es.getD i (0,0)).2) w3 (by omega) S3.out.es Us (fun i hi w' _=>by
   rw [List.getD_eq_getElem?_getD,List.getElem?_eq_getElem hi]
   exact ic _ _ w')
  clear hm;go_wp2_with fail;refine hix.mono ?_;rintro e w4 ⟨r,rfl,hb4,hr⟩;have S4:=Lib.hid (S3.out.next hb4);have HF4:=Lib.hid (HF3.out.below hb4 HF3.out.lt);clear hix hb4 g0 g1;have g0:=S4.out.g0;have g1:=S4.out.g1;rcases hr with ⟨rfl,hno⟩ | ⟨k,rfl,hk,hp,_⟩
  ·have HLP:=Lib.hid (show ∀i,i<es.length→(es.getD i (0,0)).1≠(es.getD i (0,0)).2 from fun i hi e=>by
    have h1:((es.getD i (0,0)).1==(es.getD i (0,0)).2)=false:=hno i hi;rw [e] at h1
    simp at h1)
   clear hno
   go_upto_region 6 with fail
   go_wp2_with fail
   go_loopg [23] es.length (fun m s23 wr=>∃i:Nat,s23 = .int .i64 i∧i≤es.length∧m=es.length-i∧Below w4.heap.size w4 wr ∧ ∀i',i'<i → ∀j,j<i'→es.getD j (0,0)≠es.getD i' (0,0))
   case atStart=>exact ⟨0,rfl,Nat.zero_le _,rfl,Below.refl _ _,fun i' h=>absurd h (Nat.not_lt_zero _)⟩
   case round=>
    obtain ⟨i,rfl,hi,hm2,hb,htw⟩:=hrel;have Hk:=Lib.hid hm2;have HB:=Lib.hid hb;have HTW:=Lib.hid htw;have S5:=Lib.hid (S4.out.next hb);have HF5:=Lib.hid (HF4.out.below hb HF4.out.lt);clear hm2 hb htw g0 g1;by_cases hil:i<es.length
    ·have hil':(i:Int)<es.length:=by omega
     obtain ⟨b,off,rfl,hbb,hcc⟩:=S5.out.es.edges (by omega);obtain ⟨c0,c1⟩:=hcc i hil;have HV:=Lib.hid (show es.getD i (0,0)=(es[i].1,es[i].2) by rw [List.getD_eq_getElem?_getD,List.getElem?_eq_getElem hil];rfl);obtain ⟨p,hp⟩:∃p,p=es[i].1:=⟨_,rfl⟩;obtain ⟨q,hq⟩:∃q,q=es[i].2:=⟨_,rfl⟩;rw [←hp] at c0 HV;rw [←hq] at c1 HV;have HE6:=Lib.hid (Blk.new wr 66 #[.int .i64 p,.int .i64 q]);have hb6:=(Below.refl wr.heap.size wr).alloc (Nat.le_refl _) (.cells #[.int .i64 p,.int .i64 q] 66);have S6:=Lib.hid (S5.out.next hb6);have HB6:=Lib.hid (HB.out.trans (hb6.mono HB.out.size));have HF6:=Lib.hid (HF5.out.below hb6 HF5.out.lt);clear hb6 hcc hp hq c0 c1
     have c0:wr.cell? ⟨b,off+i*2,none⟩=some (.int .i64 p):=by
      obtain ⟨b2,off2,e2,_,hcc⟩:=S5.out.es.edges (by omega);injection e2 with e2;injection e2 with e3 e4 _;subst e3 e4;have h1:=(hcc i hil).1;rw [show es[i].1=p by have:=HV.out;rw [List.getD_eq_getElem?_getD,List.getElem?_eq_getElem hil] at this;exact congrArg Prod.fst this] at h1;exact h1
     have c1:wr.cell? ⟨b,off+i*2+1,none⟩=some (.int .i64 q):=by
      obtain ⟨b2,off2,e2,_,hcc⟩:=S5.out.es.edges (by omega);injection e2 with e2;injection e2 with e3 e4 _;subst e3 e4;have h1:=(hcc i hil).2;rw [show es[i].2=q by have:=HV.out;rw [List.getD_eq_getElem?_getD,List.getElem?_eq_getElem hil] at this;exact congrArg Prod.snd this] at h1;exact h1
     go_upto_region 9 with fail
     obtain ⟨gE,hgE⟩:∃gE,gE=wr.heap.size:=⟨_,rfl⟩;rw [←hgE] at HE6;rw [←hgE];generalize wr.alloc (.cells #[.int .i64 p,.int .i64 q] 66)=w6 at *;have g0:=S6.out.g0;have g1:=S6.out.g1;have e0:=HE6.out.cell 0;have e1:=HE6.out.cell 1;simp only [List.getElem?_toArray,List.getElem?_cons_zero,List.getElem?_cons_succ] at e0 e1;have hic:(i:Int)≤cap:=by omega
     have hi0:(0:Int)≤i:=Int.natCast_nonneg i;have hiL:i≤es.length:=by omega
     have heL:es.length≤1000:=by omega
     have hl6:=S6.out.lt;have hgE6:=HE6.out.lt;have KS:=Lib.hid (show ∀w',Below w6.heap.size w6 w'→w'.cell? ⟨w.heap.size,1,none⟩=some (.slice (some ⟨b,off,none⟩) es.length cap)∧(w'.cell? ⟨gE,0,none⟩=some (.int .i64 p)∧w'.cell? ⟨gE,1,none⟩=some (.int .i64 q)) from fun w' h=>⟨(h.cell (p:=⟨w.heap.size,1,none⟩) hl6).trans g1,(h.cell (p:=⟨gE,0,none⟩) hgE6).trans e0,(h.cell (p:=⟨gE,1,none⟩) hgE6).trans e1⟩);clear c0 c1 hgE
     go_region_held3 (fun w'=>w'.cell? ⟨w.heap.size,1,none⟩=some (.slice (some ⟨b,off,none⟩) es.length cap)∧(w'.cell? ⟨gE,0,none⟩=some (.int .i64 p)∧w'.cell? ⟨gE,1,none⟩=some (.int .i64 q)))
      (first | exact ⟨g1,⟨e0,e1⟩⟩ | exact KS.out _ hb7)
      (first
       | (go_at_call 94;refine (Uq (some ⟨b,off,none⟩) cap es p q i _ hiL heL (by exact S6.out.es)).mono ?_;rintro e w7 ⟨r7,rfl,hb7',hr7⟩;have hb7:=yZ hb7';clear hb7'))
     have S7:=Lib.hid (S6.out.next hb7);have HF7:=Lib.hid (HF6.out.below hb7 HF6.out.lt);have HB7:=Lib.hid (HB6.out.trans (hb7.mono HB6.out.size));have HR7:=Lib.hid hr7;clear hb7 hr7 KS g0 g1 e0 e1
     cases r7 with
     | true=>
      have HNG:=Lib.hid (show ¬GoodP N es from fun h=>by
       obtain ⟨j,h1,h2⟩:=HR7.out.1 rfl
       exact h.twice i hil j h1 (by rw [h2,HV.out]))
      have f0:=HF7.out.cell 0;have f1:=HF7.out.cell 1;have f2:=HF7.out.cell 2;have r0:=HF7.out.frozen 0;have r1:=HF7.out.frozen 1;have r2:=HF7.out.frozen 2;simp only [List.getElem?_toArray,List.getElem?_cons_zero,List.getElem?_cons_succ] at f0 f1 f2;go_wp2_with fail;refine bodyPost_ret (results_cell_row Tryz.results38 _ _ gF 74 #[.int .i64 14,.int .i64 i,.slice none 0 0] (0,0) _ rfl (vM HF7.out _ _ _) Tryz.underlying74 rfl (by kernel_rfl)) (by rfl) ?_;exact ⟨_,_,_,rfl,zF S7.out.below (by have:=HGF.out;omega) _ _ _,fun h=>absurd h (by decide),fun h=>absurd h HNG.out⟩
     | false=>
      have HTW2:=Lib.hid (show ∀i',i'<i+1 → ∀j,j<i'→es.getD j (0,0)≠es.getD i' (0,0) from fun i' hi' j hj e=>by
       by_cases h:i'=i
       ·subst h;have:=HR7.out.2 ⟨j,hj,by rw [e,HV.out]⟩
        cases this
       ·exact HTW.out i' (by omega) j hj e)
      go_wp2_with fail
      go_roundg (es.length-(i+1))
      case measure=>rw [Hk.out];omega
      case rel=>exact ⟨i+1,by go_num,by omega,rfl,HB7.out,HTW2.out⟩
    ·have hie:i=es.length:=by omega
     have hil':¬(i:Int)<es.length:=by omega
     have HTW2:=Lib.hid (show ∀i',i'<es.length → ∀j,j<i'→es.getD j (0,0)≠es.getD i' (0,0) from fun i' h=>HTW.out i' (by omega));have hview:=um N A cap es wr S5.out.es;have hv1:vN N es=N:=by unfold vN;rw [if_pos HM.out];rfl
     have hv2:vE N es=es:=by unfold vE;rw [if_pos HM.out]
     rw [hv1,hv2] at hview;have g0:=S5.out.g0;have g1:=S5.out.g1;have hN1:N≤64:=by omega
     have heL:es.length≤1000:=by omega
     clear hie hv1 hv2
     go_upto_region 12 with fail
     go_wp2_with fail;refine hview.mono ?_;rintro e w6 ⟨gv,rfl,hb6,hvw⟩;have S6:=Lib.hid (S5.out.next hb6);have HF6:=Lib.hid (HF5.out.below hb6 HF5.out.lt);have HVW:=Lib.hid hvw;clear hview hb6 hvw g0 g1;go_wp2_with fail;refine (iI gv N es w6 HVW.out HIN.out hN1 heL).mono ?_;rintro e w7 ⟨A7,L7,c7,rfl,hb7,hc1,hc2,hc3⟩;have S7:=Lib.hid (S6.out.next hb7);have HF7:=Lib.hid (HF6.out.below hb7 HF6.out.lt);have HVW7:=Lib.hid (HVW.out.below hb7 (Nat.le_refl _));clear hb7
     cases ho:kO N es with
     | false=>
      have hL:(L7:Int)>0:=by have:=hc2 ho;omega
      have hL':decide ((L7:Int)>0)=true:=decide_eq_true hL
      have HNG:=Lib.hid (show ¬GoodP N es from fun h=>by
       have:=h.ord;rw [Int.toNat_natCast,ho] at this
       cases this)
      have f0:=HF7.out.cell 0;have f1:=HF7.out.cell 1;have f2:=HF7.out.cell 2;have r0:=HF7.out.frozen 0;have r1:=HF7.out.frozen 1;have r2:=HF7.out.frozen 2;simp only [List.getElem?_toArray,List.getElem?_cons_zero,List.getElem?_cons_succ] at f0 f1 f2;clear hc1 hc2 ho;go_wp2_with fail;refine bodyPost_ret (results_cell_row Tryz.results38 _ _ gF 74 #[.int .i64 15,.int .i64 0,.slice A7 L7 c7] (0,0) _ rfl (vM HF7.out _ _ _) Tryz.underlying74 rfl (by kernel_rfl)) (by rfl) ?_;exact ⟨_,_,_,rfl,zF S7.out.below (by have:=HGF.out;omega) _ _ _,fun h=>absurd h (by decide),fun h=>absurd h HNG.out⟩
     | true=>
      have hL:L7=0:=hc1 ho;subst hL;have HO:=Lib.hid ho;clear hc1 hc2 ho;go_wp2_with fail;refine (VO gv N es w7 HVW7.out (by omega) heL).mono ?_;rintro e w8 ⟨v8,rfl,hb8,ho8⟩;obtain ⟨A8,c8,rfl⟩:=jv ho8;have S8:=Lib.hid (S7.out.next hb8);have HF8:=Lib.hid (HF7.out.below hb8 HF7.out.lt);have hsl:(qU N es Prod.snd).length=(xg N es Prod.snd).length:=by simp [qU]
      have hsle:=Jr N es Prod.snd
      have hoc:(qU N es Prod.snd).length≤c8:=by
       rcases Nat.eq_zero_or_pos (qU N es Prod.snd).length with h | h
       ·omega
       ·obtain ⟨_,_,_,_,_,_,h5,_⟩:=Jo ho8 h;exact h5
      rw [hsl] at hoc;rw [hsl];obtain ⟨L8,hL8⟩:∃L8,L8=(xg N es Prod.snd).length:=⟨_,rfl⟩;rw [←hL8] at hoc hsle;rw [←hL8];have HL8:=Lib.hid hL8;clear hb8 ho8 hsl hL8;have f0:=HF8.out.cell 0;have f1:=HF8.out.cell 1;have f2:=HF8.out.cell 2;have r0:=HF8.out.frozen 0;have r1:=HF8.out.frozen 1;have r2:=HF8.out.frozen 2;simp only [List.getElem?_toArray,List.getElem?_cons_zero,List.getElem?_cons_succ] at f0 f1 f2;by_cases h2:(L8:Int)>1
      ·have h2':decide ((L8:Int)>1)=true:=decide_eq_true h2;have hc8:(2:Int)≤c8:=by omega
       have hc8':2≤c8:=by omega
       have HNG:=Lib.hid (show ¬GoodP N es from fun h=>by
        have:=h.src;rw [Int.toNat_natCast,←HL8.out] at this
        omega)
       clear h2;go_wp2_with fail;refine bodyPost_ret (results_cell_row Tryz.results38 _ _ gF 74 #[.int .i64 16,.int .i64 0,.slice A8 2 2] (0,0) _ rfl (vM HF8.out _ _ _) Tryz.underlying74 rfl (by kernel_rfl)) (by rfl) ?_;exact ⟨_,_,_,rfl,zF S8.out.below (by have:=HGF.out;omega) _ _ _,fun h=>absurd h (by decide),fun h=>absurd h HNG.out⟩
      ·have h2':decide ((L8:Int)>1)=false:=decide_eq_false h2;have HG:=Lib.hid (show GoodP N es from ⟨HM.out,HLP.out,HTW2.out,by rw [Int.toNat_natCast];exact HO.out,by rw [Int.toNat_natCast,←HL8.out];omega⟩);clear h2;go_wp2_with fail;refine bodyPost_ret (results_cell_row Tryz.results38 _ _ gF 74 #[.int .i64 0,.int .i64 0,.slice none 0 0] (0,0) _ rfl (vM HF8.out _ _ _) Tryz.underlying74 rfl (by kernel_rfl)) (by rfl) ?_;exact ⟨_,_,_,rfl,zF S8.out.below (by have:=HGF.out;omega) _ _ _,fun _=>HG.out,fun _=>rfl⟩
  ·have HNG:=Lib.hid (show ¬GoodP N es from fun h=>h.loop k hk (by simpa using hp));clear hp;have f0:=HF4.out.cell 0;have f1:=HF4.out.cell 1;have f2:=HF4.out.cell 2;have r0:=HF4.out.frozen 0;have r1:=HF4.out.frozen 1;have r2:=HF4.out.frozen 2;simp only [List.getElem?_toArray,List.getElem?_cons_zero,List.getElem?_cons_succ] at f0 f1 f2;have hk0:(k:Int)≥0:=Int.natCast_nonneg k;go_wp2_with fail;refine bodyPost_ret (results_cell_row Tryz.results38 _ _ gF 74 #[.int .i64 13,.int .i64 k,.slice none 0 0] (0,0) _ rfl (vM HF4.out _ _ _) Tryz.underlying74 rfl (by kernel_rfl)) (by rfl) ?_;exact ⟨_,_,_,rfl,zF S4.out.below (by have:=HGF.out;omega) _ _ _,fun h=>absurd h (by decide),fun h=>absurd h HNG.out⟩
end Go.Proofs.YtneeknlhlkpnpaaGreat
namespace Go.Proofs.YtneeknlhlkpnpaaGreat
open Go.RowKit
section
variable {n:Nat}{es:List (Int×Int)}
def YZ(L:List Bool)(x:Nat)(e:Int×Int):Bool:=L.getD e.1.toNat false&&(L.getD e.2.toNat false&&decide (e.2=(x:Int)))
def xp(n:Nat)(es:List (Int×Int))(L:List Bool)(j:Nat):List Bool:=(List.range n).map fun x=>(es.take j).any (YZ L x)
def yQ(n:Nat)(es:List (Int×Int)):Nat→List Bool
 | 0=>List.replicate n true
 | k+1=>xp n es (yQ n es k) es.length
theorem Zm(n:Nat)(es:List (Int×Int))(L:List Bool)(j:Nat):(xp n es L j).length=n:=by simp [xp]
theorem Zp:∀k,(yQ n es k).length=n
 | 0=>by simp [yQ]
 | k+1=>Zm _ _ _ _
theorem di(n:Nat)(es:List (Int×Int))(L:List Bool):xp n es L 0=List.replicate n false:=by
 apply List.ext_getElem
 ·simp [xp]
 ·intro i h1 h2;simp [xp]
theorem mg{L:List Bool}{j x:Nat}(hx:x<n):(xp n es L j).getD x false=(es.take j).any (YZ L x):=by
 unfold xp;rw [List.getD_eq_getElem?_getD,List.getElem?_map,List.getElem?_range hx];rfl
theorem hJ{L:List Bool}{j t:Nat}(hj:j<es.length)(ht:es[j].2=(t:Int))(h:(L.getD es[j].1.toNat false&&L.getD t false)=true):(xp n es L j).set t true=xp n es L (j+1):=by
 unfold xp;refine kf n t _ _ true ?_ (fun x hx=>?_)
 ·rw [List.take_succ_eq_append_getElem hj,List.any_append]
  have:YZ L t es[j]=true:=by
   unfold YZ;rw [ht,Int.toNat_natCast,←Bool.and_assoc,h];simp
  simp [this]
 ·rw [List.take_succ_eq_append_getElem hj,List.any_append]
  have:YZ L x es[j]=false:=by
   unfold YZ;rw [ht,decide_eq_false (by omega)];simp
  simp [this]
theorem dj{L:List Bool}{j t:Nat}(hj:j<es.length)(ht:es[j].2=(t:Int))(h:(L.getD es[j].1.toNat false&&L.getD t false)=false):xp n es L (j+1)=xp n es L j:=by
 unfold xp;refine List.map_congr_left fun x _=>?_;rw [List.take_succ_eq_append_getElem hj,List.any_append]
 have:YZ L x es[j]=false:=by
  unfold YZ;rw [ht,Int.toNat_natCast,←Bool.and_assoc,h];rfl
 simp [this]
def inL(L:List Bool)(x:Nat):Prop:=L.getD x false=true
theorem kZ{k x:Nat}(hx:x<n):inL (yQ n es (k+1)) x ↔ ∃e∈es,e.2=(x:Int)∧inL (yQ n es k) e.1.toNat∧inL (yQ n es k) x:=by
 unfold inL
 show (xp n es (yQ n es k) es.length).getD x false=true↔_
 rw [mg hx,List.take_length,List.any_eq_true];constructor
 ·rintro ⟨e,he,h⟩;unfold YZ at h;simp only [Bool.and_eq_true,decide_eq_true_eq] at h;refine ⟨e,he,h.2.2,h.1,?_⟩;have:=h.2.1;rw [h.2.2,Int.toNat_natCast] at this;exact this
 ·rintro ⟨e,he,h1,h2,h3⟩;refine ⟨e,he,?_⟩;unfold YZ;rw [h1,Int.toNat_natCast,h2,h3];simp
theorem KL{k x:Nat}(hx:x<n)(h:inL (yQ n es (k+1)) x):inL (yQ n es k) x:=by
 obtain ⟨_,_,_,_,h⟩:=(kZ hx).1 h;exact h
def Zc(n:Nat)(es:List (Int×Int))(k:Nat):Prop:=∀x,x<n→(inL (yQ n es (k+1)) x↔inL (yQ n es k) x)
theorem UG(hin:InN n es){k:Nat}(h:Zc n es k):Zc n es (k+1):=fun x hx=>by
 refine ⟨KL hx,fun h1=>?_⟩;obtain ⟨e,he,h2,h3,_⟩:=(kZ hx).1 h1;have:=hin e he;exact (kZ hx).2 ⟨e,he,h2,(h _ (by omega)).2 h3,h1⟩
theorem ep(hin:InN n es){k:Nat}(h:Zc n es k):∀d,Zc n es (k+d)
 | 0=>h
 | d+1=>UG hin (ep hin h d)
noncomputable def rf(n:Nat)(es:List (Int×Int))(k:Nat):Nat:=(List.range n).countP fun x=>tst (inL (yQ n es k) x)
theorem eP(hin:InN n es):∀k,Zc n es k∨rf n es (k+1)+k+1≤n
 | 0=>by
  by_cases h:Zc n es 0
  ·exact .inl h
  ·right
   unfold Zc at h;simp only [Classical.not_forall] at h;obtain ⟨x,hx,h⟩:=h
   have h0:inL (yQ n es 0) x:=by
    unfold inL yQ;rw [List.getD_eq_getElem?_getD,List.getElem?_replicate,if_pos hx];rfl
   have h1:¬inL (yQ n es 1) x:=fun h1=>h ⟨fun _=>h0,fun _=>h1⟩;have:=YC (n:=n) (p:=fun x=>tst (inL (yQ n es 1) x)) (q:=fun _=>true) (fun _ _ _=>rfl) hx rfl (Xu.2 h1);rw [List.countP_true,List.length_range] at this;unfold rf
   show (List.range n).countP (fun x=>tst (inL (yQ n es 1) x))+0+1≤n
   omega
 | k+1=>by
  rcases eP hin k with h | h
  ·exact .inl (UG hin h)
  ·by_cases hs:Zc n es (k+1)
   ·exact .inl hs
   ·right
    unfold Zc at hs;simp only [Classical.not_forall] at hs;obtain ⟨x,hx,hs⟩:=hs;have h1:¬inL (yQ n es (k+1+1)) x:=fun h1=>hs ⟨fun _=>KL hx h1,fun _=>h1⟩;have h0:inL (yQ n es (k+1)) x:=Classical.byContradiction fun h0=>hs ⟨fun h=>absurd h h1,fun h=>absurd h h0⟩;have:=YC (n:=n) (p:=fun x=>tst (inL (yQ n es (k+1+1)) x)) (q:=fun x=>tst (inL (yQ n es (k+1)) x)) (fun y hy h=>jB.2 (KL hy (jB.1 h))) hx (jB.2 h0) (Xu.2 h1);unfold rf at h ⊢;omega
theorem VT(hin:InN n es):Zc n es n:=by
 rcases eP hin n with h | h
 ·exact h
 ·omega
theorem ij(hin:InN n es){x:Nat}(hx:x<n)(h:inL (yQ n es n) x):∃i t:Nat,i<es.length∧(es.getD i (0,0)).2=(x:Int)∧(es.getD i (0,0)).1=(t:Int)∧t<n∧inL (yQ n es n) t:=by
 obtain ⟨e,he,h1,h2,_⟩:=(kZ hx).1 ((VT hin x hx).2 h);obtain ⟨i,hi,hie⟩:=QH he;have hb:=hin e he;obtain ⟨t,ht⟩:=Int.eq_ofNat_of_zero_le hb.1;refine ⟨i,t,hi,by rw [hie];exact h1,by rw [hie];exact ht,by omega,?_⟩;rw [ht] at h2;exact h2
theorem Wd(hin:InN n es){L:Nat→Nat}(hL:∀e∈es,L e.1.toNat<L e.2.toNat):∀k x,x<n→inL (yQ n es k) x→k≤L x
 | 0,_,_,_=>Nat.zero_le _
 | k+1,x,hx,h=>by
  obtain ⟨e,he,h1,h2,_⟩:=(kZ hx).1 h;have hb:=hin e he;have h3:=Wd hin hL k e.1.toNat (by omega) h2;have h4:=hL e he;rw [h1,Int.toNat_natCast] at h4;omega
theorem ii(hin:InN n es)(ho:kO n es=true){x:Nat}(hx:x<n):¬inL (yQ n es n) x:=fun h=>by
 obtain ⟨L,hL⟩:=xt hin ho
 have hd:∀d,inL (yQ n es (n+d)) x:=by
  intro d
  induction d with
  | zero=>exact h
  | succ d ih=>exact (ep hin (VT hin) d x hx).2 ih
 have:=Wd hin hL (n+(L x+1)) x hx (hd _);omega
theorem Vv{x:Nat}(hin:InN n es):∀k,x<n→(x:Int)∉qO es n→inL (yQ n es k) x
 | 0,hx,_=>by
  unfold inL yQ;rw [List.getD_eq_getElem?_getD,List.getElem?_replicate,if_pos hx];rfl
 | k+1,hx,h=>by
  obtain ⟨e,he,h2,h1⟩:=YJ x hx h;have hb:=hin e he;refine (kZ hx).2 ⟨e,he,h2,Vv (x:=e.1.toNat) hin k (by omega) (by rw [Int.toNat_of_nonneg hb.1];exact h1),Vv hin k hx h⟩
theorem ig(hin:InN n es)(ho:kO n es=false):∃x,x<n∧inL (yQ n es n) x:=by
 apply Classical.byContradiction;intro hno;have:kO n es=true:=KI.2 fun x hx=>Classical.byContradiction fun h=>hno ⟨x,hx,Vv hin n hx h⟩;rw [ho] at this
 cases this
end
end Go.Proofs.YtneeknlhlkpnpaaGreat
namespace Go.Proofs.YtneeknlhlkpnpaaGreat
open Go.RowKit
def Ym(n i:Nat):List Bool:=List.replicate i true++List.replicate (n-i) false
theorem WG{n i:Nat}(h:i≤n):(Ym n i).length=n:=by simp [Ym];omega
theorem fR{n i:Nat}(h:i<n):(Ym n i).set i true=Ym n (i+1):=by
 unfold Ym;rw [List.set_append_right (h:=by simp),List.length_replicate,Nat.sub_self,show n-i=(n-(i+1))+1 by omega,List.replicate_succ,List.set_cons_zero,List.replicate_succ',List.append_assoc];rfl
def mY(n:Nat)(L:List Bool)(w:World)(e:Ending)(w':World):Prop:=∃g,e = .returned (.slice (some ⟨g,0,none⟩) n n)∧Below w.heap.size w w'∧Blk w' g 4 (jD L).toArray∧w.heap.size≤g
set_option maxRecDepth 20000 in
set_option maxHeartbeats 4000000 in
theorem mn(n:Nat)(A:Option Addr)(cap:Nat)(es:List (Int×Int))(w:World)(hes:jr w w.heap.size A (jA es))(hE:InN n es)(hn:n≤64)(hl:es.length≤1000) :
  Calls Tryz.prog 158 #[.agg #[.int .i64 n,.slice A es.length cap]] w (mY n (yQ n es n) w):=by
 have S1:=Lib.hid (SG.start n cap hes (rs:=[]) (C:=none) (fun h=>absurd h (by simp)));have HE:=Lib.hid hE;clear hes hE;have hmk:=fun W=>yz kw rfl n (by omega) (by omega) W
 go_enter Tryz.func158,Tryz.ntmps158
 go_upto_region 1 with fail
 generalize w.alloc (.cells #[.int .i64 n,.slice A es.length cap] 24)=w1 at *;have g0:=S1.out.g0;have g1:=S1.out.g1;have HB2:=Lib.hid (Blk.new w1 4 (Array.replicate n (.bool false)));have hb2:=(Below.refl w1.heap.size w1).alloc (Nat.le_refl _) (.cells (Array.replicate n (.bool false)) 4);have HBL2:=Lib.hid hb2;have hz2:=World.size_alloc w1 (.cells (Array.replicate n (.bool false)) 4);clear hb2
 go_upto_region 2 with fail
 obtain ⟨gL,hgL⟩:∃gL,gL=w1.heap.size:=⟨_,rfl⟩;rw [←hgL] at HB2 hz2 HBL2;rw [←hgL];generalize w1.alloc (.cells (Array.replicate n (.bool false)) 4)=w2 at *;have HGL:=Lib.hid hgL;have HL0:=Lib.hid (show Blk w2 gL 4 (jD (Ym n 0)).toArray by simpa [Ym,jD] using HB2.out);clear hgL HB2 g0 g1;go_wp2_with fail
 go_loopg [4] n (fun m s4 wr=>∃i:Nat,s4 = .int .i64 i∧i≤n∧m=n-i∧But [gL] w2 wr∧Blk wr gL 4 (jD (Ym n i)).toArray)
 case atStart=>exact ⟨0,rfl,Nat.zero_le _,rfl,But.refl _ _,HL0.out⟩
 case round=>
  obtain ⟨i,rfl,hi,hm,hb,hbl⟩:=hrel;have Hm:=Lib.hid hm;have HB:=Lib.hid hb;have HBL:=Lib.hid hbl;have hbw:=HBL2.out.trans (HB.out.below (B:=gL) (by omega) (by simp));have S3:=Lib.hid (S1.out.next (w':=wr) (by rw [←HGL.out];exact hbw));have HBW:=Lib.hid hbw;have g0:=S3.out.g0;clear hm hb hbl hbw;by_cases hil:i<n
  ·have hil':(i:Int)<n:=by omega
   have hlen:=WG (n:=n) (i:=i) hi;have cv:=HBL.out.bool (k:=i) (by omega);have fv:=HBL.out.frozen i;have HN:=Lib.hid (show Blk (wr.setCell ⟨gL,i,none⟩ (.bool true)) gL 4 (jD (Ym n (i+1))).toArray by rw [←fR hil];exact HBL.out.setBool i true);have HBN:=Lib.hid (HB.out.trans (But.set_ wr (show gL∈[gL] by simp) i (.bool true)));generalize (Ym n i).getD i false=v at *;clear hlen;go_wp2_with fail
   go_roundg (n-(i+1))
   case measure=>rw [Hm.out];omega
   case rel=>exact ⟨i+1,by go_num,by omega,rfl,HBN.out,HN.out⟩
  ·have hie:i=n:=by omega
   have hil':¬(i:Int)<n:=by omega
   have HL3:=Lib.hid (show Blk wr gL 4 (jD (yQ n es 0)).toArray by
    have h1:=HBL.out;rw [hie] at h1
    simpa [Ym,yQ] using h1)
   have hglw:=HBL.out.lt;have HGW:=Lib.hid (show w.heap.size≤gL by have:=S1.out.lt;have:=HGL.out;omega);clear hie HB HBL
   go_upto_region 6 with fail
   obtain ⟨w3,rfl⟩:∃y,y=wr:=⟨_,rfl⟩;go_wp2_with fail
   go_loopg [3,5] n (fun m s3 s5 wr=>∃(i g:Nat),s5 = .int .i64 i∧s3 = .slice (some ⟨g,0,none⟩) n n∧i≤n∧m=n-i∧gL≤g∧Below gL w1 wr∧Blk wr g 4 (jD (yQ n es i)).toArray)
   case atStart=>exact ⟨0,gL,rfl,rfl,Nat.zero_le _,rfl,Nat.le_refl _,HBW.out,HL3.out⟩
   case round=>
    obtain ⟨i,g,rfl,rfl,hi,hm,hgg,hb,hbl⟩:=hrel;have Hm:=Lib.hid hm;have HB:=Lib.hid hb;have HBL:=Lib.hid hbl;have S4:=Lib.hid (S1.out.next (w':=wr) (by rw [←HGL.out];exact hb));have g0:=S4.out.g0;have g1:=S4.out.g1;have hzg:gL≤wr.heap.size:=by have:=hbl.lt;omega
    clear hm hb hbl;by_cases hil:i<n
    ·have hil':(i:Int)<n:=by omega
     have hmk:=fun W=>yz kw rfl n (by omega) (by omega) W;have HN5:=Lib.hid (Blk.new wr 4 (Array.replicate n (.bool false)));have hb5:=(Below.refl wr.heap.size wr).alloc (Nat.le_refl _) (.cells (Array.replicate n (.bool false)) 4);have hz5:=World.size_alloc wr (.cells (Array.replicate n (.bool false)) 4);have HB5:=Lib.hid (HB.out.trans (hb5.mono hzg));have HBL5:=Lib.hid (HBL.out.below hb5 HBL.out.lt);have hgl:=HBL.out.lt;clear hb5
     go_upto_region 10 with fail
     obtain ⟨gN,hgN⟩:∃gN,gN=wr.heap.size:=⟨_,rfl⟩;rw [←hgN] at HN5 hz5 hgl;rw [←hgN];generalize wr.alloc (.cells (Array.replicate n (.bool false)) 4)=w5 at *;have HN0:=Lib.hid (show Blk w5 gN 4 (jD (xp n es (yQ n es i) 0)).toArray by rw [di];simpa [jD] using HN5.out);have hLl:=Zp (n:=n) (es:=es) i;have HLS:=Lib.hid (show yQ n es (i+1)=xp n es (yQ n es i) es.length from rfl);generalize yQ n es i=L at *;have hgz:gL≤gN:=by omega
     have HS5:=Lib.hid (S1.out.next (w':=w5) (by rw [←HGL.out];exact HB5.out));clear hgN hmk g0 g1 HN5;go_wp2_with fail
     go_loopg [7] es.length (fun m s7 wr=>∃j:Nat,s7 = .int .i64 j∧j≤es.length∧m=es.length-j∧But [gN] w5 wr∧Blk wr gN 4 (jD (xp n es L j)).toArray)
     case atStart=>exact ⟨0,rfl,Nat.zero_le _,rfl,But.refl _ _,HN0.out⟩
     case round=>
      obtain ⟨j,rfl,hj,hm2,hb,hbl⟩:=hrel;have Hm2:=Lib.hid hm2;have HBJ:=Lib.hid hb;have HBN:=Lib.hid hbl;have HB6:=Lib.hid (HB5.out.trans (hb.below (B:=gL) (by omega) (by simpa using hgz)));have S6:=Lib.hid (S1.out.next (w':=wr) (by rw [←HGL.out];exact HB6.out));have HBL6:=Lib.hid (hb.blk HBL5.out (by simp;omega));have g0:=S6.out.g0;have g1:=S6.out.g1;clear hm2 hb hbl;by_cases hjl:j<es.length
      ·have hjl':(j:Int)<es.length:=by omega
       obtain ⟨b,off,rfl,hbb,hcc⟩:=S6.out.es.edges (by omega);obtain ⟨c0,c1⟩:=hcc j hjl;obtain ⟨q0,q1,q2,q3⟩:=HE.out es[j] (List.getElem_mem hjl);obtain ⟨s,hs⟩:=Int.eq_ofNat_of_zero_le q0;obtain ⟨t,ht⟩:=Int.eq_ofNat_of_zero_le q2;have hs':es[j].1=(s:Int):=hs;have ht':es[j].2=(t:Int):=ht;have HHIT:=Lib.hid (fun h=>hJ (n:=n) (L:=L) hjl ht' h);have HMISS:=Lib.hid (fun h=>dj (n:=n) (L:=L) hjl ht' h);rw [hs',Int.toNat_natCast] at HHIT HMISS;rw [hs'] at c0;rw [ht'] at c1;have hsn:s<n:=by omega
       have htn:t<n:=by omega
       have hsn':(s:Int)<n:=by omega
       have htn':(t:Int)<n:=by omega
       have HE7:=Lib.hid (Blk.new wr 66 #[.int .i64 s,.int .i64 t]);have hb7:=(Below.refl wr.heap.size wr).alloc (Nat.le_refl _) (.cells #[.int .i64 s,.int .i64 t] 66);have HBJ7:=Lib.hid (HBJ.out.trans (But.of_below [gN] hb7 (Nat.le_refl _)));have HBL7:=Lib.hid (HBL6.out.below hb7 HBL6.out.lt);have HBN7:=Lib.hid (HBN.out.below hb7 HBN.out.lt);clear hcc q0 q1 q2 q3 hs ht hs' ht' hb7
       go_upto_region 14 with fail
       obtain ⟨gE,hgE⟩:∃gE,gE=wr.heap.size:=⟨_,rfl⟩;rw [←hgE] at HE7;rw [←hgE];generalize wr.alloc (.cells #[.int .i64 s,.int .i64 t] 66)=w7 at *;have e0:=HE7.out.cell 0;have e1:=HE7.out.cell 1;simp only [List.getElem?_toArray,List.getElem?_cons_zero,List.getElem?_cons_succ] at e0 e1;have ls:=HBL7.out.bool (k:=s) (by omega);have lt:=HBL7.out.bool (k:=t) (by omega);have nt:=HBN7.out.bool (k:=t) (by rw [Zm];exact htn);have fn:=HBN7.out.frozen t;obtain ⟨bs,hbs⟩:∃bs,bs=L.getD s false:=⟨_,rfl⟩;obtain ⟨bt,hbt⟩:∃bt,bt=L.getD t false:=⟨_,rfl⟩;rw [←hbs] at ls HHIT HMISS;rw [←hbt] at lt HHIT HMISS;obtain ⟨nv,hnv⟩:∃nv,nv=(xp n es L j).getD t false:=⟨_,rfl⟩;rw [←hnv] at nt;clear c0 c1 g0 g1 hgE hbs hbt hnv
       cases bs with
       | false=>
        have HN:=Lib.hid (show Blk w7 gN 4 (jD (xp n es L (j+1))).toArray by rw [HMISS.out rfl];exact HBN7.out);go_wp2_with fail
        go_roundg (es.length-(j+1))
        case measure=>rw [Hm2.out];omega
        case rel=>exact ⟨j+1,by go_num,by omega,rfl,HBJ7.out,HN.out⟩
       | true=>
        cases bt with
        | false=>
         have HN:=Lib.hid (show Blk w7 gN 4 (jD (xp n es L (j+1))).toArray by rw [HMISS.out rfl];exact HBN7.out);go_wp2_with fail
         go_roundg (es.length-(j+1))
         case measure=>rw [Hm2.out];omega
         case rel=>exact ⟨j+1,by go_num,by omega,rfl,HBJ7.out,HN.out⟩
        | true=>
         have HN:=Lib.hid (show Blk (w7.setCell ⟨gN,t,none⟩ (.bool true)) gN 4 (jD (xp n es L (j+1))).toArray by rw [←HHIT.out rfl];exact HBN7.out.setBool t true);have HBJ8:=Lib.hid (HBJ7.out.trans (But.set_ w7 (show gN∈[gN] by simp) t (.bool true)));go_wp2_with fail
         go_roundg (es.length-(j+1))
         case measure=>rw [Hm2.out];omega
         case rel=>exact ⟨j+1,by go_num,by omega,rfl,HBJ8.out,HN.out⟩
      ·have hje:j=es.length:=by omega
       have hjl':¬(j:Int)<es.length:=by omega
       have HNX:=Lib.hid (show Blk wr gN 4 (jD (yQ n es (i+1))).toArray by rw [HLS.out,←hje];exact HBN.out);clear hje;go_wp2_with fail
       go_roundg (n-(i+1))
       case measure=>rw [Hm.out];omega
       case rel=>exact ⟨i+1,gN,by go_num,rfl,by omega,rfl,hgz,HB6.out,HNX.out⟩
    ·have hie:i=n:=by omega
     have hil':¬(i:Int)<n:=by omega
     have HFIN:=Lib.hid (show Blk wr g 4 (jD (yQ n es n)).toArray by
      have h:=HBL.out;rw [hie] at h
      exact h)
     have hwg:w.heap.size≤g:=by have:=HGW.out;omega
     clear hie g1;go_wp2_with fail;go_ret;exact ⟨g,rfl,S4.out.below,HFIN.out,hwg⟩
end Go.Proofs.YtneeknlhlkpnpaaGreat
namespace Go.Proofs.YtneeknlhlkpnpaaGreat
open Go.RowKit
set_option maxRecDepth 20000 in
set_option maxHeartbeats 4000000 in
theorem da(n:Nat)(A:Option Addr)(cap:Nat)(es:List (Int×Int))(w:World)(hes:jr w w.heap.size A (jA es))(hE:InN n es)(hn:n≤64)(hl:es.length≤1000) :
  Calls Tryz.prog 123 #[.agg #[.int .i64 n,.slice A es.length cap]] w (Gx n es w):=by
 have S1:=Lib.hid (SG.start n cap hes (rs:=[]) (C:=none) (fun h=>absurd h (by simp)));have HE:=Lib.hid hE;clear hes hE;have HNO:=Lib.hid (fun ho x (hx:x<n)=>ii (es:=es) HE.out ho hx);have HBK:=Lib.hid (fun x (hx:x<n) h=>ij (es:=es) HE.out hx h);have HSO:=Lib.hid (fun ho=>ig (es:=es) HE.out ho);have hLl:=Zp (n:=n) (es:=es) n
 go_enter Tryz.func123,Tryz.ntmps123
 go_upto_region 1 with fail
 generalize w.alloc (.cells #[.int .i64 n,.slice A es.length cap] 24)=w1 at *;have g0:=S1.out.g0;have g1:=S1.out.g1;have hleft:=mn n A cap es w1 S1.out.es HE.out hn hl;generalize yQ n es n=L at *;go_wp2_with fail;refine hleft.mono ?_;rintro e w2 ⟨gL,rfl,hb2,hL2,_⟩;have S2:=Lib.hid (S1.out.next hb2);have HL:=Lib.hid hL2;clear hleft hb2 hL2 g0 g1;have g0:=S2.out.g0;have g1:=S2.out.g1;have hgl:=HL.out.lt;go_wp2_with fail
 go_loopg [4] n (fun m s4 wr=>∃i:Nat,s4 = .int .i64 i∧i≤n∧m=n-i∧w2=wr ∧ ∀j,j<i → ¬inL L j)
 case atStart=>exact ⟨0,rfl,Nat.zero_le _,rfl,rfl,fun j h=>absurd h (Nat.not_lt_zero _)⟩
 case round=>
  obtain ⟨i,rfl,hi,hm,rfl,hno⟩:=hrel;have Hm:=Lib.hid hm;have HN:=Lib.hid hno;clear hm hno
  have stop_none:i=n→Gx n es w (.returned (.slice none 0 0)) w2:=fun hie=>by
   refine ⟨none,0,0,rfl,S2.out.below,fun _=>rfl,fun ho=>?_,by omega⟩;obtain ⟨x,hx,h⟩:=HSO.out ho;exact absurd h (HN.out x (by omega))
  have HST:=Lib.hid stop_none;clear stop_none;by_cases hil:i<n
  ·have hil':(i:Int)<n:=by omega
   have cl:=HL.out.bool (k:=i) (by omega);have HIL:=Lib.hid (show inL L i↔L.getD i false=true from Iff.rfl);obtain ⟨b,hb⟩:∃b,b=L.getD i false:=⟨_,rfl⟩;rw [←hb] at cl HIL;clear hb
   cases b with
   | false=>
    have HN2:=Lib.hid (show ∀j,j<i+1 → ¬inL L j from fun j hj h=>by
     by_cases e:j=i
     ·subst e;have:=HIL.out.1 h;cases this
     ·exact HN.out j (by omega) h)
    go_wp2_with fail
    go_roundg (n-(i+1))
    case measure=>rw [Hm.out];omega
    case rel=>exact ⟨i+1,by go_num,by omega,rfl,rfl,HN2.out⟩
   | true=>
    have hL:inL L i:=HIL.out.2 rfl
    have HO:=Lib.hid (show kO n es=false by
     cases ho:kO n es with
     | false=>rfl
     | true=>exact absurd hL (HNO.out ho i hil))
    have hin:((i:Int)==(n:Int))=false:=by rw [beq_eq_false_iff_ne];omega
    have HLI:=Lib.hid hL;have HM1:=Lib.hid (show (w2.alloc (.cells #[] 3)).ownsRow w2.heap.size 3 1 (.slice (some ⟨w2.heap.size,0,none⟩) 0 0) 0 (jf []) from vx (xs:=[]) (Blk.new w2 3 #[]) (Nat.le_refl _) rfl (Nat.zero_le _));have HBM:=Lib.hid ((Below.refl w2.heap.size w2).alloc (Nat.le_refl _) (.cells #[] 3));clear hL
    go_upto_region 8 with fail
    obtain ⟨gW,hgW⟩:∃gW,gW=w2.heap.size:=⟨_,rfl⟩;rw [←hgW] at HM1 HBM hgl;rw [←hgW];generalize w2.alloc (.cells #[] 3)=w3 at *;have HGW:=Lib.hid hgW;have HWG:=Lib.hid (show w.heap.size≤gW by have:=S2.out.lt;omega);clear hgW g0 g1
    go_loopg [4,5] n (fun m s4 s5 wr=>∃(x:Nat) (way:List Nat),s4 = .int .i64 x∧x<n∧inL L x∧WayP n [] way∧m=n-way.length∧Below gW w2 wr∧gW≤wr.heap.size∧wr.ownsRow gW 3 1 s5 way.length (jf (Yq way)))
    case atStart=>exact ⟨i,[],rfl,hil,HLI.out,⟨List.nodup_nil,by simp⟩,rfl,HBM.out,by have:=HBM.out.size;have:=HGW.out;omega,HM1.out⟩
    case round=>
     obtain ⟨x,way,rfl,hx,hxL,hway,hm,hb,hzw,hown⟩:=hrel;have Hm2:=Lib.hid hm;have HXL:=Lib.hid hxL;have HWY:=Lib.hid hway;have HB:=Lib.hid hb;have HOW:=Lib.hid hown;obtain ⟨A5,c5,rfl⟩:=jv hown;have hwln:=kE hway.nd hway.lt;have HLN:=Lib.hid (VI way);have hhas:=eY A5 c5 (Yq way) x wr (jr.of_own HOW.out) (by rw [HLN.out];omega);rw [HLN.out] at hhas;have S3:=Lib.hid (S2.out.next (w':=wr) (by rw [←HGW.out];exact hb));clear hm hxL hway hb hown;go_wp2_with fail;refine hhas.mono ?_;rintro e w4 ⟨rfl,rfl⟩;by_cases hxw:x∈way
     ·obtain ⟨k,hk,hkl,hke⟩:=Gt (Zw.2 hxw);rw [HLN.out] at hkl;rw [hk] at hhas;rw [hk];obtain ⟨g,R,hA5,hgb,hgB,hR,hnc,hcm,hxl⟩:=Jo HOW.out (by omega);subst hA5;have hk0:(0:Int)≤k:=Int.natCast_nonneg k;have hk1:¬(k:Int)<0:=by omega
      have hkl':(k:Int)≤way.length:=by omega
      have hC5:=Lib.hid (jr.part hgB (i:=k));have hlm:((Yq way).drop k).length=way.length-k:=by rw [List.length_drop,HLN.out]
      obtain ⟨l5,hl5⟩:∃l5,l5=(Yq way).drop k:=⟨_,rfl⟩;rw [←hl5] at hlm hC5;clear hk hke hxw
      go_upto_region 17 with fail
      go_wp2_with fail;refine hhas.mono ?_;rintro e w5 ⟨rfl,rfl⟩;clear hhas
      go_upto_region 19 with fail
      obtain ⟨m,hm⟩:∃m,m=way.length-k:=⟨_,rfl⟩;obtain ⟨c6,hc6⟩:∃c6,c6=c5-k:=⟨_,rfl⟩;rw [←hm] at hlm;rw [←hm,←hc6];have hm0:0<m:=by omega
      have hm1:m≤64:=by omega
      obtain ⟨w4,rfl⟩:∃y,y=wr:=⟨_,rfl⟩;clear hm hc6 hl5 hgB HOW;go_wp2_with fail
      go_loopg [8,9] m (fun q s8 s9 wr=>∃a b:Nat,s9 = .int .i64 a∧s8 = .int .i64 b∧a≤m∧b<m∧q=m-a∧Below w4.heap.size w4 wr)
      case atStart=>exact ⟨0,0,rfl,rfl,Nat.zero_le _,hm0,rfl,Below.refl _ _⟩
      case round=>
       obtain ⟨a,b,rfl,rfl,ha,hbm,hq,hbw⟩:=hrel;have Hq:=Lib.hid hq;have HBW:=Lib.hid hbw;clear hq hbw;obtain ⟨b5,o5,e5,hb5,hc5⟩:=(hC5.out.below HBW.out).ints (by omega);injection e5 with e5;injection e5 with e6 e7 _;subst e6 e7;by_cases hal:a<m
       ·have hal':(a:Int)<m:=by omega
        have hbm':(b:Int)<m:=by omega
        have ca:=hc5 a (by omega);have cb:=hc5 b (by omega);generalize l5[a]'(by omega)=va at *;generalize l5[b]'(by omega)=vb at *;clear hc5;by_cases hv:va<vb
        ·have hv':decide (va<vb)=true:=decide_eq_true hv;clear hv;go_wp2_with fail
         go_quiet (fail)
         have HBN:=Lib.hid (below_drewN HBW.out nq);go_wp2_with fail
         go_roundg (m-(a+1))
         case measure=>rw [Hq.out];omega
         case rel=>exact ⟨a+1,a,by go_num,rfl,by omega,hal,rfl,HBN.out⟩
        ·have hv':decide (va<vb)=false:=decide_eq_false hv;clear hv;go_wp2_with fail
         go_quiet (fail)
         have HBN:=Lib.hid (below_drewN HBW.out nq);go_wp2_with fail
         go_roundg (m-(a+1))
         case measure=>rw [Hq.out];omega
         case rel=>exact ⟨a+1,b,by go_num,rfl,by omega,hbm,rfl,HBN.out⟩
       ·have hae:a=m:=by omega
        have hal':¬(a:Int)<m:=by omega
        clear hae hc5
        go_upto_region 24 with fail
        obtain ⟨w5,rfl⟩:∃y,y=wr:=⟨_,rfl⟩;have HM6:=Lib.hid (show (w5.alloc (.cells #[] 3)).ownsRow w5.heap.size 3 1 (.slice (some ⟨w5.heap.size,0,none⟩) 0 0) 0 (jf []) from vx (xs:=[]) (Blk.new w5 3 #[]) (Nat.le_refl _) rfl (Nat.zero_le _));have HB6:=Lib.hid ((Below.refl w5.heap.size w5).alloc (Nat.le_refl _) (.cells #[] 3));have hC6:=Lib.hid ((hC5.out.below HBW.out).more HBW.out.size);have HBT:=Lib.hid (S3.out.below.trans (HBW.out.mono (Nat.le_of_lt S3.out.lt)));have hza:=World.size_alloc w5 (.cells #[] 3)
        go_upto_region 25 with fail
        obtain ⟨gO,hgO⟩:∃gO,gO=w5.heap.size:=⟨_,rfl⟩;rw [←hgO] at HM6 HB6 hC6 hza;rw [←hgO];generalize w5.alloc (.cells #[] 3)=w6 at *;have HGO:=Lib.hid hgO;clear hgO;go_wp2_with fail
        go_loopg [10,11] m (fun q s10 s11 wr=>∃(a:Nat) (P:List Int),s11 = .int .i64 a∧a≤m∧P.length=a∧q=m-a∧Below gO w5 wr∧gO≤wr.heap.size∧wr.ownsRow gO 3 1 s10 a (jf P))
        case atStart=>exact ⟨0,[],rfl,Nat.zero_le _,rfl,rfl,HB6.out,by omega,HM6.out⟩
        case round=>
         obtain ⟨a,P,rfl,ha,hP,hq,hbw,hzg,hown⟩:=hrel;have Hq2:=Lib.hid hq;have HBX:=Lib.hid hbw;have HOX:=Lib.hid hown;have HPL:=Lib.hid hP;obtain ⟨A10,c10,rfl⟩:=jv hown;clear hq hbw hown hP;by_cases hal:a<m
         ·have hal':(a:Int)<m:=by omega
          have hw1:IntKind.i64.wrap ((b:Int)+(m:Int))=((b+m:Nat):Int):=by rw [IntKind.wrap_i64];omega
          have hw2:IntKind.i64.wrap (((b+m:Nat):Int)-(a:Int))=((b+m-a:Nat):Int):=by rw [IntKind.wrap_i64];omega
          have hmz:¬(m:Int)=0:=by omega
          have hmz':((m:Int)==0)=false:=by rw [beq_eq_false_iff_ne];exact hmz
          have hdm:(b+m-a)%m<m:=Nat.mod_lt _ hm0;have hd0':(0:Int)≤((b:Int)+(m:Int)-(a:Int))%(m:Int):=Int.emod_nonneg _ hmz;have hdm':((b:Int)+(m:Int)-(a:Int))%(m:Int)<(m:Int):=Int.emod_lt_of_pos _ (by omega);obtain ⟨b7,o7,e7,hb7,hc7⟩:=(hC6.out.below HBX.out).ints (by omega);injection e7 with e7;injection e7 with e8 e9 _;subst e8 e9;have cd:=hc7 ((b+m-a)%m) (by omega);generalize l5[(b+m-a)%m]'(by omega)=vd at *;clear hc7;go_wp2_with (at_builtin;refine yC qz rfl _ _ rfl gO (.slice A10 a c10) _ _ rfl wr.heap.size [.int .i64 vd] rfl rfl HOX.out rfl rfl ?h2 ?h3 ?h4 ?_)
          case h2=>omega
          case h3=>omega
          try (case h4=>omega)
          intro v7 w7 ho7 hg7 _;have HB7:=Lib.hid (qb HBX.out HOX.out hg7 hzg (Nat.le_refl _));have HO7:=Lib.hid (show w7.ownsRow gO 3 1 v7 (a+1) (jf (P++[vd])) by simpa [jf] using ho7);have hz7:gO≤w7.heap.size:=by have:=hg7.size;omega
          clear ho7 hg7;go_wp2_with fail
          go_roundg (m-(a+1))
          case measure=>rw [Hq2.out];omega
          case rel=>exact ⟨a+1,P++[vd],by go_num,by omega,by rw [List.length_append,List.length_singleton,HPL.out],rfl,HB7.out,hz7,HO7.out⟩
         ·have hae:a=m:=by omega
          subst hae;have hal':¬(a:Int)<a:=by omega
          have HBF:=Lib.hid (HBT.out.trans (HBX.out.mono (by have:=HBT.out.size;have:=HGO.out;omega)));have HOO:=Lib.hid HO.out;clear hal;go_wp2_with fail;go_ret;refine ⟨_,a,_,rfl,HBF.out,fun h=>?_,fun _=>hm0,by omega⟩;rw [HOO.out] at h
          cases h
     ·rw [bB (fun h=>hxw (Zw.1 h))]
      have HWY2:=Lib.hid (show WayP n [] (way++[x]) from ⟨List.nodup_append.2 ⟨HWY.out.nd,by simp,fun a ha b hb e=>by
       rw [List.mem_singleton] at hb;subst hb
       exact hxw (e▸ha)⟩,fun a ha=>by
       rcases List.mem_append.1 ha with h | h
       ·exact HWY.out.lt a h
       ·rw [List.mem_singleton] at h;rw [h];exact hx⟩)
      have hwl2:=kE HWY2.out.nd HWY2.out.lt;rw [List.length_append,List.length_singleton] at hwl2;clear hxw hhas;go_wp2_with (at_builtin;refine yC qz rfl _ _ rfl gW (.slice A5 way.length c5) _ _ rfl wr.heap.size [.int .i64 (x:Int)] rfl rfl HOW.out rfl rfl ?y2 ?y3 ?y4 ?_)
      case y2=>omega
      case y3=>omega
      try (case y4=>omega)
      intro v5 w5 ho5 hg5 _;obtain ⟨A6,c6,rfl⟩:=jv ho5;have HB5:=Lib.hid (qb HB.out HOW.out hg5 hzw (Nat.le_refl _))
      have HO5:=Lib.hid (show w5.ownsRow gW 3 1 (.slice A6 (way.length+1) c6) (way++[x]).length (jf (Yq (way++[x]))) by
       rw [List.length_append,List.length_singleton]
       simpa [jf,Yq] using ho5)
      have hz5:gW≤w5.heap.size:=by have:=hg5.size;omega
      have S5:=Lib.hid (S2.out.next (w':=w5) (by rw [←HGW.out];exact HB5.out));have HL5:=Lib.hid (HL.out.below HB5.out hgl);have g0:=S5.out.g0;have g1:=S5.out.g1;have HBKX:=Lib.hid (HBK.out x hx HXL.out);clear ho5 hg5
      go_upto_region 11 with fail
      go_wp2_with fail
      go_loopg [6,7] es.length (fun q s6 s7 wr=>∃j bk:Nat,s7 = .int .i64 j∧s6 = .int .i64 bk∧j≤es.length∧q=es.length-j∧w5=wr∧(bk=n∨(bk<n∧inL L bk))∧(bk=n → ∀j',j'<j → ∀t:Nat,(es.getD j' (0,0)).2=(x:Int)→(es.getD j' (0,0)).1=(t:Int)→t<n → ¬inL L t))
      case atStart=>exact ⟨0,n,rfl,rfl,Nat.zero_le _,rfl,rfl,.inl rfl,fun _ j' h=>absurd h (Nat.not_lt_zero _)⟩
      case round=>
       obtain ⟨j,bk,rfl,rfl,hj,hq,rfl,hbk,hno⟩:=hrel;have Hq:=Lib.hid hq;have HBKJ:=Lib.hid hbk;have HNJ:=Lib.hid hno;clear hq hbk hno;by_cases hjl:j<es.length
       ·have hjl':(j:Int)<es.length:=by omega
        obtain ⟨b,off,rfl,hbb,hcc⟩:=S5.out.es.edges (by omega);obtain ⟨c0,c1⟩:=hcc j hjl;have hge:es.getD j (0,0)=es[j]:=by rw [List.getD_eq_getElem?_getD,List.getElem?_eq_getElem hjl];rfl
        obtain ⟨q0,q1,q2,q3⟩:=HE.out es[j] (List.getElem_mem hjl);obtain ⟨t,ht⟩:=Int.eq_ofNat_of_zero_le q0;have ht':es[j].1=(t:Int):=ht;rw [ht'] at c0;have htn:t<n:=by omega
        have htn':(t:Int)<n:=by omega
        have HY:=Lib.hid (show (es[j].2=(x:Int) → ¬inL L t)→(bk=n → ∀j',j'<j+1 → ∀t:Nat,(es.getD j' (0,0)).2=(x:Int)→(es.getD j' (0,0)).1=(t:Int)→t<n → ¬inL L t) from fun h hb j' hj' t2 h1 h2 h3=>by
         by_cases e:j'=j
         ·subst e;rw [hge] at h1 h2;rw [ht'] at h2;have:t2=t:=by omega
          subst this;exact h h1
         ·exact HNJ.out hb j' (by omega) t2 h1 h2 h3)
        have lt:=HL5.out.bool (k:=t) (by omega);have HIL2:=Lib.hid (show inL L t↔L.getD t false=true from Iff.rfl);obtain ⟨lb,hlb⟩:∃lb,lb=L.getD t false:=⟨_,rfl⟩;rw [←hlb] at lt HIL2;obtain ⟨hv,hhv⟩:∃hv,hv=es[j].2:=⟨_,rfl⟩;rw [←hhv] at c1 HY;clear hcc q0 q1 q2 q3 ht ht' hge hlb hhv;by_cases hvx:hv=(x:Int)
        ·have hvx':(hv==(x:Int))=true:=by rw [hvx];simp
         cases lb with
         | true=>
          have HLT:=Lib.hid (HIL2.out.2 rfl);clear hvx;by_cases htb:(t:Int)<bk
          ·have hbt:bk≤n:=by rcases HBKJ.out with h | h<;>omega
           go_wp2_with fail
           go_roundg (es.length-(j+1))
           case measure=>rw [Hq.out];omega
           case rel=>exact ⟨j+1,t,by go_num,rfl,by omega,rfl,rfl,.inr ⟨htn,HLT.out⟩,fun h=>absurd h (by omega)⟩
          ·have HBL2:=Lib.hid (show bk≠n by omega);go_wp2_with fail
           go_roundg (es.length-(j+1))
           case measure=>rw [Hq.out];omega
           case rel=>exact ⟨j+1,bk,by go_num,rfl,by omega,rfl,rfl,HBKJ.out,fun h=>absurd h HBL2.out⟩
         | false=>
          have HY2:=Lib.hid (HY.out fun _ h=>by have:=HIL2.out.1 h;cases this);clear hvx;go_wp2_with fail
          go_roundg (es.length-(j+1))
          case measure=>rw [Hq.out];omega
          case rel=>exact ⟨j+1,bk,by go_num,rfl,by omega,rfl,rfl,HBKJ.out,HY2.out⟩
        ·have hvx':(hv==(x:Int))=false:=by rw [beq_eq_false_iff_ne];exact hvx
         have HY2:=Lib.hid (HY.out fun h=>absurd h hvx);clear hvx;go_wp2_with fail
         go_roundg (es.length-(j+1))
         case measure=>rw [Hq.out];omega
         case rel=>exact ⟨j+1,bk,by go_num,rfl,by omega,rfl,rfl,HBKJ.out,HY2.out⟩
       ·have hje:j=es.length:=by omega
        have hjl':¬(j:Int)<es.length:=by omega
        have HT:=Lib.hid (show bk<n∧inL L bk by
         rcases HBKJ.out with h | h
         ·exfalso;obtain ⟨i2,t,h1,h2,h3,h4,h5⟩:=HBKX.out;exact HNJ.out h i2 (by omega) t h2 h3 h4 h5
         ·exact h)
        clear hje;go_wp2_with fail
        go_roundg (n-(way.length+1))
        case measure=>rw [Hm2.out];omega
        case rel=>exact ⟨bk,way++[x],rfl,HT.out.1,HT.out.2,HWY2.out,by rw [List.length_append,List.length_singleton],HB5.out,hz5,HO5.out⟩
  ·have hie:i=n:=by omega
   have hil':¬(i:Int)<n:=by omega
   have hin:((i:Int)==(n:Int))=true:=by rw [hie];simp
   have HS:=Lib.hid (HST.out hie);clear hie;go_wp2_with fail;go_ret;exact HS.out
end Go.Proofs.YtneeknlhlkpnpaaGreat
namespace Go.Proofs.YtneeknlhlkpnpaaGreat
open Go.RowKit
def mX(n:Int)(es:List (Int×Int))(w:World)(e:Ending)(w':World):Prop:=∃c a v,e = .returned (.tuple #[.int .i64 c,.int .i64 a,v])∧Below w.heap.size w w'∧(c=0↔GoodP n es)
set_option maxRecDepth 20000 in
set_option maxHeartbeats 4000000 in
theorem db(n:Int)(A:Option Addr)(cap:Nat)(es:List (Int×Int))(w:World)(hes:jr w w.heap.size A (jA es)) :
  Calls Tryz.prog 76 #[.agg #[.int .i64 n,.slice A es.length cap]] w (mX n es w):=by
 have S1:=Lib.hid (SG.start n cap hes (rs:=[]) (C:=none) (fun h=>absurd h (by simp)));clear hes
 go_enter Tryz.func76,Tryz.ntmps76
 go_upto_region 1 with fail
 generalize w.alloc (.cells #[.int .i64 n,.slice A es.length cap] 24)=w1 at *;have g0:=S1.out.g0;have g1:=S1.out.g1;go_wp2_with fail;refine (XW n A cap es w1 S1.out.es).mono ?_;rintro e w2 ⟨rfl,hb2⟩;have S2:=Lib.hid (S1.out.next hb2);clear hb2 g0 g1;have g0:=S2.out.g0;have g1:=S2.out.g1
 cases hm:vj n es with
 | false=>
  have HN:=Lib.hid (show ¬GoodP n es from fun h=>by rw [h.may] at hm;cases hm);clear hm;go_wp2_with fail;go_ret3;exact ⟨_,_,_,rfl,S2.out.below,fun h=>absurd h (by decide),fun h=>absurd h HN.out⟩
 | true=>
  obtain ⟨hn0,hn1,hem⟩:=jP hm;obtain ⟨N,rfl⟩:∃N:Nat,n=N:=⟨n.toNat,by omega⟩;have HIN:=Lib.hid (kq hm);have HM:=Lib.hid hm;clear hm;go_wp2_with fail
  go_loopg [5] es.length (fun q s5 wr=>∃i:Nat,s5 = .int .i64 i∧i≤es.length∧q=es.length-i∧Below w2.heap.size w2 wr ∧ ∀j,j<i→(es.getD j (0,0)).1≠(es.getD j (0,0)).2)
  case atStart=>exact ⟨0,rfl,Nat.zero_le _,rfl,Below.refl _ _,fun j h=>absurd h (Nat.not_lt_zero _)⟩
  case round=>
   obtain ⟨i,rfl,hi,hq,hb,hno⟩:=hrel;have Hq:=Lib.hid hq;have HB:=Lib.hid hb;have HLP:=Lib.hid hno;have S3:=Lib.hid (S2.out.next hb);clear hq hb hno g0 g1;have g0:=S3.out.g0;have g1:=S3.out.g1;by_cases hil:i<es.length
   ·have hil':(i:Int)<es.length:=by omega
    obtain ⟨be,oe,rfl,hbe,hce⟩:=S3.out.es.edges (by omega);obtain ⟨c0,c1⟩:=hce i hil;have hge:es.getD i (0,0)=es[i]:=by rw [List.getD_eq_getElem?_getD,List.getElem?_eq_getElem hil];rfl
    have HV:=Lib.hid (show es.getD i (0,0)=(es[i].1,es[i].2) from hge);obtain ⟨p,hp⟩:∃p,p=es[i].1:=⟨_,rfl⟩;obtain ⟨r,hr⟩:∃r,r=es[i].2:=⟨_,rfl⟩;rw [←hp] at c0 HV;rw [←hr] at c1 HV;clear hce hp hr hge;by_cases hpr:p=r
    ·have hpr':(p==r)=true:=by rw [hpr];simp
     have HN:=Lib.hid (show ¬GoodP N es from fun h=>h.loop i hil (by rw [HV.out];exact hpr));clear hpr;go_wp2_with fail
     go_quiet (fail)
     have S4:=Lib.hid (S3.out.drewN nq);go_wp2_with fail;go_ret3;exact ⟨_,_,_,rfl,S4.out.below,fun h=>absurd h (by decide),fun h=>absurd h HN.out⟩
    ·have hpr':(p==r)=false:=by rw [beq_eq_false_iff_ne];exact hpr
     have HL2:=Lib.hid (show ∀j,j<i+1→(es.getD j (0,0)).1≠(es.getD j (0,0)).2 from fun j hj=>by
      by_cases e:j=i
      ·subst e;rw [HV.out];exact hpr
      ·exact HLP.out j (by omega))
     clear hpr;go_wp2_with fail
     go_quiet (fail)
     have HBN:=Lib.hid (below_drewN HB.out nq);go_wp2_with fail
     go_roundg (es.length-(i+1))
     case measure=>rw [Hq.out];omega
     case rel=>exact ⟨i+1,by go_num,by omega,rfl,HBN.out,HL2.out⟩
   ·have hie:i=es.length:=by omega
    have hil':¬(i:Int)<es.length:=by omega
    have HLP2:=Lib.hid (show ∀j,j<es.length→(es.getD j (0,0)).1≠(es.getD j (0,0)).2 from fun j hj=>HLP.out j (by omega));clear hie
    go_upto_region 8 with fail
    obtain ⟨w3,rfl⟩:∃y,y=wr:=⟨_,rfl⟩;go_wp2_with fail
    go_loopg [6] es.length (fun q s6 wr=>∃i:Nat,s6 = .int .i64 i∧i≤es.length∧q=es.length-i∧Below w3.heap.size w3 wr ∧ ∀i',i'<i → ∀j,j<i'→es.getD j (0,0)≠es.getD i' (0,0))
    case atStart=>exact ⟨0,rfl,Nat.zero_le _,rfl,Below.refl _ _,fun j h=>absurd h (Nat.not_lt_zero _)⟩
    case round=>
     obtain ⟨i,rfl,hi,hq,hb,htw⟩:=hrel;have Hq:=Lib.hid hq;have HB:=Lib.hid hb;have HTW:=Lib.hid htw;have S4:=Lib.hid (S3.out.next hb);clear hq hb htw g0 g1;have g0:=S4.out.g0;have g1:=S4.out.g1;by_cases hil:i<es.length
     ·have hil':(i:Int)<es.length:=by omega
      go_upto_region 12 with fail
      obtain ⟨w4,rfl⟩:∃y,y=wr:=⟨_,rfl⟩
      go_loopg [7] i (fun q s7 wr=>∃j:Nat,s7 = .int .i64 j∧j≤i∧q=i-j∧Below w4.heap.size w4 wr ∧ ∀j',j'<j→es.getD j' (0,0)≠es.getD i (0,0))
      case atStart=>exact ⟨0,rfl,Nat.zero_le _,rfl,Below.refl _ _,fun j h=>absurd h (Nat.not_lt_zero _)⟩
      case round=>
       obtain ⟨j,rfl,hj,hq,hb,hne⟩:=hrel;have Hq2:=Lib.hid hq;have HBJ:=Lib.hid hb;have HNE:=Lib.hid hne;have S5:=Lib.hid (S4.out.next hb);clear hq hb hne g0 g1;have g0:=S5.out.g0;have g1:=S5.out.g1;by_cases hjl:j<i
       ·have hjl':(j:Int)<i:=by omega
        have hjl2:(j:Int)<es.length:=by omega
        have hje:j<es.length:=by omega
        obtain ⟨be,oe,rfl,hbl,hce⟩:=S5.out.es.edges (by omega);obtain ⟨a0,a0b⟩:=hce j hje;obtain ⟨b0,b0b⟩:=hce i hil;have HVJ:=Lib.hid (show es.getD j (0,0)=(es[j].1,es[j].2) by rw [List.getD_eq_getElem?_getD,List.getElem?_eq_getElem hje];rfl);have HVI:=Lib.hid (show es.getD i (0,0)=(es[i].1,es[i].2) by rw [List.getD_eq_getElem?_getD,List.getElem?_eq_getElem hil];rfl);obtain ⟨a1,ha1⟩:∃p,p=es[j].1:=⟨_,rfl⟩;obtain ⟨a2,ha2⟩:∃p,p=es[j].2:=⟨_,rfl⟩;obtain ⟨b1,hb1⟩:∃p,p=es[i].1:=⟨_,rfl⟩;obtain ⟨b2,hb2⟩:∃p,p=es[i].2:=⟨_,rfl⟩;rw [←ha1] at a0 HVJ;rw [←ha2] at a0b HVJ;rw [←hb1] at b0 HVI;rw [←hb2] at b0b HVI;have hlg:=S5.out.lt;clear hce ha1 ha2 hb1 hb2
        go_upto_region 14 with fail
        refine R3.wp_region_i wr.heap.size [[]] [0,0,0,0,0,0,0,0,0,0,0]
         [([],.val (.pointer (some ⟨w.heap.size,1,none⟩))),([0],.val (.slice (some ⟨be,oe,none⟩) es.length cap)),([],.val (.int .i64 j)),([1,2],.val (.pointer (some ⟨be,oe+j*2,none⟩))),([3],.val (.agg #[.int .i64 a1,.int .i64 a2])),([],.val (.pointer (some ⟨w.heap.size,1,none⟩))),([5],.val (.slice (some ⟨be,oe,none⟩) es.length cap)),([],.val (.int .i64 i)),([6,7],.val (.pointer (some ⟨be,oe+i*2,none⟩))),([8],.val (.agg #[.int .i64 b1,.int .i64 b2])),([4,9],.val (.bool (decide (a1=b1)&&decide (a2=b2))))] [10] (by kernel_rfl) (by kernel_rfl) (fun us=>?_) ?_
        ·refine R3.pgo_pure _ rfl rfl (fun wv hw hu=>⟨.pointer (some ⟨w.heap.size,1,none⟩),?_,rfl⟩) ?_
         ·have tok:=True.intro;clear hw hu;go_simp
         refine R3.pgo_pure _ rfl rfl (fun wv hw hu=>⟨.slice (some ⟨be,oe,none⟩) es.length cap,?_,rfl⟩) ?_
         ·have tok:=True.intro;have h0:us 0 = .pointer (some ⟨w.heap.size,1,none⟩):=hu.1;have zy:=((yG (by kernel_rfl) hw).cell (p:=⟨w.heap.size,1,none⟩) hlg).trans g1;clear hw hu;go_simp
         refine R3.pgo_pure _ rfl rfl (fun wv hw hu=>⟨.int .i64 j,?_,rfl⟩) ?_
         ·have tok:=True.intro;clear hw hu;go_simp
         refine R3.pgo_pure _ rfl rfl (fun wv hw hu=>⟨.pointer (some ⟨be,oe+j*2,none⟩),?_,rfl⟩) ?_
         ·have tok:=True.intro;have h1:us 1 = .slice (some ⟨be,oe,none⟩) es.length cap:=hu.1;have h2:us 2 = .int .i64 j:=hu.2.1;clear hw hu;go_simp
         refine R3.pgo_pure _ rfl rfl (fun wv hw hu=>⟨.agg #[.int .i64 a1,.int .i64 a2],?_,rfl⟩) ?_
         ·have tok:=True.intro;have h3:us 3 = .pointer (some ⟨be,oe+j*2,none⟩):=hu.1;have d0:=((yG (by kernel_rfl) hw).cell (p:=⟨be,oe+j*2,none⟩) hbl).trans a0;have d1:=((yG (by kernel_rfl) hw).cell (p:=⟨be,oe+j*2+1,none⟩) hbl).trans a0b;clear hw hu;go_simp
         refine R3.pgo_pure _ rfl rfl (fun wv hw hu=>⟨.pointer (some ⟨w.heap.size,1,none⟩),?_,rfl⟩) ?_
         ·have tok:=True.intro;clear hw hu;go_simp
         refine R3.pgo_pure _ rfl rfl (fun wv hw hu=>⟨.slice (some ⟨be,oe,none⟩) es.length cap,?_,rfl⟩) ?_
         ·have tok:=True.intro;have h5:us 5 = .pointer (some ⟨w.heap.size,1,none⟩):=hu.1;have zy:=((yG (by kernel_rfl) hw).cell (p:=⟨w.heap.size,1,none⟩) hlg).trans g1;clear hw hu;go_simp
         refine R3.pgo_pure _ rfl rfl (fun wv hw hu=>⟨.int .i64 i,?_,rfl⟩) ?_
         ·have tok:=True.intro;clear hw hu;go_simp
         refine R3.pgo_pure _ rfl rfl (fun wv hw hu=>⟨.pointer (some ⟨be,oe+i*2,none⟩),?_,rfl⟩) ?_
         ·have tok:=True.intro;have h6:us 6 = .slice (some ⟨be,oe,none⟩) es.length cap:=hu.1;have h7:us 7 = .int .i64 i:=hu.2.1;clear hw hu;go_simp
         refine R3.pgo_pure _ rfl rfl (fun wv hw hu=>⟨.agg #[.int .i64 b1,.int .i64 b2],?_,rfl⟩) ?_
         ·have tok:=True.intro;have h8:us 8 = .pointer (some ⟨be,oe+i*2,none⟩):=hu.1;have d0:=((yG (by kernel_rfl) hw).cell (p:=⟨be,oe+i*2,none⟩) hbl).trans b0;have d1:=((yG (by kernel_rfl) hw).cell (p:=⟨be,oe+i*2+1,none⟩) hbl).trans b0b;clear hw hu;go_simp
         refine R3.pgo_pure _ rfl rfl (fun wv hw hu=>⟨.bool (decide (a1=b1)&&decide (a2=b2)),?_,rfl⟩) ?_
         ·have tok:=True.intro;have h4:us 4 = .agg #[.int .i64 a1,.int .i64 a2]:=hu.1;have h9:us 9 = .agg #[.int .i64 b1,.int .i64 b2]:=hu.2.1;clear hw hu;go_simp;by_cases h1:a1=b1<;>by_cases h2:a2=b2<;>simp [h1,h2]
         trivial
        ·intro us w5 hw hu;have h10:us 10 = .bool (decide (a1=b1)&&decide (a2=b2)):=hu.1;have HBK:=Lib.hid (HBJ.out.trans ((yZ (yG (by kernel_rfl) hw)).mono HBJ.out.size));have S6:=Lib.hid (S4.out.next HBK.out);clear hw hu;simp only [kx];go_simp;by_cases h1:a1=b1∧a2=b2
         ·have HN:=Lib.hid (show ¬GoodP N es from fun h=>h.twice i hil j hjl (by rw [HVJ.out,HVI.out,h1.1,h1.2]));rw [decide_eq_true h1.1,decide_eq_true h1.2,Bool.and_true];clear h1 h10;go_wp2_with fail;go_ret3;exact ⟨_,_,_,rfl,S6.out.below,fun h=>absurd h (by decide),fun h=>absurd h HN.out⟩
         ·have HN2:=Lib.hid (show ∀j',j'<j+1→es.getD j' (0,0)≠es.getD i (0,0) from fun j' hj' e=>by
           by_cases h:j'=j
           ·subst h;rw [HVJ.out,HVI.out] at e;injection e with e1 e2;exact h1 ⟨e1,e2⟩
           ·exact HNE.out j' (by omega) e)
          have hdf:(decide (a1=b1)&&decide (a2=b2))=false:=by
           rw [Bool.and_eq_false_iff,decide_eq_false_iff_not,decide_eq_false_iff_not];exact Classical.not_and_iff_not_or_not.1 h1
          rw [hdf];clear h1 h10 hdf;go_wp2_with fail
          go_roundg (i-(j+1))
          case measure=>rw [Hq2.out];omega
          case rel=>exact ⟨j+1,by go_num,by omega,rfl,HBK.out,HN2.out⟩
       ·have hje:j=i:=by omega
        have hjl':¬(j:Int)<i:=by omega
        have HB2:=Lib.hid (HB.out.trans (HBJ.out.mono HB.out.size))
        have HTW2:=Lib.hid (show ∀i',i'<i+1 → ∀j,j<i'→es.getD j (0,0)≠es.getD i' (0,0) from fun i' hi' j' hj'=>by
         by_cases h:i'=i
         ·subst h;exact HNE.out j' (by omega)
         ·exact HTW.out i' (by omega) j' hj')
        clear hje;go_wp2_with fail
        go_roundg (es.length-(i+1))
        case measure=>rw [Hq.out];omega
        case rel=>exact ⟨i+1,by go_num,by omega,rfl,HB2.out,HTW2.out⟩
     ·have hie:i=es.length:=by omega
      have hil':¬(i:Int)<es.length:=by omega
      have HTW2:=Lib.hid (show ∀i',i'<es.length → ∀j,j<i'→es.getD j (0,0)≠es.getD i' (0,0) from fun i' h=>HTW.out i' (by omega));have hN1:N≤64:=by omega
      have heL:es.length≤1000:=by omega
      clear hie
      go_upto_region 16 with fail
      go_wp2_with fail;refine (da N A cap es wr S4.out.es HIN.out hN1 heL).mono ?_;rintro e w7 ⟨A7,L7,c7,rfl,hb7,hc1,hc2,hc3⟩;have S7:=Lib.hid (S4.out.next hb7);clear hb7 g0 g1;have g0:=S7.out.g0;have g1:=S7.out.g1
      cases ho:kO N es with
      | false=>
       have hL:(L7:Int)>0:=by have:=hc2 ho;omega
       have hL':decide ((L7:Int)>0)=true:=decide_eq_true hL
       have HNG:=Lib.hid (show ¬GoodP N es from fun h=>by
        have:=h.ord;rw [Int.toNat_natCast,ho] at this
        cases this)
       clear hc1 hc2 ho;go_wp2_with fail;go_ret3;exact ⟨_,_,_,rfl,S7.out.below,fun h=>absurd h (by decide),fun h=>absurd h HNG.out⟩
      | true=>
       have hL:L7=0:=hc1 ho;subst hL;have HO:=Lib.hid ho;clear hc1 hc2 ho;go_wp2_with fail;refine (Qp N A cap es true w7 S7.out.es heL (by omega)).mono ?_;rintro e w8 ⟨v8,rfl,hb8,ho8⟩;rw [if_pos rfl] at ho8;obtain ⟨A8,c8,rfl⟩:=jv ho8;have S8:=Lib.hid (S7.out.next hb8);have hsl:(qU N es Prod.snd).length=(xg N es Prod.snd).length:=by simp [qU]
       have hsle:=Jr N es Prod.snd
       have hoc:(qU N es Prod.snd).length≤c8:=by
        rcases Nat.eq_zero_or_pos (qU N es Prod.snd).length with h | h
        ·omega
        ·obtain ⟨_,_,_,_,_,_,h5,_⟩:=Jo ho8 h;exact h5
       rw [hsl] at hoc;rw [hsl];obtain ⟨L8,hL8⟩:∃L8,L8=(xg N es Prod.snd).length:=⟨_,rfl⟩;rw [←hL8] at hoc hsle;rw [←hL8];have HL8:=Lib.hid hL8;clear hb8 ho8 hsl hL8;by_cases h2:(L8:Int)>1
       ·have h2':decide ((L8:Int)>1)=true:=decide_eq_true h2;have hc8:(2:Int)≤c8:=by omega
        have hc8':2≤c8:=by omega
        have HNG:=Lib.hid (show ¬GoodP N es from fun h=>by
         have:=h.src;rw [Int.toNat_natCast,←HL8.out] at this
         omega)
        clear h2
        go_upto_region 21 with fail
        go_region_held3 (fun _=>True) (exact True.intro) (fail)
        have S9:=Lib.hid (S8.out.drewN 1);go_wp2_with fail;go_ret3;exact ⟨_,_,_,rfl,S9.out.below,fun h=>absurd h (by decide),fun h=>absurd h HNG.out⟩
       ·have h2':decide ((L8:Int)>1)=false:=decide_eq_false h2;have HG:=Lib.hid (show GoodP N es from ⟨HM.out,HLP2.out,HTW2.out,by rw [Int.toNat_natCast];exact HO.out,by rw [Int.toNat_natCast,←HL8.out];omega⟩);clear h2;go_wp2_with fail;go_ret3;exact ⟨_,_,_,rfl,S8.out.below,fun _=>HG.out,fun _=>rfl⟩
noncomputable def xz(n:Int)(es:List (Int×Int)):Bool:=tst (GoodP n es)
theorem ZE(n:Int)(A:Option Addr)(cap:Nat)(es:List (Int×Int))(w:World)(hes:jr w w.heap.size A (jA es)) :
  Calls Tryz.prog 27 #[.agg #[.int .i64 n,.slice A es.length cap]] w (fun e w'=>e = .returned (.bool (xz n es))∧Below w.heap.size w w'):=by
 have S1:=Lib.hid (SG.start n cap hes (rs:=[]) (C:=none) (fun h=>absurd h (by simp)));clear hes
 go_enter Tryz.func27,Tryz.ntmps27
 go_upto_region 1 with fail
 generalize w.alloc (.cells #[.int .i64 n,.slice A es.length cap] 24)=w1 at *;have g0:=S1.out.g0;have g1:=S1.out.g1;go_wp2_with fail;refine (db n A cap es w1 S1.out.es).mono ?_;rintro e w2 ⟨c,a,v,rfl,hb2,hc⟩;have S2:=Lib.hid (S1.out.next hb2);have HC:=Lib.hid hc;clear hb2 g0 g1 hc;by_cases h0:c=0
 ·have h0':(c==0)=true:=by rw [h0];rfl
  have HG:=Lib.hid (show xz n es=true from jB.2 (HC.out.1 h0));clear h0;go_wp2_with fail;go_ret;exact ⟨jx HG.out.symm,S2.out.below⟩
 ·have h0':(c==0)=false:=by rw [beq_eq_false_iff_ne];exact h0
  have HG:=Lib.hid (show xz n es=false from Xu.2 fun h=>h0 (HC.out.2 h));clear h0;go_wp2_with fail;go_ret;exact ⟨jx HG.out.symm,S2.out.below⟩
end Go.Proofs.YtneeknlhlkpnpaaGreat
