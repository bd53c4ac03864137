import Derived.Test.YtneeknlhlkpnpaaGreatZAng1
import Derived.Test.YtneeknlhlkpnpaaGreatZVw
import Derived.Test.YtneeknlhlkpnpaaGreatZEul
import Derived.Test.YtneeknlhlkpnpaaGreatZRfs
import Derived.Test.YtneeknlhlkpnpaaGreatZFrm
import Derived.Test.YtneeknlhlkpnpaaGreatZGol
/-
 Sources and sinks: the program's and the reference's. Written by an AI agent.
-/
namespace Go.Proofs.YtneeknlhlkpnpaaGreat
open Go.RowKit
/-- the empty rows of the first i -/
def QM(ls:List (List Int))(i:Nat):List Nat:=(List.range i).filter fun x=>decide ((ls.getD x []).length=0)
def zd(ls:List (List Int))(i:Nat):List Int:=(QM ls i).map fun z:Nat=>(z:Int)
theorem Uw(ls:List (List Int))(i:Nat):zd ls (i+1)=zd ls i++if (ls.getD i []).length=0 then [(i:Int)] else []:=by
 unfold zd QM;rw [List.range_succ,List.filter_append,List.map_append];congr 1;by_cases h:(ls.getD i []).length=0
 ·rw [if_pos h,List.filter_cons,decide_eq_true h];rfl
 ·rw [if_neg h,List.filter_cons,decide_eq_false h];rfl
theorem UT(ls:List (List Int))(i:Nat):(zd ls i).length≤i:=by
 unfold zd QM;rw [List.length_map];exact Nat.le_trans (List.length_filter_le _ _) (by simp)
/-- a fresh list of numbers -/
def VA(l:List Int)(w:World)(e:Ending)(w':World):Prop:=∃v,e = .returned v∧Below w.heap.size w w'∧w'.ownsRow w.heap.size 3 1 v l.length (jf l)
set_option maxRecDepth 20000 in
set_option maxHeartbeats 4000000 in
theorem oM(C:Option Addr)(cap:Nat)(ls:List (List Int))(w:World)(hrs:qz w w.heap.size C ls)(hl:ls.length≤1000)(hl2:∀l∈ls,l.length≤10000) :
  Calls Tryz.prog 109 #[.slice C ls.length cap] w (VA (zd ls ls.length) w):=by
 have HR:=Lib.hid hrs;have HL:=Lib.hid hl2;clear hrs hl2
 go_enter Tryz.func109,Tryz.ntmps109
 go_wp2_with fail
 go_loopg [2,7] ls.length (fun k s2 s7 wr=>∃i:Nat,s7 = .int .i64 i∧i≤ls.length∧k=ls.length-i∧Below w.heap.size w wr∧wr.ownsRow w.heap.size 3 1 s2 (zd ls i).length (jf (zd ls i)))
 case atStart=>exact ⟨0,rfl,Nat.zero_le _,rfl,Below.refl _ _,rfl,.inl ⟨rfl,rfl⟩⟩
 case round=>
  obtain ⟨i,rfl,hi,hk,hb,hown⟩:=hrel;have Hk:=Lib.hid hk;have HB:=Lib.hid hb;have HOW:=Lib.hid hown;obtain ⟨A2,c2,rfl⟩:=jA hown;clear hk hb hown;by_cases hil:i<ls.length
  ·have hil':(i:Int)<ls.length:=by omega
   obtain ⟨b,off,rfl,hbb,hcc⟩:=(HR.out.below HB.out) (by omega);obtain ⟨Ai,ci,zi,_⟩:=hcc i hil;have HS:=Lib.hid (Uw ls i);have hge:ls.getD i []=ls[i]:=by rw [List.getD_eq_getElem?_getD,List.getElem?_eq_getElem hil];rfl
   have hll:=HL.out _ (List.getElem_mem hil);rw [hge] at HS;obtain ⟨m,hm⟩:∃m,m=ls[i].length:=⟨_,rfl⟩;rw [←hm] at zi HS hll;have hle:=UT ls i;clear hcc hm hge;by_cases hm0:m=0
   ·subst hm0;have HS2:=Lib.hid (show zd ls (i+1)=zd ls i++[(i:Int)] by rw [HS.out,if_pos rfl]);have hzw:=HB.out.size;go_wp2_with (at_builtin;refine yX qY rfl _ _ rfl w.heap.size (.slice A2 (zd ls i).length c2) _ _ rfl wr.heap.size [.int .i64 (i:Int)] rfl rfl HOW.out rfl rfl ?x2 ?x3 ?x4 ?_)
    case x2=>omega
    case x3=>omega
    try (case x4=>omega)
    intro v10 w10 ho10 hg10 hb10;have HBX:=Lib.hid (qJ HB.out HOW.out hg10 hzw (Nat.le_refl _))
    have HOX:=Lib.hid (show w10.ownsRow w.heap.size 3 1 v10 (zd ls (i+1)).length (jf (zd ls (i+1))) by
     rw [HS2.out]
     simpa [jf] using ho10)
    clear ho10 hg10 hb10;go_wp2_with fail
    go_roundg (ls.length-(i+1))
    case measure=>rw [Hk.out];omega
    case rel=>exact ⟨i+1,by go_num,by omega,rfl,HBX.out,HOX.out⟩
   ·have hm0':((m:Int)==0)=false:=by rw [beq_eq_false_iff_ne];omega
    have HS2:=Lib.hid (show zd ls (i+1)=zd ls i by rw [HS.out,if_neg hm0,List.append_nil]);have HOX:=Lib.hid (show wr.ownsRow w.heap.size 3 1 (.slice A2 (zd ls i).length c2) (zd ls (i+1)).length (jf (zd ls (i+1))) by rw [HS2.out];exact HOW.out);clear hm0;go_wp2_with fail
    go_roundg (ls.length-(i+1))
    case measure=>rw [Hk.out];omega
    case rel=>exact ⟨i+1,by go_num,by omega,rfl,HB.out,HOX.out⟩
  ·have hie:i=ls.length:=by omega
   have hil':¬(i:Int)<ls.length:=by omega
   have HOX:=Lib.hid (show wr.ownsRow w.heap.size 3 1 (.slice A2 (zd ls i).length c2) (zd ls ls.length).length (jf (zd ls ls.length)) by rw [←hie];exact HOW.out);clear hie;go_wp2_with fail;go_ret;exact ⟨_,rfl,HB.out,HOX.out⟩
def rowsF(n:Nat)(es:List (Int×Int))(f:Int×Int→Int):List (List Int):=(List.range n).map fun x:Nat=>jK es f x es.length
theorem yn(n:Nat)(es:List (Int×Int))(f:Int×Int→Int):(rowsF n es f).length=n:=by simp [rowsF]
theorem gZ{w:World}{base g n:Nat}{t:TypeId}{vs:List Value}{ls:List (List Int)}(hb:Blk w g t vs.toArray)(hv:vs.length=n)(hl:ls.length=n)(ho:∀k (h:k<vs.length) (h':k<ls.length),w.ownsRow base 3 1 vs[k] ls[k].length (jf ls[k])):qz w w.heap.size (some ⟨g,0,none⟩) ls:=fun _=>by
 refine ⟨g,0,rfl,hb.lt,fun i hi=>?_⟩;have h1:=ho i (by omega) hi;obtain ⟨Ai,ci,e⟩:=jA h1;rw [e] at h1;refine ⟨Ai,ci,?_,jr.of_own h1⟩;rw [Nat.zero_add,hb.cell i];simp [List.getElem?_eq_getElem (show i<vs.length by omega),e]
/-- a view's two tables of rows -/
theorem yQ.tabs{w:World}{gv n:Nat}{es:List (Int×Int)}(h:yQ w gv n es):∃(A:Option Addr) (c go gi:Nat),Blk w gv 91 #[.int .i64 n,.slice A es.length c,.slice (some ⟨go,0,none⟩) n n,.slice (some ⟨gi,0,none⟩) n n] ∧
  qz w w.heap.size (some ⟨go,0,none⟩) (rowsF n es Prod.fst)∧qz w w.heap.size (some ⟨gi,0,none⟩) (rowsF n es Prod.snd):=by
 obtain ⟨A,c,go,gi,os,is,h1,h2,h3,h4,h5,h6,h7⟩:=h;refine ⟨A,c,go,gi,h1,gZ (base:=0) h5 h3 (yn _ _ _) fun k hk hk'=>?_,gZ (base:=0) h6 h4 (yn _ _ _) fun k hk hk'=>?_⟩
 ·have:=h7.own k (by rw [List.length_append];omega) (by rw [Ug];omega);rw [List.getElem_append_left hk,Qg (by omega)] at this;simpa [rowsF] using this
 ·have:=h7.own (n+k) (by rw [List.length_append];omega) (by rw [Ug];omega);rw [ux (by omega),List.getElem_append_right (by omega)] at this;simpa [rowsF,h3] using this
/-- the vertices that no edge's end of this side touches -/
def yz(n:Nat)(es:List (Int×Int))(f:Int×Int→Int):List Nat:=QM (rowsF n es f) n
theorem zk{n:Nat}{es:List (Int×Int)}{f:Int×Int→Int}{x:Nat}:x∈yz n es f↔x<n ∧ ∀i,i<es.length→f (es.getD i (0,0))≠(x:Int):=by
 unfold yz QM;rw [List.mem_filter,List.mem_range];constructor
 ·rintro ⟨hx,h⟩;refine ⟨hx,fun i hi e=>?_⟩;unfold rowsF at h;rw [List.getD_eq_getElem?_getD,List.getElem?_map,List.getElem?_range hx] at h;simp only [Option.map_some,Option.getD_some,decide_eq_true_eq,List.length_eq_zero_iff] at h;have:(i:Int)∈jK es f x es.length:=qs.2 ⟨i,rfl,hi,e⟩;rw [h] at this
  cases this
 ·rintro ⟨hx,h⟩;refine ⟨hx,?_⟩;unfold rowsF;rw [List.getD_eq_getElem?_getD,List.getElem?_map,List.getElem?_range hx];simp only [Option.map_some,Option.getD_some,decide_eq_true_eq,List.length_eq_zero_iff];apply List.eq_nil_iff_forall_not_mem.2;intro a ha;obtain ⟨i,_,hi,e⟩:=qs.1 ha;exact h i hi e
def yP(n:Nat)(es:List (Int×Int))(f:Int×Int→Int):List Int:=(yz n es f).map fun z:Nat=>(z:Int)
theorem nm{n:Nat}{es:List (Int×Int)}{f:Int×Int→Int}(hl:es.length≤1000):∀l∈rowsF n es f,l.length≤10000:=by
 intro l hl2;obtain ⟨x,_,rfl⟩:=List.mem_map.1 hl2;have:=qj es f x es.length;omega
set_option maxRecDepth 20000 in
theorem XN(gv n:Nat)(es:List (Int×Int))(w:World)(hv:yQ w gv n es)(hn:n≤1000)(hl:es.length≤1000) :
  Calls Tryz.prog 55 #[.pointer (some ⟨gv,0,none⟩)] w (VA (yP n es Prod.snd) w):=by
 obtain ⟨A,c,go,gi,h1,h2,h3⟩:=hv.tabs;have hb:=oM (some ⟨gi,0,none⟩) n (rowsF n es Prod.snd) w h3 (by rw [yn];exact hn) (nm hl);rw [yn] at hb;have H3:=Lib.hid h3;have c3:=h1.cell 3;simp only [List.getElem?_toArray,List.getElem?_cons_zero,List.getElem?_cons_succ] at c3;clear h1 h2 h3 hv
 go_enter Tryz.func55,Tryz.ntmps55
 go_wp2_with fail;refine hb.mono ?_;rintro e w2 ⟨v,rfl,hb2,ho2⟩;have HB2:=Lib.hid hb2;have HO2:=Lib.hid ho2;clear hb hb2 ho2;go_wp2_with fail;go_ret;exact ⟨v,rfl,HB2.out,HO2.out⟩
end Go.Proofs.YtneeknlhlkpnpaaGreat
/-
 angle.Assign: what it computes. Written by an AI agent.
-/
namespace Go.Proofs.YtneeknlhlkpnpaaGreat
open Go.RowKit
/-- sources, then sinks -/
def zo(n:Nat)(es:List (Int×Int)):List Nat:=yz n es Prod.snd++yz n es Prod.fst
theorem US{n:Nat}{es:List (Int×Int)}{x:Nat}(h:x∈zo n es):x<n:=by
 unfold zo at h;rw [List.mem_append,zk,zk] at h;rcases h with h | h<;>exact h.1
theorem eA(n:Nat)(es:List (Int×Int))(f:Int×Int→Int):(yz n es f).length≤n:=by
 have:=UT (rowsF n es f) n;simpa [zd,yz] using this
end Go.Proofs.YtneeknlhlkpnpaaGreat
/-
 What the angle laws ask first: Great, Odd. Written by an AI agent.
-/
namespace Go.Proofs.YtneeknlhlkpnpaaGreat
open Go.RowKit
theorem rV{R:Nat→Nat→Prop}{N:Nat}(hR:Equ N R)(h:cls R N=1):∀x,x<N→R 0 x:=by
 intro x hx;obtain ⟨y,hyx,hy,hl⟩:=xl (P:=fun y=>R y x) (hR.refl x hx);by_cases h0:y=0
 ·subst h0;exact hy
 ·exfalso;obtain ⟨d,hd⟩:∃d,N=y+(1+d):=⟨N-y-1,by omega⟩;unfold cls at h;rw [hd,List.range_add,List.countP_append,List.range_add,List.map_append,List.countP_append] at h;have h1:0<(List.range y).countP fun h=>tst (∀k,k<h → ¬R k h):=List.countP_pos_iff.2 ⟨0,List.mem_range.2 (by omega),jt.2 fun k hk=>absurd hk (Nat.not_lt_zero _)⟩;have h2:0<(List.map (fun x=>y+x) (List.range 1)).countP fun h=>tst (∀k,k<h → ¬R k h):=List.countP_pos_iff.2 ⟨y,by simp,jt.2 fun k hk hr=>hl k hk (hR.trans k y x (by omega) (by omega) hx hr hy)⟩;omega
theorem YK{R:Nat→Nat→Prop}{N:Nat}(hN:0<N)(h:∀x,x<N→R 0 x):cls R N=1:=by
 unfold cls;obtain ⟨d,rfl⟩:∃d,N=1+d:=⟨N-1,by omega⟩;rw [List.range_add,List.countP_append]
 have h1:(List.range 1).countP (fun h=>tst (∀k,k<h → ¬R k h))=1:=by
  have:tst (∀k,k<0 → ¬R k 0)=true:=jt.2 fun k hk=>absurd hk (Nat.not_lt_zero _);rw [show List.range 1=[0] from rfl,List.countP_cons,this];rfl
 have h2:(List.map (fun x=>1+x) (List.range d)).countP (fun h=>tst (∀k,k<h → ¬R k h))=0:=by
  rw [List.countP_eq_zero];intro z hz ht;obtain ⟨j,hj,rfl⟩:=List.mem_map.1 hz;have hj:=List.mem_range.1 hj;exact jt.1 ht 0 (by omega) (h _ (by omega))
 omega
end Go.Proofs.YtneeknlhlkpnpaaGreat
/-
 What the angle laws ask first: the document's example. Written by an AI agent.
-/
namespace Go.Proofs.YtneeknlhlkpnpaaGreat
open Go.RowKit
theorem XM:cls (Q [(0,1)] 1) 2=1:=YK (by omega) fun x hx=>by
 match x,hx with
 | 0,_=>exact .refl 0
 | 1,_=>exact .head ⟨0,by simp,by simp,.inl rfl⟩ (.refl 1)
theorem XL:gen 2 [(0,1)] [[0],[1]]=0:=by
 unfold gen;rw [show jo 2 [(0,1)] [[0],[1]]=[[0,1]] by decide +kernel,show ([(0,1)]:List (Int×Int)).length=1 from rfl,show ([[0],[1]]:List (List Int)).length=2 from rfl,XM,show iso [[0],[1]]=0 by decide +kernel];rfl
theorem bP:xp 2 [(0,1)] [[0],[1]]=true:=by
 unfold xp;rw [XL,show ([(0,1)]:List (Int×Int)).length=1 from rfl,show ([[0],[1]]:List (List Int)).length=2 from rfl,XM,show ym 2 [(0,1)] [[0],[1]]=true by decide +kernel,show kY 2 [(0,1)]=true by decide +kernel];rfl
theorem pb(w:World):qz (((w.alloc (.cells #[.int .i64 0] 3)).alloc (.cells #[.int .i64 1] 3)).alloc (.cells #[.slice (some ⟨w.heap.size,0,none⟩) 1 1,.slice (some ⟨w.heap.size+1,0,none⟩) 1 1] 25)) (((w.alloc (.cells #[.int .i64 0] 3)).alloc (.cells #[.int .i64 1] 3)).alloc (.cells #[.slice (some ⟨w.heap.size,0,none⟩) 1 1,.slice (some ⟨w.heap.size+1,0,none⟩) 1 1] 25)).heap.size (some ⟨w.heap.size+1+1,0,none⟩) [[0],[1]] ∧
  Below w.heap.size w (((w.alloc (.cells #[.int .i64 0] 3)).alloc (.cells #[.int .i64 1] 3)).alloc (.cells #[.slice (some ⟨w.heap.size,0,none⟩) 1 1,.slice (some ⟨w.heap.size+1,0,none⟩) 1 1] 25)):=by
 have b1:=Blk.new w 3 #[.int .i64 0];have z1:=World.size_alloc w (.cells #[.int .i64 0] 3);have k1:=(Below.refl w.heap.size w).alloc (Nat.le_refl _) (.cells #[.int .i64 0] 3);generalize w.alloc (.cells #[.int .i64 0] 3)=w1 at *;have b2:=Blk.new w1 3 #[.int .i64 1];have b1':=b1.alloc (.cells #[.int .i64 1] 3);have z2:=World.size_alloc w1 (.cells #[.int .i64 1] 3);have k2:=k1.alloc (by omega) (.cells #[.int .i64 1] 3);generalize w1.alloc (.cells #[.int .i64 1] 3)=w2 at *;have b3:=Blk.new w2 25 #[.slice (some ⟨w.heap.size,0,none⟩) 1 1,.slice (some ⟨w.heap.size+1,0,none⟩) 1 1];have b1'':=b1'.alloc (.cells #[.slice (some ⟨w.heap.size,0,none⟩) 1 1,.slice (some ⟨w.heap.size+1,0,none⟩) 1 1] 25);have b2':=b2.alloc (.cells #[.slice (some ⟨w.heap.size,0,none⟩) 1 1,.slice (some ⟨w.heap.size+1,0,none⟩) 1 1] 25);have z3:=World.size_alloc w2 (.cells #[.slice (some ⟨w.heap.size,0,none⟩) 1 1,.slice (some ⟨w.heap.size+1,0,none⟩) 1 1] 25);have k3:=k2.alloc (by omega) (.cells #[.slice (some ⟨w.heap.size,0,none⟩) 1 1,.slice (some ⟨w.heap.size+1,0,none⟩) 1 1] 25);generalize w2.alloc (.cells #[.slice (some ⟨w.heap.size,0,none⟩) 1 1,.slice (some ⟨w.heap.size+1,0,none⟩) 1 1] 25)=w3 at *;rw [z1] at b2';rw [z2,z1] at b3;refine ⟨fun _=>⟨w.heap.size+1+1,0,rfl,by omega,fun i hi=>?_⟩,k3⟩
 match i,hi with
 | 0,_=>exact ⟨_,1,b3.cell 0,(jr.blk' (xs:=jf [0]) b1'').more (by omega)⟩
 | 1,_=>exact ⟨_,1,b3.cell 1,(jr.blk' (xs:=jf [1]) b2').more (by omega)⟩
end Go.Proofs.YtneeknlhlkpnpaaGreat
/-
 The reference's Rooms and Try: what they compute. Written by an AI agent.
-/
namespace Go.Proofs.YtneeknlhlkpnpaaGreat
open Go.RowKit
noncomputable def vr(n:Int)(es:List (Int×Int))(rs:List (List Int))(f0:Nat):List Int:=eJ (jT n es rs) (zt es rs) (jo n es rs).length f0 (2*es.length)
end Go.Proofs.YtneeknlhlkpnpaaGreat
/-
 The reference's Ends and Bare of a graph. Written by an AI agent.
-/
namespace Go.Proofs.YtneeknlhlkpnpaaGreat
open Go.RowKit
theorem fS(es:List (Int×Int))(f:Int×Int→Int)(x:Int)(k:Nat):jK es f x (k+1)=jK es f x k++if f (es.getD k (0,0))=x then [(k:Int)] else []:=rfl
set_option maxRecDepth 20000 in
set_option maxHeartbeats 4000000 in
theorem bX(n:Int)(A:Option Addr)(cap:Nat)(es:List (Int×Int))(x:Nat)(from_:Bool)(w:World)(hes:jr w w.heap.size A (jD es))(hl:es.length≤1000) :
  Calls Tryz.prog 37 #[.agg #[.int .i64 n,.slice A es.length cap],.int .i64 x,.bool from_] w (VA (jK es (if from_=true then Prod.fst else Prod.snd) x es.length) w):=by
 have S1:=Lib.hid (SG.start n cap hes (rs:=[]) (C:=none) (fun h=>absurd h (by simp)));clear hes;generalize hF:(if from_=true then Prod.fst else Prod.snd:Int×Int→Int)=F at *;have HF:=Lib.hid hF;clear hF
 go_enter Tryz.func37,Tryz.ntmps37
 go_upto_region 1 with fail
 generalize w.alloc (.cells #[.int .i64 n,.slice A es.length cap] 24)=w1 at *;have HO2:=Lib.hid (show (w1.alloc (.cells #[] 3)).ownsRow w1.heap.size 3 1 (.slice (some ⟨w1.heap.size,0,none⟩) 0 0) 0 (jf []) from xg (xs:=[]) (Blk.new w1 3 #[]) (Nat.le_refl _) rfl (Nat.zero_le _));have hb2:=(Below.refl w1.heap.size w1).alloc (Nat.le_refl _) (.cells #[] 3);have hz2:=World.size_alloc w1 (.cells #[] 3);have HB12:=Lib.hid hb2;clear hb2
 go_upto_region 2 with fail
 obtain ⟨gL,hgL⟩:∃gL,gL=w1.heap.size:=⟨_,rfl⟩;rw [←hgL] at HO2 HB12 hz2;rw [←hgL];generalize w1.alloc (.cells #[] 3)=w2 at *;have HG1:=Lib.hid hgL;have hwg:w.heap.size≤gL:=by have:=S1.out.lt;omega
 clear hgL;go_wp2_with fail
 go_loopg [7,8] es.length (fun k s7 s8 wr=>∃i:Nat,s8 = .int .i64 i∧i≤es.length∧k=es.length-i∧Below gL w1 wr∧gL≤wr.heap.size∧wr.ownsRow gL 3 1 s7 (jK es F x i).length (jf (jK es F x i)))
 case atStart=>exact ⟨0,rfl,Nat.zero_le _,rfl,HB12.out,by omega,HO2.out⟩
 case round=>
  obtain ⟨i,rfl,hi,hk,hb,hgw,hown⟩:=hrel;have Hk:=Lib.hid hk;have HB:=Lib.hid hb;have HOW:=Lib.hid hown;obtain ⟨A7,c7,rfl⟩:=jA hown;have S4:=Lib.hid (S1.out.next (w':=wr) (by rw [←HG1.out];exact hb));have g0:=S4.out.g0;have g1:=S4.out.g1;clear hk hb hown;by_cases hil:i<es.length
  ·have hil':(i:Int)<es.length:=by omega
   obtain ⟨b,off,rfl,hbb,hcc⟩:=S4.out.es.edges (by omega);obtain ⟨c0,c1⟩:=hcc i hil
   have HS:=Lib.hid (show jK es F x (i+1)=jK es F x i++if F es[i]=(x:Int) then [(i:Int)] else [] by
    rw [fS,List.getD_eq_getElem?_getD,List.getElem?_eq_getElem hil];rfl)
   have HF1:=Lib.hid (show from_=true→F es[i]=es[i].1 from fun h=>by rw [←HF.out,if_pos h]);have HF2:=Lib.hid (show from_=false→F es[i]=es[i].2 from fun h=>by rw [←HF.out,if_neg (by rw [h];simp)]);obtain ⟨p,hp⟩:∃p,p=es[i].1:=⟨_,rfl⟩;obtain ⟨q,hq⟩:∃q,q=es[i].2:=⟨_,rfl⟩;rw [←hp] at c0 HF1;rw [←hq] at c1 HF2;obtain ⟨v,hv⟩:∃v,v=F es[i]:=⟨_,rfl⟩;rw [←hv] at HS HF1 HF2;clear hcc hp hq hv
   cases from_ with
   | true=>
    have hvp:=HF1.out rfl;subst hvp;by_cases hx:v=(x:Int)
    ·have hxe:(v==(x:Int))=true:=by rw [hx];simp
     have HS2:=Lib.hid (show jK es F x (i+1)=jK es F x i++[(i:Int)] by rw [HS.out,if_pos hx]);clear hx;have hzw:=HB.out.size;have hle:=qj es F x i;go_wp2_with (at_builtin;refine yX qY rfl _ _ rfl gL (.slice A7 (jK es F x i).length c7) _ _ rfl wr.heap.size [.int .i64 (i:Int)] rfl rfl HOW.out rfl rfl ?x2 ?x3 ?x4 ?_)
     case x2=>omega
     case x3=>omega
     try (case x4=>omega)
     intro v10 w10 ho10 hg10 hb10;have HBX:=Lib.hid (qJ HB.out HOW.out hg10 (by omega) (Nat.le_refl _))
     have HOX:=Lib.hid (show w10.ownsRow gL 3 1 v10 (jK es F x (i+1)).length (jf (jK es F x (i+1))) by
      rw [HS2.out]
      simpa [jf] using ho10)
     have hz10:gL≤w10.heap.size:=by have:=hg10.size;omega
     clear ho10 hg10 hb10;go_wp2_with fail
     go_roundg (es.length-(i+1))
     case measure=>rw [Hk.out];omega
     case rel=>exact ⟨i+1,by go_num,by omega,rfl,HBX.out,hz10,HOX.out⟩
    ·have hxe:(v==(x:Int))=false:=by rw [beq_eq_false_iff_ne];exact hx
     have HS2:=Lib.hid (show jK es F x (i+1)=jK es F x i by rw [HS.out,if_neg hx,List.append_nil]);clear hx;have HOX:=Lib.hid (show wr.ownsRow gL 3 1 (.slice A7 (jK es F x i).length c7) (jK es F x (i+1)).length (jf (jK es F x (i+1))) by rw [HS2.out];exact HOW.out);go_wp2_with fail
     go_roundg (es.length-(i+1))
     case measure=>rw [Hk.out];omega
     case rel=>exact ⟨i+1,by go_num,by omega,rfl,HB.out,hgw,HOX.out⟩
   | false=>
    have hvp:=HF2.out rfl;subst hvp;by_cases hx:v=(x:Int)
    ·have hxe:(v==(x:Int))=true:=by rw [hx];simp
     have HS2:=Lib.hid (show jK es F x (i+1)=jK es F x i++[(i:Int)] by rw [HS.out,if_pos hx]);clear hx;have hzw:=HB.out.size;have hle:=qj es F x i;go_wp2_with (at_builtin;refine yX qY rfl _ _ rfl gL (.slice A7 (jK es F x i).length c7) _ _ rfl wr.heap.size [.int .i64 (i:Int)] rfl rfl HOW.out rfl rfl ?x2 ?x3 ?x4 ?_)
     case x2=>omega
     case x3=>omega
     try (case x4=>omega)
     intro v10 w10 ho10 hg10 hb10;have HBX:=Lib.hid (qJ HB.out HOW.out hg10 (by omega) (Nat.le_refl _))
     have HOX:=Lib.hid (show w10.ownsRow gL 3 1 v10 (jK es F x (i+1)).length (jf (jK es F x (i+1))) by
      rw [HS2.out]
      simpa [jf] using ho10)
     have hz10:gL≤w10.heap.size:=by have:=hg10.size;omega
     clear ho10 hg10 hb10;go_wp2_with fail
     go_roundg (es.length-(i+1))
     case measure=>rw [Hk.out];omega
     case rel=>exact ⟨i+1,by go_num,by omega,rfl,HBX.out,hz10,HOX.out⟩
    ·have hxe:(v==(x:Int))=false:=by rw [beq_eq_false_iff_ne];exact hx
     have HS2:=Lib.hid (show jK es F x (i+1)=jK es F x i by rw [HS.out,if_neg hx,List.append_nil]);clear hx;have HOX:=Lib.hid (show wr.ownsRow gL 3 1 (.slice A7 (jK es F x i).length c7) (jK es F x (i+1)).length (jf (jK es F x (i+1))) by rw [HS2.out];exact HOW.out);go_wp2_with fail
     go_roundg (es.length-(i+1))
     case measure=>rw [Hk.out];omega
     case rel=>exact ⟨i+1,by go_num,by omega,rfl,HB.out,hgw,HOX.out⟩
  ·have hie:i=es.length:=by omega
   have hil':¬(i:Int)<es.length:=by omega
   have HOX:=Lib.hid (show wr.ownsRow w.heap.size 3 1 (.slice A7 (jK es F x i).length c7) (jK es F x es.length).length (jf (jK es F x es.length)) by rw [←hie];exact qT HOW.out hwg);clear hie;go_wp2_with fail;go_ret;exact ⟨_,rfl,S4.out.below,HOX.out⟩
end Go.Proofs.YtneeknlhlkpnpaaGreat
/-
 The reference's Try: what it computes. Written by an AI agent.
-/
namespace Go.Proofs.YtneeknlhlkpnpaaGreat
open Go.RowKit
theorem set_set(l:List Int)(i:Nat)(a b:Int):(l.set i a).set i b=l.set i b:=by simp
def eO(rm:List Int):Prop:=∀x∈rm,-10000≤x∧x≤10000
theorem eO.at_{rm:List Int}(h:eO rm){f:Nat}(hf:f<rm.length) : -10000≤rm.getD f 0∧rm.getD f 0≤10000:=by
 rw [List.getD_eq_getElem?_getD,List.getElem?_eq_getElem hf];exact h _ (List.getElem_mem hf)
theorem eO.down{rm:List Int}(h:eO rm){f:Nat}(hf:f<rm.length)(hp:0<rm.getD f 0):eO (rm.set f (rm.getD f 0-1)):=by
 intro x hx;rcases List.mem_or_eq_of_mem_set hx with h1 | h1
 ·exact h x h1
 ·have:=h.at_ hf;omega
end Go.Proofs.YtneeknlhlkpnpaaGreat
/-
 The reference's Bare, Ends and Outer. Written by an AI agent.
-/
namespace Go.Proofs.YtneeknlhlkpnpaaGreat
open Go.RowKit
theorem np{n:Nat}{es:List (Int×Int)}{f:Int×Int→Int}{x:Nat}(h:x<n):(rowsF n es f).getD x []=jK es f x es.length:=by
 unfold rowsF;rw [List.getD_eq_getElem?_getD,List.getElem?_map,List.getElem?_range h];rfl
set_option maxRecDepth 20000 in
set_option maxHeartbeats 4000000 in
theorem XT(n:Nat)(A:Option Addr)(cap:Nat)(es:List (Int×Int))(to_:Bool)(w:World)(hes:jr w w.heap.size A (jD es))(hl:es.length≤1000)(hn:n≤1000) :
  Calls Tryz.prog 11 #[.agg #[.int .i64 n,.slice A es.length cap],.bool to_] w (VA (yP n es (if to_=true then Prod.snd else Prod.fst)) w):=by
 have S1:=Lib.hid (SG.start n cap hes (rs:=[]) (C:=none) (fun h=>absurd h (by simp)));clear hes;generalize hF:(if to_=true then Prod.snd else Prod.fst:Int×Int→Int)=F at *;have HF:=Lib.hid (show (if (!to_)=true then Prod.fst else Prod.snd:Int×Int→Int)=F by rw [←hF];cases to_<;>rfl);clear hF
 go_enter Tryz.func11,Tryz.ntmps11
 go_upto_region 1 with fail
 generalize w.alloc (.cells #[.int .i64 n,.slice A es.length cap] 24)=w1 at *;have HO2:=Lib.hid (show (w1.alloc (.cells #[] 3)).ownsRow w1.heap.size 3 1 (.slice (some ⟨w1.heap.size,0,none⟩) 0 0) 0 (jf []) from xg (xs:=[]) (Blk.new w1 3 #[]) (Nat.le_refl _) rfl (Nat.zero_le _));have hb2:=(Below.refl w1.heap.size w1).alloc (Nat.le_refl _) (.cells #[] 3);have hz2:=World.size_alloc w1 (.cells #[] 3);have HB12:=Lib.hid hb2;clear hb2
 go_upto_region 2 with fail
 obtain ⟨gL,hgL⟩:∃gL,gL=w1.heap.size:=⟨_,rfl⟩;rw [←hgL] at HO2 HB12 hz2;rw [←hgL];generalize w1.alloc (.cells #[] 3)=w2 at *;have HG1:=Lib.hid hgL;have hwg:w.heap.size≤gL:=by have:=S1.out.lt;omega
 clear hgL;go_wp2_with fail
 go_loopg [5,6] n (fun k s5 s6 wr=>∃i:Nat,s6 = .int .i64 i∧i≤n∧k=n-i∧Below gL w1 wr∧gL≤wr.heap.size∧wr.ownsRow gL 3 1 s5 (zd (rowsF n es F) i).length (jf (zd (rowsF n es F) i)))
 case atStart=>exact ⟨0,rfl,Nat.zero_le _,rfl,HB12.out,by omega,HO2.out⟩
 case round=>
  obtain ⟨i,rfl,hi,hk,hb,hgw,hown⟩:=hrel;have Hk:=Lib.hid hk;have HB:=Lib.hid hb;have HOW:=Lib.hid hown;obtain ⟨A5,c5,rfl⟩:=jA hown;have S4:=Lib.hid (S1.out.next (w':=wr) (by rw [←HG1.out];exact hb));have g0:=S4.out.g0;have g1:=S4.out.g1;clear hk hb hown;by_cases hil:i<n
  ·have hil':(i:Int)<n:=by omega
   have HS:=Lib.hid (show zd (rowsF n es F) (i+1)=zd (rowsF n es F) i++if (jK es F i es.length).length=0 then [(i:Int)] else [] by
    rw [Uw,np hil])
   have hen:=bX n A cap es i (!to_) wr S4.out.es hl;rw [HF.out] at hen;have hle:=UT (rowsF n es F) i;have hel:=qj es F i es.length;go_wp2_with fail;refine hen.mono ?_;rintro e w5 ⟨v5,rfl,hb5,ho5⟩;obtain ⟨A8,c8,rfl⟩:=jA ho5;have HB5:=Lib.hid (HB.out.trans (hb5.mono hgw));have HO5:=Lib.hid (qP HOW.out hb5 (Nat.le_refl _));have hz5:gL≤w5.heap.size:=Nat.le_trans hgw hb5.size;obtain ⟨L,hL⟩:∃L,L=(jK es F i es.length).length:=⟨_,rfl⟩;rw [←hL] at HS hel;rw [←hL];have S5:=Lib.hid (S4.out.next hb5);have g0':=S5.out.g0;have g1':=S5.out.g1;clear hen ho5 hb5 hL g0 g1;by_cases hx:L=0
   ·have hxe:((L:Int)==0)=true:=by rw [hx];rfl
    have HS2:=Lib.hid (show zd (rowsF n es F) (i+1)=zd (rowsF n es F) i++[(i:Int)] by rw [HS.out,if_pos hx]);clear hx;have hzw:=HB5.out.size;go_wp2_with (at_builtin;refine yX qY rfl _ _ rfl gL (.slice A5 (zd (rowsF n es F) i).length c5) _ _ rfl w5.heap.size [.int .i64 (i:Int)] rfl rfl HO5.out rfl rfl ?x2 ?x3 ?x4 ?_)
    case x2=>omega
    case x3=>omega
    try (case x4=>omega)
    intro v10 w10 ho10 hg10 hb10;have HBX:=Lib.hid (qJ HB5.out HO5.out hg10 (by omega) (Nat.le_refl _))
    have HOX:=Lib.hid (show w10.ownsRow gL 3 1 v10 (zd (rowsF n es F) (i+1)).length (jf (zd (rowsF n es F) (i+1))) by
     rw [HS2.out]
     simpa [jf] using ho10)
    have hz10:gL≤w10.heap.size:=by have:=hg10.size;omega
    clear ho10 hg10 hb10;go_wp2_with fail
    go_roundg (n-(i+1))
    case measure=>rw [Hk.out];omega
    case rel=>exact ⟨i+1,by go_num,by omega,rfl,HBX.out,hz10,HOX.out⟩
   ·have hxe:((L:Int)==0)=false:=by rw [beq_eq_false_iff_ne];omega
    have HS2:=Lib.hid (show zd (rowsF n es F) (i+1)=zd (rowsF n es F) i by rw [HS.out,if_neg hx,List.append_nil]);clear hx;have HOX:=Lib.hid (show w5.ownsRow gL 3 1 (.slice A5 (zd (rowsF n es F) i).length c5) (zd (rowsF n es F) (i+1)).length (jf (zd (rowsF n es F) (i+1))) by rw [HS2.out];exact HO5.out);go_wp2_with fail
    go_roundg (n-(i+1))
    case measure=>rw [Hk.out];omega
    case rel=>exact ⟨i+1,by go_num,by omega,rfl,HB5.out,hz5,HOX.out⟩
  ·have hie:i=n:=by omega
   have hil':¬(i:Int)<n:=by omega
   have HOX:=Lib.hid (show wr.ownsRow w.heap.size 3 1 (.slice A5 (zd (rowsF n es F) i).length c5) (yP n es F).length (jf (yP n es F)) by
    have h1:=qT HOW.out hwg;rw [hie] at h1 ⊢
    exact h1)
   clear hie;go_wp2_with fail;go_ret;exact ⟨_,rfl,S4.out.below,HOX.out⟩
end Go.Proofs.YtneeknlhlkpnpaaGreat
/-
 Sources and sinks of a connected graph: each once, all others have both (plain law). Written by an AI agent.
-/
namespace Go.Proofs.YtneeknlhlkpnpaaGreat
open Go.RowKit
section
variable {es:List (Int×Int)}{N:Nat}
theorem zx(hin:InN N es){i:Nat}(hi:i<es.length):(vtx es (2*i):Int)=(es.getD i (0,0)).1:=by
 have h:=iG hin (h:=2*i) (by omega);rw [←h];unfold atE;rw [show 2*i/2=i by omega];simp
theorem vn(hin:InN N es){i:Nat}(hi:i<es.length):(vtx es (2*i+1):Int)=(es.getD i (0,0)).2:=by
 have h:=iG hin (h:=2*i+1) (by omega);rw [←h];unfold atE;rw [show (2*i+1)/2=i by omega];simp
theorem UR(hin:InN N es){x:Nat}:qe es x ↔ ∃i,i<es.length∧(es.getD i (0,0)).1=(x:Int):=by
 constructor
 ·rintro ⟨k,hk,hv,he⟩;have h2:k%2=0:=by simpa [ev] using he
  refine ⟨k/2,by omega,?_⟩;rw [←zx hin (by omega),show 2*(k/2)=k by omega,hv]
 ·rintro ⟨i,hi,e⟩;refine ⟨2*i,by omega,?_,by simp [ev]⟩;have:=zx hin hi;omega
theorem aN(hin:InN N es){x:Nat}:zI es x ↔ ∃i,i<es.length∧(es.getD i (0,0)).2=(x:Int):=by
 constructor
 ·rintro ⟨k,hk,hv,he⟩
  have h2:k%2=1:=by
   have:=Nat.mod_two_eq_zero_or_one k;simp [ev] at he;omega
  refine ⟨k/2,by omega,?_⟩;rw [←vn hin (by omega),show 2*(k/2)+1=k by omega,hv]
 ·rintro ⟨i,hi,e⟩;refine ⟨2*i+1,by omega,?_,by simp [ev]⟩;have:=vn hin hi;omega
theorem VE(hin:InN N es){x:Nat}:x∈yz N es Prod.snd↔x<N ∧ ¬zI es x:=by
 rw [zk,aN hin];exact ⟨fun h=>⟨h.1,fun ⟨i,hi,e⟩=>h.2 i hi e⟩,fun h=>⟨h.1,fun i hi e=>h.2 ⟨i,hi,e⟩⟩⟩
theorem xb(hin:InN N es){x:Nat}:x∈yz N es Prod.fst↔x<N ∧ ¬qe es x:=by
 rw [zk,UR hin];exact ⟨fun h=>⟨h.1,fun ⟨i,hi,e⟩=>h.2 i hi e⟩,fun h=>⟨h.1,fun i hi e=>h.2 ⟨i,hi,e⟩⟩⟩
theorem Ur(hin:InN N es){p q:Nat}{c:Nat→Bool}(h:vu true c es p q):(zI es p∨qe es p)∧(zI es q∨qe es q):=by
 obtain ⟨i,hi,_,h⟩:=h;have hg:es.getD i (0,0)=es[i]:=by rw [List.getD_eq_getElem?_getD,List.getElem?_eq_getElem hi];rfl
 rcases h with e | ⟨_,e⟩
 ·exact ⟨.inr ((UR hin).2 ⟨i,hi,by rw [hg,e]⟩),.inl ((aN hin).2 ⟨i,hi,by rw [hg,e]⟩)⟩
 ·exact ⟨.inl ((aN hin).2 ⟨i,hi,by rw [hg,e]⟩),.inr ((UR hin).2 ⟨i,hi,by rw [hg,e]⟩)⟩
theorem KR(hin:InN N es){p q:Nat}{c:Nat→Bool}(h:Star (vu true c es) p q):p=q∨((zI es p∨qe es p)∧(zI es q∨qe es q)):=by
 induction h with
 | refl=>exact .inl rfl
 | head h1 _ ih=>
  refine .inr ⟨(Ur hin h1).1,?_⟩;rcases ih with e | e
  ·subst e;exact (Ur hin h1).2
  ·exact e.2
/-- in a connected graph with edges each vertex touches one -/
theorem ZB(hin:InN N es)(h1:cls (Q es es.length) N=1)(he:0<es.length){x:Nat}(hx:x<N):zI es x∨qe es x:=by
 have hQ:=rV (iV N es.length) h1
 have h0:zI es 0∨qe es 0:=by
  have ht:vtx es 0<N:=xc hin (by omega);rcases KR hin (hQ _ ht) with e | e
  ·exact .inr ⟨0,by omega,e.symm,by simp [ev]⟩
  ·exact e.1
 rcases KR hin (hQ x hx) with e | e
 ·subst e;exact h0
 ·exact e.2
theorem Kf(ls:List (List Int))(n:Nat):(QM ls n).length=(List.range n).countP fun x=>decide ((ls.getD x []).length=0):=by
 unfold QM;rw [List.countP_eq_length_filter]
theorem lg(hin:InN N es):(yz N es Prod.snd).length=(List.range N).countP fun x=>tst (¬zI es x):=by
 unfold yz;rw [Kf];refine jP fun x hx=>?_;rw [Bool.eq_iff_iff,jt,decide_eq_true_eq];have h:=VE hin (x:=x);unfold yz QM at h;rw [List.mem_filter,List.mem_range,decide_eq_true_eq] at h;exact ⟨fun e=>(h.1 ⟨hx,e⟩).2,fun e=>(h.2 ⟨hx,e⟩).2⟩
theorem WP(hin:InN N es):(yz N es Prod.fst).length=(List.range N).countP fun x=>tst (¬qe es x):=by
 unfold yz;rw [Kf];refine jP fun x hx=>?_;rw [Bool.eq_iff_iff,jt,decide_eq_true_eq];have h:=xb hin (x:=x);unfold yz QM at h;rw [List.mem_filter,List.mem_range,decide_eq_true_eq] at h;exact ⟨fun e=>(h.1 ⟨hx,e⟩).2,fun e=>(h.2 ⟨hx,e⟩).2⟩
theorem XJ(p q:Nat→Prop):∀N:Nat,(∀x,x<N→p x∨q x)→((List.range N).countP fun x=>tst (¬p x))+((List.range N).countP fun x=>tst (¬q x))+((List.range N).countP fun x=>tst (p x∧q x))=N
 | 0,_=>rfl
 | N+1,h=>by
  have ih:=XJ p q N fun x hx=>h x (by omega);have hN:=h N (by omega);rw [List.range_succ,List.countP_append,List.countP_append,List.countP_append];have e:∀r:Nat→Bool,[N].countP r=if r N=true then 1 else 0:=fun r=>by simp [List.countP_cons]
  rw [e,e,e];by_cases hp:p N
  ·by_cases hq:q N
   ·rw [if_neg (by rw [jt];exact fun h=>h hp),if_neg (by rw [jt];exact fun h=>h hq),if_pos (jt.2 ⟨hp,hq⟩)];omega
   ·rw [if_neg (by rw [jt];exact fun h=>h hp),if_pos (jt.2 hq),if_neg (by rw [jt];exact fun h=>hq h.2)];omega
  ·have hq:q N:=hN.resolve_left hp;rw [if_pos (jt.2 hp),if_neg (by rw [jt];exact fun h=>h hq),if_neg (by rw [jt];exact fun h=>hp h.1)];omega
theorem fR(hin:InN N es)(h1:cls (Q es es.length) N=1)(he:0<es.length):(zo N es).length+iU es N=N:=by
 unfold zo iU;rw [List.length_append,lg hin,WP hin];exact XJ (zI es) (qe es) N fun x hx=>ZB hin h1 he hx
theorem kx(n:Nat)(f:Int×Int→Int):(yz n es f).Nodup:=by
 unfold yz QM;exact List.nodup_range.filter _
theorem fQ(hin:InN N es)(h1:cls (Q es es.length) N=1)(he:0<es.length):(zo N es).Nodup:=by
 unfold zo;rw [List.nodup_append];refine ⟨kx _ _,kx _ _,fun a ha b hb e=>?_⟩;subst e;obtain ⟨hx,h2⟩:=(VE hin).1 ha;obtain ⟨_,h3⟩:=(xb hin).1 hb;rcases ZB hin h1 he hx with h | h
 ·exact h2 h
 ·exact h3 h
end
end Go.Proofs.YtneeknlhlkpnpaaGreat
/-
 What fit finds, and what trying all choices finds, is one (plain law). Written by an AI agent.
-/
namespace Go.Proofs.YtneeknlhlkpnpaaGreat
open Go.RowKit
section
variable {V Fc:Nat→Nat}{n M:Nat}{rm:List Int}
theorem UD(f:Nat→Nat):∀k:Nat,(((List.range k).map f).sum:Int)=((List.range k).map fun x=>(f x:Int)).sum
 | 0=>rfl
 | k+1=>by
  rw [List.range_succ,List.map_append,List.sum_append,List.map_append,List.sum_append,←UD f k];simp
theorem Gn{f g:Nat→Int}:∀ {k:Nat},(∀x,x<k→f x≤g x)→((List.range k).map f).sum=((List.range k).map g).sum → ∀x,x<k→f x=g x
 | 0,_,_=>fun x h=>absurd h (Nat.not_lt_zero _)
 | k+1,hle,hs=>by
  have mono:∀j,j≤k→((List.range j).map f).sum≤((List.range j).map g).sum:=by
   intro j
   induction j with
   | zero=>intro _;simp
   | succ j ih=>
    intro hj;rw [List.range_succ,List.map_append,List.sum_append,List.map_append,List.sum_append];have h1:=ih (by omega);have h2:=hle j (by omega);simp only [List.map_cons,List.map_nil,List.sum_cons,List.sum_nil];omega
  rw [List.range_succ,List.map_append,List.sum_append,List.map_append,List.sum_append] at hs;simp only [List.map_cons,List.map_nil,List.sum_cons,List.sum_nil] at hs;have h1:=mono k (Nat.le_refl _);have h2:=hle k (by omega);have h3:((List.range k).map f).sum=((List.range k).map g).sum:=by omega
  intro x hx;by_cases e:x=k
  ·subst e;omega
  ·exact Gn (fun y hy=>hle y (by omega)) h3 x (by omega)
end
section
variable {V Fc Kd:Nat→Nat}{n M F f0:Nat}{E:List Nat}
end
noncomputable def fY(n:Int)(es:List (Int×Int))(rs:List (List Int))(f0:Nat):Bool:=pD (vtx es) (jT n es rs) (2*es.length) (zo rs.length es) (vr n es rs f0)
section
variable {n:Int}{es:List (Int×Int)}{rs:List (List Int)}
theorem Qv(h:xp n es rs=true):cls (Q es es.length) rs.length=1:=by
 unfold xp at h;simp only [Bool.and_eq_true,decide_eq_true_eq] at h;exact h.2.2.2
theorem oQ(h:xp n es rs=true)(he:0<es.length):(zo rs.length es).Nodup:=fQ (ya (yF h)) (Qv h) he
end
end Go.Proofs.YtneeknlhlkpnpaaGreat
/-
 The order of all vertices is told just where the edges rise along something (plain law). Written by an AI agent.
-/
namespace Go.Proofs.YtneeknlhlkpnpaaGreat
open Go.RowKit
theorem JY{α β : Type}{f : α → β}{l:List α}(h:l.Nodup)(hf:∀a∈l,∀b∈l,f a=f b→a=b):(l.map f).Nodup:=
 List.pairwise_map.2 (h.imp_of_mem fun ha hb hne e=>hne (hf _ ha _ hb e))
section
variable {es:List (Int×Int)}
/-- an order of all vertices is told just where the edges rise along something -/
theorem gY{N:Nat}:∀(f:Nat) (out:List Int),kS es N (Zw es N f out)=none∨(Zw es N f out).length=out.length+f
 | 0,_=>.inr rfl
 | f+1,out=>by
  unfold Zw
  cases hx:kS es N out with
  | none=>exact .inl hx
  | some x=>
   rcases gY (N:=N) f (out++[(x:Int)]) with h | h
   ·exact .inl h
   ·right
    simp only;rw [h];simp;omega
theorem kr:∀ {l l':List Int},l.Nodup→(∀a∈l,a∈l')→l.length≤l'.length
 | [],_,_,_=>Nat.zero_le _
 | a::l,l',h,hs=>by
  obtain ⟨h1,h2⟩:=List.nodup_cons.1 h;have ha:=hs a (by simp);have:=kr (l':=l'.erase a) h2 fun b hb=>(List.mem_erase_of_ne (fun e=>h1 (by rw [←e];exact hb))).2 (hs b (by simp [hb]));rw [List.length_erase_of_mem ha] at this;have hp:=List.length_pos_of_mem ha;rw [List.length_cons];omega
theorem fW{N:Nat}{out:List Int}(h:∀x,x<N→(x:Int)∈out):N≤out.length:=by
 have h1:((List.range N).map fun x:Nat=>(x:Int)).Nodup:=JY List.nodup_range fun a _ b _ e=>by omega
 have h2:=kr h1 (l':=out) fun a ha=>by
  obtain ⟨x,hx,rfl⟩:=List.mem_map.1 ha;exact h x (List.mem_range.1 hx)
 simpa using h2
theorem vI{N:Nat}(hin:InN N es)(h:kY N es=true):∃L:Nat→Nat,∀e∈es,L e.1.toNat<L e.2.toNat:=by
 unfold kY at h;rw [decide_eq_true_eq] at h;have hl:=nS (show KL N es from hin) h;refine ⟨fun v=>((tp N es).getD v 0).toNat,fun e he=>?_⟩;have h1:=hl.up e he;have h2:=hl.nn e.1.toNat;simp only at h1 h2 ⊢;omega
end
end Go.Proofs.YtneeknlhlkpnpaaGreat
