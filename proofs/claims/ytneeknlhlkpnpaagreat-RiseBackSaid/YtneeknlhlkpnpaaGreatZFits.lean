import Derived.Test.YtneeknlhlkpnpaaGreatZAng0
import Derived.Test.YtneeknlhlkpnpaaGreatZAng1
import Derived.Test.YtneeknlhlkpnpaaGreatZReg
import Derived.Test.YtneeknlhlkpnpaaGreatZVw
import Derived.Laws.CopyRow
import Derived.Laws.CopyOwn
import Derived.Laws.Bits64b
import Derived.Test.YtneeknlhlkpnpaaGreatZEul
import Derived.Test.YtneeknlhlkpnpaaGreatZRfs
/-
 The choice in memory; (*angle.choice).holders. Written by an AI agent.
-/
namespace Go.Proofs.YtneeknlhlkpnpaaGreat
open Go.RowKit
theorem pQ{w:World}{g h:Nat}{t t':TypeId}{cs cs':Array Value}(h1:Blk w g t cs)(h2:Blk w h t' cs')(ht:t≠t'):g≠h:=fun e=>by
 subst e;unfold Blk at h1 h2;rw [h1] at h2;injection h2 with h2;injection h2 with _ h2;exact ht h2
theorem jr.but{S:List Nat}{w w':World}{B:Nat}{A:Option Addr}{xs:List Value}(h:jr w B A xs)(hb:But S w w')(hB:B≤w.heap.size)(hS:∀k∈S,B≤k):jr w' B A xs:=
 h.keep fun p hp=>World.cell?_of_block (hb.block p.block (by omega) fun hs=>by have:=hS _ hs;omega)
def quL(V Fc Kd:Nat→Nat)(M:Nat):List (Nat×Nat×Nat×Nat):=(List.range M).map fun h=>(h,V h,Fc h,Kd h)
theorem Kb(V Fc Kd:Nat→Nat)(M:Nat):(quL V Fc Kd M).length=M:=by simp [quL]
theorem jr.qu{w:World}{B:Nat}{A:Option Addr}{V Fc Kd:Nat→Nat}{M:Nat}(h:jr w B A (qG (quL V Fc Kd M)))(hn:0<M) :
  ∃b off,A=some ⟨b,off,none⟩∧b<B ∧ ∀k,k<M→w.cell? ⟨b,off+k*4,none⟩=some (.int .i64 k)∧w.cell? ⟨b,off+k*4+1,none⟩=some (.int .i64 (V k:Nat))∧w.cell? ⟨b,off+k*4+2,none⟩=some (.int .i64 (Fc k:Nat))∧w.cell? ⟨b,off+k*4+3,none⟩=some (.int .i64 (Kd k:Nat)):=by
 obtain ⟨b,off,e,hb,hc⟩:=h.quads (by rw [Kb];omega);refine ⟨b,off,e,hb,fun k hk=>?_⟩;have:=hc k (by rw [Kb];exact hk);simpa [quL] using this
theorem ZR(n:Int)(es:List (Int×Int))(rs:List (List Int)):QO n es rs=quL (vtx es) (jY n es rs) (yE es rs) (2*es.length):=rfl
structure CLay where
 gc:Nat
 gr:Nat
 gg:Nat
 gs:Nat
 B:Nat
 Aa:Option Addr
 ca:Nat
section
variable {y:CLay}{V Fc Kd:Nat→Nat}{n M:Nat}{rm:List Int}{w w':World}{G:List Int}{S:List Bool}
end
end Go.Proofs.YtneeknlhlkpnpaaGreat
namespace Go.Proofs.YtneeknlhlkpnpaaGreat
open Go.RowKit
section
variable {V Fc:Nat→Nat}{n M:Nat}{rm:List Int}
end
end Go.Proofs.YtneeknlhlkpnpaaGreat
namespace Go.Proofs.YtneeknlhlkpnpaaGreat
open Go.RowKit
def Uy(l:List Int)(k:Nat):Int:=(l.take k).foldl min (l.getD 0 0)
theorem Vs{l:List Int}{k:Nat}(h:k<l.length):Uy l (k+1)=min (Uy l k) l[k]:=by
 unfold Uy;rw [List.take_succ_eq_append_getElem h,List.foldl_append];rfl
theorem bh{l:List Int}(h:0<l.length):Uy l 1=l[0]:=by
 rw [Vs h];unfold Uy;rw [List.getD_eq_getElem?_getD,List.getElem?_eq_getElem h];simp
set_option maxRecDepth 20000 in
set_option maxHeartbeats 1000000 in
theorem oK(A:Option Addr)(c:Nat)(l:List Int)(w:World)(h:jr w w.heap.size A (jf l))(hp:0<l.length)(hl:l.length≤100000) :
  Calls Tryz.prog 133 #[.slice A l.length c] w (fun e w'=>e = .returned (.int .i64 (Uy l l.length))∧w=w'):=by
 have H:=Lib.hid h;clear h;obtain ⟨b,off,rfl,hb,hc⟩:=H.out.ints hp;have e0:=hc 0 hp;simp only [Nat.add_zero] at e0;have HC:=Lib.hid hc;have hp':¬(l.length:Int)<1:=by omega
 have hp2:(0:Int)<l.length:=by omega
 have HM:=Lib.hid (bh hp);generalize l[0]=v0 at *;clear hc
 go_enter Tryz.func133,Tryz.ntmps133
 go_wp2_with fail
 go_loopg [3,4] (l.length-1) (fun k s3 s4 wr=>∃i:Nat,s4 = .int .i64 i∧s3 = .int .i64 (Uy l i)∧i≤l.length∧k=l.length-i∧w=wr)
 case atStart=>exact ⟨1,rfl,by rw [HM.out],by omega,rfl,rfl⟩
 case round=>
  obtain ⟨i,rfl,rfl,hi,hk,rfl⟩:=hrel;have Hk:=Lib.hid hk;clear hk;by_cases hlt:i<l.length
  ·have hlt':(i:Int)<l.length:=by omega
   have ei:=HC.out i hlt;have HS:=Lib.hid (Vs hlt);generalize l[i]=v at *;generalize Uy l i=m at *;have hmx:(if v<m then v else m)=min m v:=by split<;>omega
   go_wp2_with fail
   go_roundg (l.length-(i+1))
   case measure=>rw [Hk.out];omega
   case rel=>exact ⟨i+1,by go_num,by rw [HS.out],by omega,rfl,rfl⟩
  ·have hie:i=l.length:=by omega
   subst hie;have hlt':¬(l.length:Int)<l.length:=by omega
   go_wp2_with fail;go_ret;exact ⟨rfl,rfl⟩
end Go.Proofs.YtneeknlhlkpnpaaGreat
namespace Go.Proofs.YtneeknlhlkpnpaaGreat
open Go.RowKit
theorem mul_one(n:Nat)(hn:n≤1000)(w:World):Calls Tryz.prog 171 #[.int .u64 1,.int .u64 n] w fun e w'=>e = .returned (.tuple #[.int .u64 0,.int .u64 n])∧w=w':=by
 have e1:bits .and .u64 (n:Int) 4294967295=n:=by
  have:=bits_and_u64_nat n 4294967295 (by omega) (by omega);rw [show ((4294967295:Nat):Int)=4294967295 from rfl] at this;rw [this,show (4294967295:Nat)=2 ^ 32-1 from rfl,Nat.and_two_pow_sub_one_eq_mod,Nat.mod_eq_of_lt (by omega)]
 have e2:(n:Int)/4294967296=0:=by omega
 have e3:IntKind.u64.wrap (n:Int)=n:=by rw [IntKind.wrap_u64];omega
 go_enter Tryz.func171,Tryz.ntmps171
 go_wp2_with fail;go_ret2;refine ⟨?_,rfl⟩;rw [show bits .and .u64 1 4294967295=1 by decide,Int.one_mul,e3,e2];rw [show IntKind.u64.wrap 0=0 by decide,show (0:Int)/4294967296=0 by decide,show bits .and .u64 0 4294967295=0 by decide];simp
 decide
theorem oJ(n:Nat)(hn:n≤1000)(w:World):Calls Tryz.prog 168 #[.int .u64 1,.int .u64 n] w fun e w'=>e = .returned (.tuple #[.int .u64 0,.int .u64 n])∧w=w':=by
 go_enter Tryz.func168,Tryz.ntmps168
 go_wp2_with fail;refine (mul_one n hn w).mono ?_;rintro e w2 ⟨rfl,rfl⟩;go_wp2_with fail;go_ret2;exact ⟨rfl,rfl⟩
theorem Evo.setRow{B:Nat}{T:List TypeId}{w:World}{g:Nat}{t:TypeId}{cs:Array Value}(h:Blk w g t cs)(ht:t∈T)(hb:B≤g)(cs':Array Value):Evo B T w (w.setRow g cs'):=by
 refine ⟨rfl,rfl,rfl,by simp [World.setRow],fun k hk hc=>?_⟩;by_cases hkg:k=g
 ·subst hkg;rcases hc with h1 | h1
  ·omega
  ·exact absurd ht (h1 _ _ _ h)
 ·exact setRow_other w g k cs' (fun e=>hkg e)
def rK{B:Nat}(g:Nat)(D:Array Value)(u:Value):PFact B:=
 ⟨[3],[],fun _ v w=>v=u∧Blk w g 3 D,fun _ hT _ _ _ _ he hb=>⟨hb.1,hb.2.evo he (.inr (hT _ (by simp)))⟩,fun _ _ _ _ _ h=>h⟩
def JS(c:Int)(m n:Nat):List Value:=jf (List.replicate m c++List.replicate (n-m) 0)
theorem af{c:Int}{m n:Nat}(h:m≤n):(JS c m n).length=n:=by simp [JS,jf];omega
theorem lP{c:Int}{m k n:Nat}:(JS c m n).take m++(List.replicate k (Value.int .i64 c))++(JS c m n).drop (m+k)=JS c (m+k) n:=by
 unfold JS jf;rw [List.map_append,List.map_append,List.take_left' (by simp),List.drop_append,List.drop_of_length_le (by simp),←List.replicate_append_replicate,List.map_append];simp;omega
set_option maxRecDepth 20000 in
set_option maxHeartbeats 4000000 in
theorem cW(c:Int)(a n:Nat)(w:World)(ha:Blk w a 3 #[.int .i64 c])(hp:0<n)(hn:n≤1000) :
  Calls Tryz.prog 153 #[.slice (some ⟨a,0,none⟩) 1 1,.int .i64 n] w fun e w'=>∃g,e = .returned (.slice (some ⟨g,0,none⟩) n n)∧w.heap.size≤g∧Below w.heap.size w w'∧Blk w' g 3 (jf (List.replicate n c)).toArray:=by
 have e2:IntKind.u64.wrap (n:Int)=n:=by rw [IntKind.wrap_u64];omega
 have e3:IntKind.i64.wrap (n:Int)=n:=by rw [IntKind.wrap_i64];omega
 have e4:IntKind.u64.wrap (1:Int)=1:=by rw [IntKind.wrap_u64];omega
 have hmul:=oJ n hn w;have Ha:=Lib.hid ha
 go_enter Tryz.func153,Tryz.ntmps153
 go_wp2_with fail;refine hmul.mono ?_;rintro e w2 ⟨rfl,rfl⟩;have hmk:=fun W=>yz qz rfl n (by omega) (by omega) W;have HB3:=Lib.hid (Blk.new w 3 (Array.replicate n (.int .i64 0)));have HW3:=Lib.hid ((Below.refl w.heap.size w).alloc (Nat.le_refl _) (.cells (Array.replicate n (.int .i64 0)) 3));have hz3:=World.size_alloc w (.cells (Array.replicate n (.int .i64 0)) 3);have hal:=ha.lt;clear hmul ha
 go_upto_region 7 with fail
 generalize w.alloc (.cells (Array.replicate n (.int .i64 0)) 3)=w3 at *;have HZ3:=Lib.hid hz3;clear hz3;generalize hg:w.heap.size=g at *;have HG:=Lib.hid hg.symm
 have hcp:=run_copy_row (P:=Tryz.prog) w3 25 25 3 3 g 0 n n ⟨a,0,none⟩ 1 1 (Array.replicate n (.int .i64 0)) 3 [.int .i64 c] Tryz.underlying25 (by kernel_rfl) HB3.out
  (by show 1=min 1 n;omega) (fun j u hj=>by
   have h1:=(Ha.out.below HW3.out hal).cell j;rw [show (⟨a,0,none⟩:Addr).add j=⟨a,j,none⟩ by unfold Addr.add;split<;>simp_all,h1]
   simpa using hj) (by simp;omega) (by simp [Value.oneCell'])
 have HB4:=Lib.hid (show Blk (w3.setRow g ((Array.replicate n (Value.int .i64 0)).toList.take 0++[Value.int .i64 c]++(Array.replicate n (Value.int .i64 0)).toList.drop (0+[Value.int .i64 c].length)).toArray) g 3 (JS c 1 n).toArray by
  have:=setRow_heap w3 g (Array.replicate n (.int .i64 0)) ((Array.replicate n (Value.int .i64 0)).toList.take 0++[Value.int .i64 c]++(Array.replicate n (Value.int .i64 0)).toList.drop (0+[Value.int .i64 c].length)).toArray 3 (0,0) HB3.out;unfold Blk;rw [this]
  simp [JS,jf])
 have HW4:=Lib.hid (below_setRow HW3.out (Nat.le_refl _) ((Array.replicate n (Value.int .i64 0)).toList.take 0++[Value.int .i64 c]++(Array.replicate n (Value.int .i64 0)).toList.drop (0+[Value.int .i64 c].length)).toArray);have hgo:goInt [Value.int .i64 c].length = .int .i64 1:=rfl;rw [hgo] at hcp;generalize w3.setRow g ((Array.replicate n (Value.int .i64 0)).toList.take 0++[Value.int .i64 c]++(Array.replicate n (Value.int .i64 0)).toList.drop (0+[Value.int .i64 c].length)).toArray=w4 at *;clear hmk hal hgo;go_wp2_with fail;clear hcp
 go_loopg [8] (n-1) (fun k s8 wr=>∃m:Nat,s8 = .int .i64 m∧0<m∧m≤n∧k=n-m∧Below g w wr∧Blk wr g 3 (JS c m n).toArray)
 case atStart=>exact ⟨1,rfl,by omega,by omega,rfl,HW4.out,HB4.out⟩
 case round=>
  obtain ⟨m,rfl,hm0,hm,hk,hb,hbl⟩:=hrel;have Hk:=Lib.hid hk;have HB:=Lib.hid hb;have HBL:=Lib.hid hbl;have hgr:=hbl.lt;clear hk hb hbl;by_cases hlt:m<n
  ·have hlt':(m:Int)<n:=by omega
   obtain ⟨k,hkk⟩:∃k,k=min m (n-m):=⟨_,rfl⟩;have HK:=Lib.hid hkk;have hk1:m+k≤n:=by omega
   have hk0:0<k:=by omega
   have hwk:IntKind.i64.wrap ((m:Int)+k)=(m:Int)+k:=by rw [IntKind.wrap_i64];omega
   obtain ⟨D1,hD1⟩:∃D,D=(JS c (m+k) n).toArray:=⟨_,rfl⟩;have HD1:=Lib.hid hD1
   have hcp:=Lib.hid (fun (wv:World) (h:Blk wv g 3 (JS c m n).toArray)=>run_copy_row (P:=Tryz.prog) wv 25 25 3 3 g m (n-m) (n-m) ⟨g,0,none⟩ m n (JS c m n).toArray 3 (List.replicate k (Value.int .i64 c)) Tryz.underlying25 (by kernel_rfl) h
    (by rw [List.length_replicate];exact hkk) (fun j u hj=>by
     have h1:=h.cell j;rw [show (⟨g,0,none⟩:Addr).add j=⟨g,j,none⟩ by unfold Addr.add;split<;>simp_all,h1];rw [List.getElem?_replicate] at hj
     split at hj
     ·rename_i hjk;injection hj with hj;subst hj;unfold JS jf;simp [List.getElem?_append,show j<m by omega]
     ·cases hj) (by simp [af hm];exact hk1) (fun v hv=>by rw [(List.mem_replicate.1 hv).2];rfl))
   have HCD:=Lib.hid (show ((JS c m n).toArray.toList.take m++List.replicate k (Value.int .i64 c)++(JS c m n).toArray.toList.drop (m+(List.replicate k (Value.int .i64 c)).length)).toArray=D1 by
    rw [List.length_replicate,hD1];congr 1
    exact lP)
   have hcg:goInt (List.replicate k (Value.int .i64 c)).length = .int .i64 k:=by rw [List.length_replicate];rfl
   have HCG:=Lib.hid hcg;clear hkk hD1 hcg
   go_upto_region 9 with fail
   refine R3.wp_region_i g [[],[3]] [0,0,0,0,0,0,0,1,0,0]
    [([],.val (.int .i64 m)),([],.val (.slice (some ⟨g,0,none⟩) n n)),([],.val (.int .i64 m)),([1,2],.val (.slice (some ⟨g,m,none⟩) (n-m) (n-m))),([],.val (.slice (some ⟨g,0,none⟩) n n)),([],.val (.int .i64 m)),([4,5],.val (.slice (some ⟨g,0,none⟩) m n)),([3,6],rK g D1 (.int .i64 k)),([0,7],.val (.int .i64 (m+k))),([8],.val (.int .i64 (m+k)))] [9,7] (by kernel_rfl) (by kernel_rfl) (fun us=>?_) ?_
   ·refine R3.pgo_pure _ rfl rfl (fun wv hw hu=>⟨.int .i64 m,?_,rfl⟩) ?_
    ·have tok:=True.intro;clear hw hu;go_simp
    refine R3.pgo_pure _ rfl rfl (fun wv hw hu=>⟨.slice (some ⟨g,0,none⟩) n n,?_,rfl⟩) ?_
    ·have tok:=True.intro;clear hw hu;go_simp
    refine R3.pgo_pure _ rfl rfl (fun wv hw hu=>⟨.int .i64 m,?_,rfl⟩) ?_
    ·have tok:=True.intro;clear hw hu;go_simp
    refine R3.pgo_pure _ rfl rfl (fun wv hw hu=>⟨.slice (some ⟨g,m,none⟩) (n-m) (n-m),?_,rfl⟩) ?_
    ·have tok:=True.intro;have h1:us 1 = .slice (some ⟨g,0,none⟩) n n:=hu.1;have h2:us 2 = .int .i64 m:=hu.2.1;have hnm:¬n=m:=by omega
     clear hw hu;go_simp
    refine R3.pgo_pure _ rfl rfl (fun wv hw hu=>⟨.slice (some ⟨g,0,none⟩) n n,?_,rfl⟩) ?_
    ·have tok:=True.intro;clear hw hu;go_simp
    refine R3.pgo_pure _ rfl rfl (fun wv hw hu=>⟨.int .i64 m,?_,rfl⟩) ?_
    ·have tok:=True.intro;clear hw hu;go_simp
    refine R3.pgo_pure _ rfl rfl (fun wv hw hu=>⟨.slice (some ⟨g,0,none⟩) m n,?_,rfl⟩) ?_
    ·have tok:=True.intro;have h4:us 4 = .slice (some ⟨g,0,none⟩) n n:=hu.1;have h5:us 5 = .int .i64 m:=hu.2.1;clear hw hu;go_simp
    refine R3.pgo_val _ rfl rfl (fun wv hw hu=>?_) ?_
    ·have tok:=True.intro;have h3:us 3 = .slice (some ⟨g,m,none⟩) (n-m) (n-m):=hu.1;have h6:us 6 = .slice (some ⟨g,0,none⟩) m n:=hu.2.1;have h3:us 3 = .slice (some ⟨g,m,none⟩) (n-m) (n-m):=hu.1;have h6:us 6 = .slice (some ⟨g,0,none⟩) m n:=hu.2.1;have hbv:Blk wv g 3 (JS c m n).toArray:=(HBL.out.drew.evo hw (.inr (of_decide_eq_true (by kernel_rfl))));have hrun:=hcp.out wv hbv;have hbl2:=setRow_heap wv g (JS c m n).toArray ((JS c m n).toArray.toList.take m++List.replicate k (Value.int .i64 c)++(JS c m n).toArray.toList.drop (m+(List.replicate k (Value.int .i64 c)).length)).toArray 3 (0,0) hbv;rw [HCG.out] at hrun;rw [HCD.out] at hrun hbl2;refine ⟨.int .i64 k,wv.setRow g D1,?_,Evo.setRow hbv (by simp) (Nat.le_refl _) _,rfl,hbl2⟩;clear hw hu hbv hbl2;go_simp
    refine R3.pgo_pure _ rfl rfl (fun wv hw hu=>⟨.int .i64 (m+k),?_,rfl⟩) ?_
    ·have tok:=True.intro;have h0:us 0 = .int .i64 m:=hu.1;have h7:us 7 = .int .i64 k:=hu.2.1.1;clear hw hu;go_simp
    refine R3.pgo_pure _ rfl rfl (fun wv hw hu=>⟨.int .i64 (m+k),?_,rfl⟩) ?_
    ·have tok:=True.intro;have h8:us 8 = .int .i64 (m+k):=hu.1;clear hw hu;go_simp
    trivial
   ·intro us w6 hw hu;have h9:us 9 = .int .i64 (m+k):=hu.1;have HB6:=Lib.hid (show Blk w6 g 3 (JS c (m+k) n).toArray by rw [←HD1.out];exact hu.2.1.2);have HW6:=Lib.hid (HB.out.trans (vG (hw.below (by simp only [World.size_drew];omega))));clear hw hu;simp only [kx];go_simp;go_wp2_with fail
    go_roundg (n-(m+k))
    case measure=>rw [Hk.out];omega
    case rel=>exact ⟨m+k,by go_num,by omega,hk1,rfl,HW6.out,HB6.out⟩
  ·have hme:m=n:=by omega
   have hlt':¬(m:Int)<n:=by omega
   have HF:=Lib.hid (show Blk wr g 3 (jf (List.replicate n c)).toArray by
    have:=HBL.out;rw [hme] at this
    simpa [JS] using this)
   clear HBL hme;go_wp2_with fail;go_ret;exact ⟨g,rfl,Nat.le_refl _,HB.out,HF.out⟩
end Go.Proofs.YtneeknlhlkpnpaaGreat
namespace Go.Proofs.YtneeknlhlkpnpaaGreat
open Go.RowKit
def zu(Fc Kd:Nat→Nat)(F f0 k:Nat):List Int:=(List.range F).map fun f=>(if f=f0 then 1 else -1)+(((List.range k).countP fun h=>decide (Kd h=2)&&decide (Fc h=f):Nat):Int)
theorem yY(Fc Kd:Nat→Nat)(F f0 k:Nat):(zu Fc Kd F f0 k).length=F:=by simp [zu]
theorem XR(Fc Kd:Nat→Nat)(F f0:Nat):zu Fc Kd F f0 0=(List.replicate F (-1)).set f0 1:=by
 apply List.ext_getElem
 ·simp [zu]
 ·intro i h1 h2;rw [List.getElem_set];by_cases h:i=f0
  ·subst h;simp [zu]
  ·have h':¬f0=i:=fun e=>h e.symm;simp [zu,h,h']
theorem XS{Fc Kd:Nat→Nat}{F f0 k:Nat}:zu Fc Kd F f0 (k+1)=if Kd k=2 then (zu Fc Kd F f0 k).set (Fc k) ((zu Fc Kd F f0 k).getD (Fc k) 0+1) else zu Fc Kd F f0 k:=by
 by_cases h:Kd k=2
 ·rw [if_pos h];apply List.ext_getElem
  ·simp [zu]
  ·intro i h1 h2;have hi:i<F:=by simpa [zu] using h1
   rw [List.getElem_set];simp only [zu,List.getElem_map,List.getElem_range,List.range_succ,List.countP_append,List.countP_cons,List.countP_nil];by_cases e:Fc k=i
   ·subst e;rw [if_pos rfl,List.getD_eq_getElem?_getD,List.getElem?_map,List.getElem?_range hi];simp [h];omega
   ·rw [if_neg e,decide_eq_false e];simp
 ·rw [if_neg h];apply List.ext_getElem
  ·simp [zu]
  ·intro i h1 h2;simp only [zu,List.getElem_map,List.getElem_range,List.range_succ,List.countP_append,List.countP_cons,List.countP_nil];rw [decide_eq_false h];simp
theorem Zz{Fc Kd:Nat→Nat}{F f0 k:Nat}{x:Int}(h:x∈zu Fc Kd F f0 k) : -1≤x∧x≤k+1:=by
 obtain ⟨f,_,rfl⟩:=List.mem_map.1 h;have:((List.range k).countP fun h=>decide (Kd h=2)&&decide (Fc h=f))≤k:=Nat.le_trans List.countP_le_length (by simp)
 split<;>omega
theorem bm{l:List Int}:∀k,0<k→k≤l.length→Uy l k∈l
 | 0,h,_=>absurd h (Nat.lt_irrefl _)
 | 1,_,h=>by rw [bh (by omega)];exact List.getElem_mem _
 | k+2,_,h=>by
  have ih:=bm (l:=l) (k+1) (by omega) (by omega);rw [Vs (by omega)];rcases Int.le_total (Uy l (k+1)) l[k+1] with e | e
  ·rw [Int.min_eq_left e];exact ih
  ·rw [Int.min_eq_right e];exact List.getElem_mem _
end Go.Proofs.YtneeknlhlkpnpaaGreat
/-
 Sources and sinks: the program's and the reference's. Written by an AI agent.
-/
namespace Go.Proofs.YtneeknlhlkpnpaaGreat
open Go.RowKit
def Uf(ls:List (List Int))(i:Nat):List Nat:=(List.range i).filter fun x=>decide ((ls.getD x []).length=0)
def zo(ls:List (List Int))(i:Nat):List Int:=(Uf ls i).map fun z:Nat=>(z:Int)
theorem Kw(ls:List (List Int))(i:Nat):zo ls (i+1)=zo ls i++if (ls.getD i []).length=0 then [(i:Int)] else []:=by
 unfold zo Uf;rw [List.range_succ,List.filter_append,List.map_append];congr 1;by_cases h:(ls.getD i []).length=0
 ·rw [if_pos h,List.filter_cons,decide_eq_true h];rfl
 ·rw [if_neg h,List.filter_cons,decide_eq_false h];rfl
theorem KQ(ls:List (List Int))(i:Nat):(zo ls i).length≤i:=by
 unfold zo Uf;rw [List.length_map];exact Nat.le_trans (List.length_filter_le _ _) (by simp)
def QN(l:List Int)(w:World)(e:Ending)(w':World):Prop:=∃v,e = .returned v∧Below w.heap.size w w'∧w'.ownsRow w.heap.size 3 1 v l.length (jf l)
set_option maxRecDepth 20000 in
set_option maxHeartbeats 4000000 in
theorem mO(C:Option Addr)(cap:Nat)(ls:List (List Int))(w:World)(hrs:qm w w.heap.size C ls)(hl:ls.length≤1000)(hl2:∀l∈ls,l.length≤10000) :
  Calls Tryz.prog 109 #[.slice C ls.length cap] w (QN (zo ls ls.length) w):=by
 have HR:=Lib.hid hrs;have HL:=Lib.hid hl2;clear hrs hl2
 go_enter Tryz.func109,Tryz.ntmps109
 go_wp2_with fail
 go_loopg [2,7] ls.length (fun k s2 s7 wr=>∃i:Nat,s7 = .int .i64 i∧i≤ls.length∧k=ls.length-i∧Below w.heap.size w wr∧wr.ownsRow w.heap.size 3 1 s2 (zo ls i).length (jf (zo ls i)))
 case atStart=>exact ⟨0,rfl,Nat.zero_le _,rfl,Below.refl _ _,rfl,.inl ⟨rfl,rfl⟩⟩
 case round=>
  obtain ⟨i,rfl,hi,hk,hb,hown⟩:=hrel;have Hk:=Lib.hid hk;have HB:=Lib.hid hb;have HOW:=Lib.hid hown;obtain ⟨A2,c2,rfl⟩:=jv hown;clear hk hb hown;by_cases hil:i<ls.length
  ·have hil':(i:Int)<ls.length:=by omega
   obtain ⟨b,off,rfl,hbb,hcc⟩:=(HR.out.below HB.out) (by omega);obtain ⟨Ai,ci,zi,_⟩:=hcc i hil;have HS:=Lib.hid (Kw ls i);have hge:ls.getD i []=ls[i]:=by rw [List.getD_eq_getElem?_getD,List.getElem?_eq_getElem hil];rfl
   have hll:=HL.out _ (List.getElem_mem hil);rw [hge] at HS;obtain ⟨m,hm⟩:∃m,m=ls[i].length:=⟨_,rfl⟩;rw [←hm] at zi HS hll;have hle:=KQ ls i;clear hcc hm hge;by_cases hm0:m=0
   ·subst hm0;have HS2:=Lib.hid (show zo ls (i+1)=zo ls i++[(i:Int)] by rw [HS.out,if_pos rfl]);have hzw:=HB.out.size;go_wp2_with (at_builtin;refine yC qz rfl _ _ rfl w.heap.size (.slice A2 (zo ls i).length c2) _ _ rfl wr.heap.size [.int .i64 (i:Int)] rfl rfl HOW.out rfl rfl ?x2 ?x3 ?x4 ?_)
    case x2=>omega
    case x3=>omega
    try (case x4=>omega)
    intro v10 w10 ho10 hg10 hb10;have HBX:=Lib.hid (qb HB.out HOW.out hg10 hzw (Nat.le_refl _))
    have HOX:=Lib.hid (show w10.ownsRow w.heap.size 3 1 v10 (zo ls (i+1)).length (jf (zo ls (i+1))) by
     rw [HS2.out]
     simpa [jf] using ho10)
    clear ho10 hg10 hb10;go_wp2_with fail
    go_roundg (ls.length-(i+1))
    case measure=>rw [Hk.out];omega
    case rel=>exact ⟨i+1,by go_num,by omega,rfl,HBX.out,HOX.out⟩
   ·have hm0':((m:Int)==0)=false:=by rw [beq_eq_false_iff_ne];omega
    have HS2:=Lib.hid (show zo ls (i+1)=zo ls i by rw [HS.out,if_neg hm0,List.append_nil]);have HOX:=Lib.hid (show wr.ownsRow w.heap.size 3 1 (.slice A2 (zo ls i).length c2) (zo ls (i+1)).length (jf (zo ls (i+1))) by rw [HS2.out];exact HOW.out);clear hm0;go_wp2_with fail
    go_roundg (ls.length-(i+1))
    case measure=>rw [Hk.out];omega
    case rel=>exact ⟨i+1,by go_num,by omega,rfl,HB.out,HOX.out⟩
  ·have hie:i=ls.length:=by omega
   have hil':¬(i:Int)<ls.length:=by omega
   have HOX:=Lib.hid (show wr.ownsRow w.heap.size 3 1 (.slice A2 (zo ls i).length c2) (zo ls ls.length).length (jf (zo ls ls.length)) by rw [←hie];exact HOW.out);clear hie;go_wp2_with fail;go_ret;exact ⟨_,rfl,HB.out,HOX.out⟩
def zJ(n:Nat)(es:List (Int×Int))(f:Int×Int→Int):List (List Int):=(List.range n).map fun x:Nat=>jK es f x es.length
theorem yX(n:Nat)(es:List (Int×Int))(f:Int×Int→Int):(zJ n es f).length=n:=by simp [zJ]
theorem ey{w:World}{base g n:Nat}{t:TypeId}{vs:List Value}{ls:List (List Int)}(hb:Blk w g t vs.toArray)(hv:vs.length=n)(hl:ls.length=n)(ho:∀k (h:k<vs.length) (h':k<ls.length),w.ownsRow base 3 1 vs[k] ls[k].length (jf ls[k])):qm w w.heap.size (some ⟨g,0,none⟩) ls:=fun _=>by
 refine ⟨g,0,rfl,hb.lt,fun i hi=>?_⟩;have h1:=ho i (by omega) hi;obtain ⟨Ai,ci,e⟩:=jv h1;rw [e] at h1;refine ⟨Ai,ci,?_,jr.of_own h1⟩;rw [Nat.zero_add,hb.cell i];simp [List.getElem?_eq_getElem (show i<vs.length by omega),e]
theorem zC.tabs{w:World}{gv n:Nat}{es:List (Int×Int)}(h:zC w gv n es):∃(A:Option Addr) (c go gi:Nat),Blk w gv 91 #[.int .i64 n,.slice A es.length c,.slice (some ⟨go,0,none⟩) n n,.slice (some ⟨gi,0,none⟩) n n] ∧
  qm w w.heap.size (some ⟨go,0,none⟩) (zJ n es Prod.fst)∧qm w w.heap.size (some ⟨gi,0,none⟩) (zJ n es Prod.snd):=by
 obtain ⟨A,c,go,gi,os,is,h1,h2,h3,h4,h5,h6,h7⟩:=h;refine ⟨A,c,go,gi,h1,ey (base:=0) h5 h3 (yX _ _ _) fun k hk hk'=>?_,ey (base:=0) h6 h4 (yX _ _ _) fun k hk hk'=>?_⟩
 ·have:=h7.own k (by rw [List.length_append];omega) (by rw [Kl];omega);rw [List.getElem_append_left hk,JE (by omega)] at this;simpa [zJ] using this
 ·have:=h7.own (n+k) (by rw [List.length_append];omega) (by rw [Kl];omega);rw [ug (by omega),List.getElem_append_right (by omega)] at this;simpa [zJ,h3] using this
def xg(n:Nat)(es:List (Int×Int))(f:Int×Int→Int):List Nat:=Uf (zJ n es f) n
theorem vL{n:Nat}{es:List (Int×Int)}{f:Int×Int→Int}{x:Nat}:x∈xg n es f↔x<n ∧ ∀i,i<es.length→f (es.getD i (0,0))≠(x:Int):=by
 unfold xg Uf;rw [List.mem_filter,List.mem_range];constructor
 ·rintro ⟨hx,h⟩;refine ⟨hx,fun i hi e=>?_⟩;unfold zJ at h;rw [List.getD_eq_getElem?_getD,List.getElem?_map,List.getElem?_range hx] at h;simp only [Option.map_some,Option.getD_some,decide_eq_true_eq,List.length_eq_zero_iff] at h;have:(i:Int)∈jK es f x es.length:=ql.2 ⟨i,rfl,hi,e⟩;rw [h] at this
  cases this
 ·rintro ⟨hx,h⟩;refine ⟨hx,?_⟩;unfold zJ;rw [List.getD_eq_getElem?_getD,List.getElem?_map,List.getElem?_range hx];simp only [Option.map_some,Option.getD_some,decide_eq_true_eq,List.length_eq_zero_iff];apply List.eq_nil_iff_forall_not_mem.2;intro a ha;obtain ⟨i,_,hi,e⟩:=ql.1 ha;exact h i hi e
def qU(n:Nat)(es:List (Int×Int))(f:Int×Int→Int):List Int:=(xg n es f).map fun z:Nat=>(z:Int)
theorem lJ{n:Nat}{es:List (Int×Int)}{f:Int×Int→Int}(hl:es.length≤1000):∀l∈zJ n es f,l.length≤10000:=by
 intro l hl2;obtain ⟨x,_,rfl⟩:=List.mem_map.1 hl2;have:=qd es f x es.length;omega
set_option maxRecDepth 20000 in
theorem VO(gv n:Nat)(es:List (Int×Int))(w:World)(hv:zC w gv n es)(hn:n≤1000)(hl:es.length≤1000) :
  Calls Tryz.prog 55 #[.pointer (some ⟨gv,0,none⟩)] w (QN (qU n es Prod.snd) w):=by
 obtain ⟨A,c,go,gi,h1,h2,h3⟩:=hv.tabs;have hb:=mO (some ⟨gi,0,none⟩) n (zJ n es Prod.snd) w h3 (by rw [yX];exact hn) (lJ hl);rw [yX] at hb;have H3:=Lib.hid h3;have c3:=h1.cell 3;simp only [List.getElem?_toArray,List.getElem?_cons_zero,List.getElem?_cons_succ] at c3;clear h1 h2 h3 hv
 go_enter Tryz.func55,Tryz.ntmps55
 go_wp2_with fail;refine hb.mono ?_;rintro e w2 ⟨v,rfl,hb2,ho2⟩;have HB2:=Lib.hid hb2;have HO2:=Lib.hid ho2;clear hb hb2 ho2;go_wp2_with fail;go_ret;exact ⟨v,rfl,HB2.out,HO2.out⟩
end Go.Proofs.YtneeknlhlkpnpaaGreat
namespace Go.Proofs.YtneeknlhlkpnpaaGreat
open Go.RowKit
def xM(n:Nat)(es:List (Int×Int)):List Nat:=xg n es Prod.snd++xg n es Prod.fst
def cE(n:Nat)(es:List (Int×Int)):List Int:=(xM n es).map fun z:Nat=>(z:Int)
theorem WY(n:Nat)(es:List (Int×Int)):(cE n es).length=(xM n es).length:=by simp [cE]
theorem ZJ{n:Nat}{es:List (Int×Int)}{x:Nat}(h:x∈xM n es):x<n:=by
 unfold xM at h;rw [List.mem_append,vL,vL] at h;rcases h with h | h<;>exact h.1
theorem Jr(n:Nat)(es:List (Int×Int))(f:Int×Int→Int):(xg n es f).length≤n:=by
 have:=KQ (zJ n es f) n;simpa [zo,xg] using this
theorem mC(n:Nat)(es:List (Int×Int)):(xM n es).length≤2*n:=by
 unfold xM;rw [List.length_append];have:=Jr n es Prod.snd;have:=Jr n es Prod.fst;omega
end Go.Proofs.YtneeknlhlkpnpaaGreat
namespace Go.Proofs.YtneeknlhlkpnpaaGreat
open Go.RowKit
theorem oZ{R:Nat→Nat→Prop}{N:Nat}(hR:Equ N R)(h:cls R N=1):∀x,x<N→R 0 x:=by
 intro x hx;obtain ⟨y,hyx,hy,hl⟩:=xG (P:=fun y=>R y x) (hR.refl x hx);by_cases h0:y=0
 ·subst h0;exact hy
 ·exfalso;obtain ⟨d,hd⟩:∃d,N=y+(1+d):=⟨N-y-1,by omega⟩;unfold cls at h;rw [hd,List.range_add,List.countP_append,List.range_add,List.map_append,List.countP_append] at h;have h1:0<(List.range y).countP fun h=>tst (∀k,k<h → ¬R k h):=List.countP_pos_iff.2 ⟨0,List.mem_range.2 (by omega),jB.2 fun k hk=>absurd hk (Nat.not_lt_zero _)⟩;have h2:0<(List.map (fun x=>y+x) (List.range 1)).countP fun h=>tst (∀k,k<h → ¬R k h):=List.countP_pos_iff.2 ⟨y,by simp,jB.2 fun k hk hr=>hl k hk (hR.trans k y x (by omega) (by omega) hx hr hy)⟩;omega
theorem Yi{R:Nat→Nat→Prop}{N:Nat}(hN:0<N)(h:∀x,x<N→R 0 x):cls R N=1:=by
 unfold cls;obtain ⟨d,rfl⟩:∃d,N=1+d:=⟨N-1,by omega⟩;rw [List.range_add,List.countP_append]
 have h1:(List.range 1).countP (fun h=>tst (∀k,k<h → ¬R k h))=1:=by
  have:tst (∀k,k<0 → ¬R k 0)=true:=jB.2 fun k hk=>absurd hk (Nat.not_lt_zero _);rw [show List.range 1=[0] from rfl,List.countP_cons,this];rfl
 have h2:(List.map (fun x=>1+x) (List.range d)).countP (fun h=>tst (∀k,k<h → ¬R k h))=0:=by
  rw [List.countP_eq_zero];intro z hz ht;obtain ⟨j,hj,rfl⟩:=List.mem_map.1 hz;have hj:=List.mem_range.1 hj;exact jB.1 ht 0 (by omega) (h _ (by omega))
 omega
def dM(most:Nat)(es:List (Int×Int))(rs:List (List Int))(w:World)(e:Ending)(w':World):Prop:=∃b,e = .returned (.bool b)∧Below w.heap.size w w'∧(b=false→es.length≤most∧rs.length≤70 ∧ ∀l∈rs,l.length≤200)
set_option maxHeartbeats 2000000 in
theorem dp(n:Int)(A C:Option Addr)(cap ccap:Nat)(es:List (Int×Int))(rs:List (List Int))(most:Nat)(w:World)(hrs:qm w w.heap.size C rs) :
  Calls Tryz.prog 25 #[.agg #[.int .i64 n,.slice A es.length cap],.slice C rs.length ccap,.int .i64 most] w (dM most es rs w):=by
 go_enter Tryz.func25,Tryz.ntmps25
 have hbw:=(Below.refl w.heap.size w).alloc (Nat.le_refl _) (.cells #[.int .i64 n,.slice A es.length cap] 24);by_cases h1:most<es.length
 ·have h1':(most:Int)<es.length:=by omega
  go_wp2_with fail;go_ret;exact ⟨true,rfl,hbw,fun h=>by cases h⟩
 have h1':¬(most:Int)<es.length:=by omega
 have h1'':decide ((most:Int)<es.length)=false:=decide_eq_false h1';by_cases h2:70<rs.length
 ·go_wp2_with fail;go_ret;exact ⟨true,rfl,hbw,fun h=>by cases h⟩
 have hrs1:=hrs.below hbw;go_wp2_with fail;generalize w.alloc (.cells #[.int .i64 n,.slice A es.length cap] 24)=w1 at *
 go_loopg [21] rs.length (fun k s18 wr=>∃i:Nat,s18 = .int .i64 i∧i≤rs.length∧k=rs.length-i∧wr=w1 ∧ ∀j (hj:j<rs.length),j<i→rs[j].length≤200)
 case atStart=>exact ⟨0,rfl,Nat.zero_le _,rfl,rfl,fun j _ hj=>absurd hj (by omega)⟩
 case round=>
  obtain ⟨i,rfl,hi,hk,hwr,hs⟩:=hrel;have Hk:=Lib.hid hk;clear hk;have Hs:=Lib.hid hs;clear hs;by_cases hlt:i<rs.length
  ·have hlt':(i:Int)<rs.length:=by omega
   obtain ⟨b,off,rfl,hbb,hc⟩:=hrs1 (by omega);obtain ⟨Ai,ci,e0,_⟩:=hc i hlt;have e0:wr.cell? ⟨b,off+i,none⟩=some (.slice Ai rs[i].length ci):=by rw [hwr];exact e0
   have HB:=Lib.hid (show Below w.heap.size w wr by rw [hwr];exact hbw)
   have HH:=Lib.hid (fun (h:rs[i].length≤200)=>(fun j (hj:j<rs.length) (hji:j<i+1)=>(by
    by_cases h0:j=i
    ·subst h0;exact h
    ·exact Hs.out j hj (by omega):rs[j].length≤200)))
   have Hwr:=Lib.hid hwr;clear hc hwr;generalize rs[i]=l at *;by_cases hl:200<l.length
   ·go_wp2_with fail;go_ret;exact ⟨true,rfl,HB.out,fun h=>by cases h⟩
   ·have H2:=Lib.hid (HH.out (by omega));go_wp2_with fail
    go_roundg (rs.length-(i+1))
    case measure=>rw [Hk.out];omega
    case rel=>exact ⟨i+1,by go_num,by omega,rfl,Hwr.out,H2.out⟩
  ·have HB:=Lib.hid (show Below w.heap.size w wr by rw [hwr];exact hbw)
   have HR:=Lib.hid (show ∀l∈rs,l.length≤200 from fun l hl=>by
    obtain ⟨j,hj,rfl⟩:=List.mem_iff_getElem.1 hl
    exact Hs.out j hj (by omega))
   have Hwr:=Lib.hid hwr;clear hwr;go_wp2_with fail;go_ret;exact ⟨false,rfl,HB.out,fun _=>⟨by omega,by omega,HR.out⟩⟩
end Go.Proofs.YtneeknlhlkpnpaaGreat
namespace Go.Proofs.YtneeknlhlkpnpaaGreat
open Go.RowKit
theorem VN:cls (Q [(0,1)] 1) 2=1:=Yi (by omega) fun x hx=>by
 match x,hx with
 | 0,_=>exact .refl 0
 | 1,_=>exact .head ⟨0,by simp,by simp,.inl rfl⟩ (.refl 1)
theorem Hj:gen 2 [(0,1)] [[0],[1]]=0:=by
 unfold gen;rw [show jE 2 [(0,1)] [[0],[1]]=[[0,1]] by decide +kernel,show ([(0,1)]:List (Int×Int)).length=1 from rfl,show ([[0],[1]]:List (List Int)).length=2 from rfl,VN,show iso [[0],[1]]=0 by decide +kernel];rfl
theorem Hu:xy 2 [(0,1)] [[0],[1]]=true:=by
 unfold xy;rw [Hj,show ([(0,1)]:List (Int×Int)).length=1 from rfl,show ([[0],[1]]:List (List Int)).length=2 from rfl,VN,show yn 2 [(0,1)] [[0],[1]]=true by decide +kernel,show kO 2 [(0,1)]=true by decide +kernel];rfl
theorem pB(w:World):qm (((w.alloc (.cells #[.int .i64 0] 3)).alloc (.cells #[.int .i64 1] 3)).alloc (.cells #[.slice (some ⟨w.heap.size,0,none⟩) 1 1,.slice (some ⟨w.heap.size+1,0,none⟩) 1 1] 25)) (((w.alloc (.cells #[.int .i64 0] 3)).alloc (.cells #[.int .i64 1] 3)).alloc (.cells #[.slice (some ⟨w.heap.size,0,none⟩) 1 1,.slice (some ⟨w.heap.size+1,0,none⟩) 1 1] 25)).heap.size (some ⟨w.heap.size+1+1,0,none⟩) [[0],[1]] ∧
  Below w.heap.size w (((w.alloc (.cells #[.int .i64 0] 3)).alloc (.cells #[.int .i64 1] 3)).alloc (.cells #[.slice (some ⟨w.heap.size,0,none⟩) 1 1,.slice (some ⟨w.heap.size+1,0,none⟩) 1 1] 25)):=by
 have b1:=Blk.new w 3 #[.int .i64 0];have z1:=World.size_alloc w (.cells #[.int .i64 0] 3);have k1:=(Below.refl w.heap.size w).alloc (Nat.le_refl _) (.cells #[.int .i64 0] 3);generalize w.alloc (.cells #[.int .i64 0] 3)=w1 at *;have b2:=Blk.new w1 3 #[.int .i64 1];have b1':=b1.alloc (.cells #[.int .i64 1] 3);have z2:=World.size_alloc w1 (.cells #[.int .i64 1] 3);have k2:=k1.alloc (by omega) (.cells #[.int .i64 1] 3);generalize w1.alloc (.cells #[.int .i64 1] 3)=w2 at *;have b3:=Blk.new w2 25 #[.slice (some ⟨w.heap.size,0,none⟩) 1 1,.slice (some ⟨w.heap.size+1,0,none⟩) 1 1];have b1'':=b1'.alloc (.cells #[.slice (some ⟨w.heap.size,0,none⟩) 1 1,.slice (some ⟨w.heap.size+1,0,none⟩) 1 1] 25);have b2':=b2.alloc (.cells #[.slice (some ⟨w.heap.size,0,none⟩) 1 1,.slice (some ⟨w.heap.size+1,0,none⟩) 1 1] 25);have z3:=World.size_alloc w2 (.cells #[.slice (some ⟨w.heap.size,0,none⟩) 1 1,.slice (some ⟨w.heap.size+1,0,none⟩) 1 1] 25);have k3:=k2.alloc (by omega) (.cells #[.slice (some ⟨w.heap.size,0,none⟩) 1 1,.slice (some ⟨w.heap.size+1,0,none⟩) 1 1] 25);generalize w2.alloc (.cells #[.slice (some ⟨w.heap.size,0,none⟩) 1 1,.slice (some ⟨w.heap.size+1,0,none⟩) 1 1] 25)=w3 at *;rw [z1] at b2';rw [z2,z1] at b3;refine ⟨fun _=>⟨w.heap.size+1+1,0,rfl,by omega,fun i hi=>?_⟩,k3⟩
 match i,hi with
 | 0,_=>exact ⟨_,1,b3.cell 0,(jr.blk' (xs:=jf [0]) b1'').more (by omega)⟩
 | 1,_=>exact ⟨_,1,b3.cell 1,(jr.blk' (xs:=jf [1]) b2').more (by omega)⟩
end Go.Proofs.YtneeknlhlkpnpaaGreat
/-
 Euler's inequality for any permutation and the pairs of half edges (plain law). Written by an AI agent.
-/
namespace Go.Proofs.YtneeknlhlkpnpaaGreat
open Go.RowKit
def ppk(s:Nat→Nat):Nat→Nat→Nat
 | 0=>s
 | k+1=>fun z=>ppk s k (swp (2*k) (2*k+1) z)
def ppR(s:Nat→Nat):Nat→Nat→Nat→Prop
 | 0=>Orb s
 | k+1=>xZ (ppR s k) (2*k) (2*k+1)
theorem ia{N:Nat}{R:Nat→Nat→Prop}(hR:Equ N R){a b:Nat}(ha:a<N)(hb:b<N):Equ N (xZ R a b):=by
 refine ⟨fun x hx=>.inl (hR.refl x hx),fun x y hx hy h=>?_,fun x y z hx hy hz h k=>?_⟩
 ·rcases h with h | ⟨h1,h2⟩ | ⟨h1,h2⟩
  ·exact .inl (hR.symm _ _ hx hy h)
  ·exact .inr (.inr ⟨hR.symm _ _ hb hy h2,hR.symm _ _ hx ha h1⟩)
  ·exact .inr (.inl ⟨hR.symm _ _ ha hy h2,hR.symm _ _ hx hb h1⟩)
 ·rcases h with h | ⟨h1,h2⟩ | ⟨h1,h2⟩
  ·rcases k with k | ⟨k1,k2⟩ | ⟨k1,k2⟩
   ·exact .inl (hR.trans _ _ _ hx hy hz h k)
   ·exact .inr (.inl ⟨hR.trans _ _ _ hx hy ha h k1,k2⟩)
   ·exact .inr (.inr ⟨hR.trans _ _ _ hx hy hb h k1,k2⟩)
  ·rcases k with k | ⟨k1,k2⟩ | ⟨k1,k2⟩
   ·exact .inr (.inl ⟨h1,hR.trans _ _ _ hb hy hz h2 k⟩)
   ·exact .inr (.inl ⟨h1,k2⟩)
   ·exact .inl (hR.trans _ _ _ hx ha hz h1 k2)
  ·rcases k with k | ⟨k1,k2⟩ | ⟨k1,k2⟩
   ·exact .inr (.inr ⟨h1,hR.trans _ _ _ ha hy hz h2 k⟩)
   ·exact .inl (hR.trans _ _ _ hx hb hz h1 k2)
   ·exact .inr (.inr ⟨h1,k2⟩)
section
variable {s:Nat→Nat}{m:Nat}
theorem xF(hs:Perm (2*m) s):∀k,k≤m→Perm (2*m) (ppk s k)
 | 0,_=>hs
 | k+1,hk=>(xF hs k (by omega)).swp (by omega) (by omega)
theorem kS(hs:Perm (2*m) s):∀k,k≤m→Equ (2*m) (ppR s k)
 | 0,_=>hs.equ
 | k+1,hk=>ia (kS hs k (by omega)) (by omega) (by omega)
theorem po(hs:Perm (2*m) s):∀k,k≤m → ∀x y,x<2*m→y<2*m→Orb (ppk s k) x y→ppR s k x y
 | 0,_,_,_,_,_,o=>o
 | k+1,hk,x,y,hx,hy,o=>by
  have ih:=po hs k (by omega);have hP:=xF hs k (by omega);have hE:=kS hs k (by omega);have h2a:2*k<2*m:=by omega
  have h2b:2*k+1<2*m:=by omega
  by_cases ho:Orb (ppk s k) (2*k) (2*k+1)
  · -- a part of it
   have hstep:∀z,z<2*m→Orb (ppk s k) z (ppk s k (swp (2*k) (2*k+1) z)):=fun z hz=>by
    have h1:Orb (ppk s k) z (swp (2*k) (2*k+1) z):=by
     unfold swp
     split
     ·rename_i e;rw [e];exact ho
     ·split
      ·rename_i e;rw [e];exact ho.symm hP h2a
      ·exact Orb.refl _ _
    exact h1.trans (Orb.step _ _)
   obtain ⟨i,hi⟩:=o
   have:∀(i z:Nat),z<2*m→Orb (ppk s k) z (qQ (ppk s (k+1)) i z):=by
    intro i
    induction i with
    | zero=>intro z _;exact Orb.refl _ _
    | succ i ihi=>
     intro z hz;have h1:=hstep z hz;exact h1.trans (ihi _ ((xF hs (k+1) hk).lt z hz))
   have h2:=this i x hx;rw [hi] at h2;exact .inl (ih x y hx hy h2)
  ·have h1:=(Vq hP h2a h2b ho hx hy).1 o;rcases h1 with h | ⟨h1,h2⟩ | ⟨h1,h2⟩
   ·exact .inl (ih _ _ hx hy h)
   ·exact .inr (.inl ⟨ih _ _ hx h2a h1,ih _ _ h2b hy h2⟩)
   ·exact .inr (.inr ⟨ih _ _ hx h2b h1,ih _ _ h2a hy h2⟩)
theorem GI(hs:Perm (2*m) s):∀k,k≤m → ∃g:Nat,2*cls (ppR s k) (2*m)+k=cls (Orb s) (2*m)+cls (Orb (ppk s k)) (2*m)+2*g
 | 0,_=>⟨0,by show 2*cls (Orb s) (2*m)+0=cls (Orb s) (2*m)+cls (Orb s) (2*m)+2*0;omega⟩
 | k+1,hk=>by
  obtain ⟨g,hg⟩:=GI hs k (by omega);have hP:=xF hs k (by omega);have hE:=kS hs k (by omega);have h2a:2*k<2*m:=by omega
  have h2b:2*k+1<2*m:=by omega
  show ∃g,2*cls (xZ (ppR s k) (2*k) (2*k+1)) (2*m)+(k+1)=cls (Orb s) (2*m)+cls (Orb fun z=>ppk s k (swp (2*k) (2*k+1) z)) (2*m)+2*g
  by_cases ho:Orb (ppk s k) (2*k) (2*k+1)
  ·have e1:=JK hP h2a h2b (by omega) ho;have e2:=ZL hE h2a h2b (po hs k (by omega) _ _ h2a h2b ho);exact ⟨g,by omega⟩
  ·have e1:=VF hP h2a h2b ho;by_cases hq:ppR s k (2*k) (2*k+1)
   ·have e2:=ZL hE h2a h2b hq;exact ⟨g+1,by omega⟩
   ·have e2:=QZ hE h2a h2b hq;exact ⟨g,by omega⟩
theorem eH:∀k x,ppk s k x=s (if x<2*k then ot x else x)
 | 0,x=>by rw [if_neg (by omega)];rfl
 | k+1,x=>by
  show ppk s k (swp (2*k) (2*k+1) x)=_
  rw [eH k];congr 1;unfold swp ot;by_cases h1:x=2*k
  ·subst h1;rw [if_pos rfl,if_neg (by omega),if_pos (by omega),if_pos (by omega)]
  ·rw [if_neg h1];by_cases h2:x=2*k+1
   ·subst h2;rw [if_pos rfl,if_neg (by omega),if_pos (by omega),if_neg (by omega)];omega
   ·rw [if_neg h2];by_cases h3:x<2*k
    ·have h4:x<2*(k+1):=by omega
     simp only [h3,h4,if_true]
    ·have h4:¬x<2*(k+1):=by omega
     simp only [h3,h4,if_false]
end
end Go.Proofs.YtneeknlhlkpnpaaGreat
/-
 Faces as orbits of half edges; a face's room. Written by an AI agent.
-/
namespace Go.Proofs.YtneeknlhlkpnpaaGreat
open Go.RowKit
section
variable {n:Int}{es:List (Int×Int)}{rs:List (List Int)}
theorem mz(hR:RightP n es rs){f:Nat}(hf:f<(jE n es rs).length):∃c,c<2*es.length ∧ ∀x:Nat,(x:Int)∈(jE n es rs).getD f []↔Orb (nxf es rs) c x:=by
 rw [vy hR] at hf ⊢;obtain ⟨c,hc,_,e,_⟩:=QB (nxf es rs) (2*es.length) hf;refine ⟨c,hc,fun x=>?_⟩;rw [e];exact Xw (vI hR) hc x
theorem ck(hR:RightP n es rs){h k:Nat}(hh:h<2*es.length)(hk:k<2*es.length):jY n es rs h=jY n es rs k↔Orb (nxf es rs) (ot h) (ot k):=by
 obtain ⟨hf,hm⟩:=ya hR hh;obtain ⟨c,hc,hrow⟩:=mz hR hf;have h1:=(hrow _).1 hm;have hP:=vI hR;constructor
 ·intro e;have h2:=(ya hR hk).2;rw [←e] at h2;exact (h1.symm hP hc).trans ((hrow _).1 h2)
 ·intro o;exact ((mU hR hk hf).2 ((hrow _).2 (h1.trans o))).symm
end
section
variable {Fc Kd:Nat→Nat}
theorem XT{F f0 k f:Nat}(hf:f<F):(zu Fc Kd F f0 k).getD f 0=(if f=f0 then (1:Int) else -1)+(((List.range k).countP fun h=>decide (Kd h=2)&&decide (Fc h=f):Nat):Int):=by
 unfold zu;rw [List.getD_eq_getElem?_getD,List.getElem?_map,List.getElem?_range hf];rfl
end
end Go.Proofs.YtneeknlhlkpnpaaGreat
