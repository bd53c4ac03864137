import Derived.Test.YtneeknlhlkpnpaaGreatZBack6
import Derived.Test.YtneeknlhlkpnpaaGreatZRing6
import Derived.Test.YtneeknlhlkpnpaaGreatZReg
import Derived.Test.YtneeknlhlkpnpaaGreatZEul
import Derived.Test.YtneeknlhlkpnpaaGreatZRSw
import Derived.Test.YtneeknlhlkpnpaaGreatZFlat3
import Derived.Test.YtneeknlhlkpnpaaGreatZRRf9
import Derived.Test.YtneeknlhlkpnpaaGreatZRRun
import Derived.Test.YtneeknlhlkpnpaaGreatZFrm
import Derived.Test.YtneeknlhlkpnpaaGreatZAsg
import Derived.Test.YtneeknlhlkpnpaaGreatZRPlain
import Derived.Test.YtneeknlhlkpnpaaGreatZRGr
/-
 A list of rows that is made here, in memory: a row put in another one's place; two lists joined. Written by an AI agent.
-/
namespace Go.Proofs.YtneeknlhlkpnpaaGreat
open Go.RowKit
/-- a row in another one's place -/
theorem yk.set_{w:World}{base gU cap x c:Nat}{A:Option Addr}{F:List (List Int)}{f:List Int}(h:yk w base (.slice (some ⟨gU,0,none⟩) F.length cap) F)(hx:x<F.length)(hf:w.ownsRow base 3 1 (.slice A f.length c) f.length (jf f)) :
  yk (w.setCell ⟨gU,x,none⟩ (.slice A f.length c)) base (.slice (some ⟨gU,0,none⟩) F.length cap) (F.set x f)∧Evo base [25] w (w.setCell ⟨gU,x,none⟩ (.slice A f.length c))∧(∃u,w.cell? ⟨gU,x,none⟩=some u)∧w.frozen? ⟨gU,x,none⟩=false:=by
 obtain ⟨sl,h1,h2⟩:=h;obtain ⟨g,cap',R,e,hg,hb,hR,hcap,hcm,hxl⟩:=vT h1 (by omega);injection e with e _ e2;injection e with e;injection e with e;subst e e2;have hE:Evo base [25] w (w.setCell ⟨gU,x,none⟩ (.slice A f.length c)):=Evo.set_ hb (List.mem_singleton.2 rfl) hg x _;refine ⟨⟨sl.set x (.slice A f.length c),?_,fun i hi=>?_⟩,hE,⟨sl[x]'(by omega),?_⟩,hb.frozen x⟩
 ·rw [List.length_set];have hb2:=hb.set_ x (.slice A f.length c);refine Jt (R:=R) hg ?_ (by rw [List.length_set];exact hR) hcap hcm (by rw [List.length_set];exact hxl)
  have e3:(sl.toArray++R).setIfInBounds x (.slice A f.length c)=(sl.set x (.slice A f.length c)).toArray++R:=by
   apply Array.ext';simp only [Array.toList_setIfInBounds,Array.toList_append]
   show (sl++R.toList).set x _=sl.set x _++R.toList
   rw [List.set_append_left _ _ (by omega)]
  rw [←e3];exact hb2
 ·rw [List.length_set] at hi;by_cases hk:x=i
  ·subst hk;refine ⟨A,c,?_,?_⟩
   ·rw [List.getElem_set_self,List.getElem?_set_self (by omega)]
   ·rw [List.getElem_set_self];exact yC hf hE (by decide)
  ·obtain ⟨Ai,ci,h3,h4⟩:=h2 i hi;refine ⟨Ai,ci,?_,?_⟩
   ·rw [List.getElem_set_ne hk,List.getElem?_set_ne hk];exact h3
   ·rw [List.getElem_set_ne hk];exact yC h4 hE (by decide)
 ·rw [hb.cell x,Array.getElem?_append_left (by show x<sl.length;omega),List.getElem?_toArray,List.getElem?_eq_getElem (by omega)]
end Go.Proofs.YtneeknlhlkpnpaaGreat
/-
 A call that nothing guards, in a region that draws its order. Written by an AI agent.
-/
namespace Go.Proofs.YtneeknlhlkpnpaaGreat
open Go.RowKit
theorem ew{w w':World}{c:Nat}(hb:But (([[]]:List (List Nat)).getD c []) w w'):Below w.heap.size w w':=by
 have hS:([[]]:List (List Nat)).getD c []=[]:=by cases c<;>rfl
 rw [hS] at hb;exact hb.below (Nat.le_refl _) (by simp)
def R5.BFact.rowsF(n:Nat)(L:List (List Int)):R5.BFact [[]]:=⟨[],fun v w=>∃C c,v = .slice C n c∧xe w w.heap.size C L,fun _c _ _ _ _w' hb ⟨C,d,e,h1⟩=>⟨C,d,e,(h1.below (ew hb)).more (ew hb).size⟩⟩
end Go.Proofs.YtneeknlhlkpnpaaGreat
/-
 rotation.turned, slices.EqualFunc, rotation.Same: what they compute. Written by an AI agent.
-/
namespace Go.Proofs.YtneeknlhlkpnpaaGreat
open Go.RowKit
set_option maxRecDepth 20000 in
set_option maxHeartbeats 2000000 in
theorem eZ(A B:Option Addr)(c d:Nat)(a b:List Int)(w:World)(ha:jr w w.heap.size A (jf a))(hb:jr w w.heap.size B (jf b))(hac:a.length≤c)(hla:a.length≤1000)(hlb:b.length≤1000) :
  Calls Tryz.prog 60 #[.slice A a.length c,.slice B b.length d] w (fun e w'=>e = .returned (.bool (zR a b))∧Below w.heap.size w w'):=by
 go_enter Tryz.func60,Tryz.ntmps60
 go_wp2_with fail
 go_loopg [8] a.length (fun k s8 wr=>∃i:Nat,s8 = .int .i64 i∧i≤a.length∧k=a.length-i∧Below w.heap.size w wr ∧ ∀j,j<i→rot a j≠b)
 case atStart=>exact ⟨0,rfl,Nat.zero_le _,rfl,Below.refl _ _,fun j hj=>absurd hj (by omega)⟩
 case round=>
  obtain ⟨i,rfl,hi,hk,hbr,hno⟩:=hrel;have Hk:=Lib.hid hk;clear hk;have Hno:=Lib.hid hno;clear hno;by_cases hlt:i<a.length
  ·have hlt':(i:Int)<a.length:=by omega
   obtain ⟨ba,offa,rfl,hba,_⟩:=ha.ints (by omega);have Hd:=Lib.hid (Gx i c hac (ha.below hbr));have Ht:=Lib.hid (Gw i (ha.below hbr));have hic:(i:Int)≤c:=by omega
   have hi0:(0:Int)≤i:=by omega
   have hil:(i:Int)≤a.length:=by omega
   go_upto_region 4 with fail
   have hal:=ha.below hbr;have hbl:=hb.below hbr;have hs:=hbr.size;have tok1:True:=trivial
   go_region_held3 (fun _=>True) (trivial)
    (first
     | (go_at_call 74;have _t:=tok1;refine (fT a i hi _ _ _ _ wr (Hd.out.more hs) (Ht.out.more hs) (by omega)).mono ?_;rintro e w5 ⟨A5,c5,rfl,hb5,hC5⟩;clear tok1)
     | (go_at_call 41;refine (Xy A5 B c5 d (rot a i) b _ _ (by exact hC5) (by exact (hbl.below (hb5.mono hs)).more (Nat.le_trans hs hb5.size)) (by rw [qG];omega) (by omega)).mono ?_;rintro e w6 ⟨rfl,m6,rfl⟩))
   have hb9:=below_drewN (hbr.trans (hb5.mono hs)) m6;have HB:=Lib.hid hb9;clear hb9 hb5 hC5 hbl hal Hd Ht;by_cases he:rot a i=b
   ·have HT:=Lib.hid (Zk hlt he);rw [decide_eq_true he];clear he;go_wp2_with fail;go_ret;exact ⟨jI HT.out.symm,HB.out⟩
   ·rw [decide_eq_false he];have He:=Lib.hid he;clear he;go_wp2_with fail
    go_roundg (a.length-(i+1))
    case measure=>rw [Hk.out];omega
    case rel=>exact ⟨i+1,by go_num,by omega,rfl,HB.out,fun j hj=>by
     by_cases h:j=i
     ·rw [h];exact He.out
     ·exact Hno.out j (by omega)⟩
  ·have hie:i=a.length:=by omega
   subst hie;have HT:=Lib.hid (iY Hno.out);by_cases h0:a.length=0
   ·have h0':((a.length:Int)==0)=true:=by simp [h0]
    by_cases h1:b.length=0
    ·have h1':((b.length:Int)==0)=true:=by simp [h1]
     have HR:=Lib.hid (show zR a b=true by rw [HT.out,decide_eq_true h0,decide_eq_true h1];rfl);clear h0 h1;go_wp2_with fail;go_ret;exact ⟨jI HR.out.symm,hbr⟩
    ·have h1':((b.length:Int)==0)=false:=by simp;intro hh;apply h1;rw [hh];rfl
     have HR:=Lib.hid (show zR a b=false by rw [HT.out,decide_eq_false h1];simp);clear h0 h1;go_wp2_with fail;go_ret;exact ⟨jI HR.out.symm,hbr⟩
   ·have h0':((a.length:Int)==0)=false:=by simp;intro hh;apply h0;rw [hh];rfl
    have HR:=Lib.hid (show zR a b=false by rw [HT.out,decide_eq_false h0];simp);clear h0;go_wp2_with fail;go_ret;exact ⟨jI HR.out.symm,hbr⟩
set_option maxHeartbeats 1000000 in
theorem fP(A B:Option Addr)(ca cb:Nat)(xs ys:List (List Int))(w:World)(ha:xe w w.heap.size A xs)(hb:xe w w.heap.size B ys)(hla:xs.length≤1000)(hlb:ys.length≤1000)(hra:∀l∈xs,l.length≤1000)(hrb:xs.length=ys.length → ∀l∈ys,l.length≤1000) :
  Calls Tryz.prog 59 #[.slice A xs.length ca,.slice B ys.length cb,.func (.func 60) #[] #[]] w (fun e w'=>e = .returned (.bool (Jg xs ys))∧Below w.heap.size w w'):=by
 by_cases hl:xs.length=ys.length
 ·have H1:((xs.length:Int) != (ys.length:Int))=false:=by rw [ke];simp [hl]
  have HL:=Lib.hid hl;have hl1:xs.length≤ys.length:=by omega
  clear hl
  go_enter Tryz.func59,Tryz.ntmps59
  go_wp2_with fail
  go_loopg [17] xs.length (fun k s17 wr=>∃i:Nat,s17 = .int .i64 i∧i≤xs.length∧k=xs.length-i∧Below w.heap.size w wr ∧ ∀j,j<i→zR (xs.getD j []) (ys.getD j [])=true)
  case atStart=>exact ⟨0,rfl,Nat.zero_le _,rfl,Below.refl _ _,fun j hj=>absurd hj (by omega)⟩
  case round=>
   obtain ⟨i,rfl,hi,hk,hbr,hy⟩:=hrel;have Hk:=Lib.hid hk;clear hk;have Hy:=Lib.hid hy;clear hy;by_cases hlt:i<xs.length
   ·have hlt':(i:Int)<xs.length:=by omega
    have hltb:i<ys.length:=by omega
    have hltb':(i:Int)<ys.length:=by omega
    obtain ⟨b1,o1,rfl,hb1,hc1⟩:=ha (by omega);obtain ⟨b2,o2,rfl,hb2,hc2⟩:=hb (by omega);obtain ⟨A1,c1,e1,hC1,hr1⟩:=hc1 i hlt;obtain ⟨A2,c2,e2,hC2,_⟩:=hc2 i hltb;have e1:=(hbr.cell (p:=⟨b1,o1+i,none⟩) hb1).trans e1;have e2:=(hbr.cell (p:=⟨b2,o2+i,none⟩) hb2).trans e2;have hs:=hbr.size;have Ht:=Lib.hid (eZ A1 A2 c1 c2 xs[i] ys[i] wr ((hC1.below hbr).more hs) ((hC2.below hbr).more hs) hr1 (hra _ (List.getElem_mem hlt)) (hrb HL.out _ (List.getElem_mem hltb)));have HN:=Lib.hid (pX (xs:=xs) (ys:=ys) hlt hltb);have HG:=Lib.hid (show zR (xs.getD i []) (ys.getD i [])=zR xs[i] ys[i] by rw [zM hlt,zM hltb]);clear hc1 hc2 hC1 hC2 hr1;generalize xs[i]=x at *;generalize ys[i]=y at *;go_wp2_with fail;refine Ht.out.mono ?_;rintro e w5 ⟨rfl,hb5⟩;have hb6:=hbr.trans (hb5.mono hs);clear Ht
    cases ht:zR x y with
    | true=>
     rw [ht] at HG;clear ht;go_wp2_with fail
     go_roundg (xs.length-(i+1))
     case measure=>rw [Hk.out];omega
     case rel=>exact ⟨i+1,by go_num,by omega,rfl,hb6,fun j hj=>by
      by_cases h:j=i
      ·rw [h];exact HG.out
      ·exact Hy.out j (by omega)⟩
    | false=>
     have HR:=Lib.hid (HN.out ht);clear ht;go_wp2_with fail;go_ret;exact ⟨jI HR.out.symm,hb6⟩
   ·have HR:=Lib.hid (show Jg xs ys=true by
     unfold Jg;rw [decide_eq_true HL.out,Bool.true_and,List.all_eq_true]
     exact fun j hj=>Hy.out j (by have:=List.mem_range.1 hj;omega))
    go_wp2_with fail;go_ret;exact ⟨jI HR.out.symm,hbr⟩
 ·have H1:((xs.length:Int) != (ys.length:Int))=true:=by rw [ke];simp [hl]
  have HR:=Lib.hid (show Jg xs ys=false by unfold Jg;rw [decide_eq_false hl];rfl);clear hl
  go_enter Tryz.func59,Tryz.ntmps59
  go_wp2_with fail;go_ret;exact ⟨jI HR.out.symm,Below.refl _ _⟩
theorem lq(A B:Option Addr)(ca cb:Nat)(xs ys:List (List Int))(w:World)(ha:xe w w.heap.size A xs)(hb:xe w w.heap.size B ys)(hla:xs.length≤1000)(hlb:ys.length≤1000)(hra:∀l∈xs,l.length≤1000)(hrb:xs.length=ys.length → ∀l∈ys,l.length≤1000) :
  Calls Tryz.prog 18 #[.slice A xs.length ca,.slice B ys.length cb] w (fun e w'=>e = .returned (.bool (Jg xs ys))∧Below w.heap.size w w'):=by
 have H:=Lib.hid (fP A B ca cb xs ys w ha hb hla hlb hra hrb)
 go_enter Tryz.func18,Tryz.ntmps18
 go_wp2_with fail;refine H.out.mono ?_;rintro e w' ⟨rfl,hb⟩;go_wp2_with fail;go_ret;exact ⟨rfl,hb⟩
end Go.Proofs.YtneeknlhlkpnpaaGreat
/-
 rise.Back: what it computes. (Printed by backgen.py.) Written by an AI agent.
-/
namespace Go.Proofs.YtneeknlhlkpnpaaGreat
open Go.RowKit
theorem XR{N:Nat}{es:List (Int×Int)}{rs:List (List Int)}(hR:RightP N es rs):∀l∈rs,l.length≤2*es.length:=fun l hl=>by
 obtain ⟨x,hx,rfl⟩:=List.mem_iff_getElem.1 hl
 have hs:(rs[x].map Int.toNat).Nodup:=by
  rw [List.nodup_iff_pairwise_ne,List.pairwise_map];refine (List.nodup_iff_pairwise_ne.1 (hR.nd x hx)).imp_of_mem fun {a b} ha hb h e=>h ?_;have h1:=hR.at_ x hx a ha;have h2:=hR.at_ x hx b hb;omega
 have:=List.Nodup.length_le_of_subset hs (l₂ :=List.range (2*es.length)) (fun a ha=>by
  obtain ⟨b,hb,rfl⟩:=List.mem_map.1 ha;have h2:=hR.at_ x hx b hb
  exact List.mem_range.2 (by omega))
 simpa using this
end Go.Proofs.YtneeknlhlkpnpaaGreat
/-
 The law RiseTells, walked. (Printed by tellsgen.py.) Written by an AI agent.
-/
namespace Go.Proofs.YtneeknlhlkpnpaaGreat
open Go.RowKit
theorem sW(a:Int):0≤bits .and .i64 a 65535∧bits .and .i64 a 65535≤65535:=by
 show 0≤IntKind.i64.wrap ((BitVec.ofInt 64 a &&& BitVec.ofInt 64 65535).toNat:Int)∧IntKind.i64.wrap ((BitVec.ofInt 64 a &&& BitVec.ofInt 64 65535).toNat:Int)≤65535
 have h:(BitVec.ofInt 64 a &&& BitVec.ofInt 64 65535).toNat≤65535:=by
  rw [BitVec.toNat_and];exact Nat.le_trans Nat.and_le_right (by decide)
 rw [IntKind.wrap_i64];omega
section
variable {B g:Nat}{w w':World}
theorem Far.of_grown{v:Value}(hg:w.grownBy w' v.ownBlock)(hv:v.ownBlock=none∨v.ownBlock=some g)(hgB:g<B):Far B g [2] w w':=by
 have key:∀k,k<w.heap.size→k≠g→w'.heap[k]? = w.heap[k]? :=fun k hk hn=>hg.block k hk fun e=>by
  rcases hv with h | h
  ·rw [h] at e;cases e
  ·rw [h] at e;exact hn (Option.some.inj e)
 exact ⟨hg.os,hg.tape,hg.output,hg.size,fun k hk _ h=>key k hk (h.resolve_right (by simp)),fun k hk hB _=>key k hk (by omega)⟩
theorem aR{c:Nat}(hc:([1]:List Nat).contains c=false):1∉[c]:=fun hm=>by
 have:(1:Nat)=c:=by simpa using hm
 subst this;simp at hc
theorem Far.blk{c q:Nat}{t:TypeId}{cs:Array Value}(h:Far B g [c] w w')(hc:([1]:List Nat).contains c=false)(hb:Blk w q t cs)(hq:B≤q):Blk w' q t cs:=by
 unfold Blk;rw [h.high q hb.lt hq (aR hc)];exact hb
end
def R6.BFact.sl{B g:Nat}(w0:World)(n:Nat)(xs:List Value):R6.BFact B g:=⟨[],fun v _=>∃A c,v = .slice A n c∧jr w0 B A xs,fun _ _ _ _ _ _ h=>h⟩
def R6.BFact.fresh{B g:Nat}(t:TypeId):R6.BFact B g:=⟨[1],fun v w=>∃q,v = .slice (some ⟨q,0,none⟩) 0 0∧B≤q∧Blk w q t #[],fun _ hc _ _ _ hb ⟨q,h1,h2,h3⟩=>⟨q,h1,h2,hb.blk hc h3 h2⟩⟩
/-- a row of one row that is made here -/
def R6.BFact.one{B g:Nat}(t e:TypeId)(n:Nat)(xs:List Value)(hg:g<B):R6.BFact B g:=⟨[1],fun v w=>∃q x,v = .slice (some ⟨q,0,none⟩) 1 1∧B≤q∧Blk w q t #[x]∧w.ownsRow B e 1 x n xs,fun c hc _ _ _ hb ⟨q,x,h1,h2,h3,h4⟩=>⟨q,x,h1,h2,hb.blk hc h3 h2,vD h4 (hb.but (aR hc)) (fun k hk=>by simp only [List.mem_singleton] at hk;omega)⟩⟩
def R6.BFact.faces{B g:Nat}(base n:Nat)(F:List (List Int)):R6.BFact B g:=⟨[1,2],fun v w=>(∃A c,v = .slice A n c)∧yk w base v F,fun c hc _ w _ hb ⟨h1,h2⟩=>⟨h1,h2.below (hb.below (aR (by cases c with | zero=>rfl | succ c=>cases c with | zero=>simp at hc | succ c=>simp)) (fun hm=>by
 have:(2:Nat)=c:=by simpa using hm
 subst this
 simp at hc)) (Nat.le_refl _)⟩⟩
end Go.Proofs.YtneeknlhlkpnpaaGreat
