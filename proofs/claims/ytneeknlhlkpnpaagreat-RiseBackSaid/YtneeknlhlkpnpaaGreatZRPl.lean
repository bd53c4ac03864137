import Derived.Test.YtneeknlhlkpnpaaGreatZWeb
import Derived.Test.YtneeknlhlkpnpaaGreatZReg
import Derived.RangeFuncNested
import Derived.RangeFuncBound
import Derived.RangeFuncCalls
import Derived.RangeFuncLeaves
import Derived.RangeFuncBox
import Derived.Shelf.Abstract
import Derived.Shelf.RegionOpen
import Derived.OwnWalkIn
import Derived.TacticsInMore
import Derived.LoopNIn
import Derived.LoopIn
import Derived.Maps.AppendAt
import Derived.Test.YtneeknlhlkpnpaaGreatZRSw
import Derived.Test.YtneeknlhlkpnpaaGreatZChks
/-
 slices.Values, AppendSeq, Collect, Sorted over numbers. Written by an AI agent.
-/
namespace Go.Proofs.YtneeknlhlkpnpaaGreat
open Go.RowKit Go.Shelf
attribute [local go_sem] Oper.semAt_some
set_option maxRecDepth 100000 in
set_option maxHeartbeats 2000000 in
theorem cL(n:Nat)(hn:1≤n)(l Bs n₀ : Nat)(A:Option Addr)(cap:Nat)(zs:List Int)(hz:zs.length≤100000)(J Jx:List Int→World→Prop)
  (hY:∀pre x W,J pre W→pre.length<zs.length→YieldAt Fence.wide (n-1) Tryz.prog l #[.int .i64 x] W fun e W'=>
   (e = .returned (.bool true)∧J (pre++[x]) W'∧Below n₀ W W')∨(e = .returned (.bool false)∧Jx (pre++[x]) W'))
  (W:World) (hBs:W.cell? ⟨Bs,0,none⟩=some (.slice A zs.length cap)) (hc:jr W n₀ A (jf zs)) (h0:J [] W) :
  CallsIn Fence.wide n Tryz.prog 100 #[.func (.yield l) #[] #[],.pointer (some ⟨Bs,0,none⟩)] W fun e W'=>(∃v,e = .returned v) ∧
   ((∃ys,ys=zs∧J ys W')∨(∃pre,pre <+: zs∧Jx pre W')):=by
 refine callsIn_of_wp Tryz.func100 rfl trivial ?_ rfl;simp only [Tryz.ntmps100,List.size_toArray,List.length_cons,List.length_nil,Nat.reduceAdd,Nat.reduceSub,Array.replicate_succ,Array.replicate_zero,List.push_toArray,List.append_toArray,List.nil_append,List.cons_append]
 gi_wp2
 gi_loopw [7] (fun i wr=>∃k:Nat,k≤zs.length∧i = .int .i64 k∧J (zs.take k) wr∧Below n₀ W wr)
  (fun i _=>zs.length-(intOf i).toNat)
 case atStart=>exact ⟨0,Nat.zero_le _,rfl,h0,Below.refl _ _⟩
 case round=>
  obtain ⟨k,hk,rfl,hJs,hnx⟩:=hrel;by_cases hlt:k<zs.length
  ·obtain ⟨b,off,rfl,hb,hcs⟩:=hc.ints (by omega);have hcx:=(hnx.cell (p:=⟨b,off+k,none⟩) hb).trans (hcs k hlt);obtain ⟨fn,tmps,assign,body,hy,hR⟩:=hY _ zs[k] wr hJs (by rw [List.length_take];omega);have HT:=Lib.hid (show zs.take k++[zs[k]]=zs.take (k+1) from (List.take_succ_eq_append_getElem hlt).symm);have HP:=Lib.hid (show zs.take (k+1) <+: zs from List.take_prefix _ _);have hlt':(k:Int)<zs.length:=by omega
   clear hcs;generalize zs[k]=x at *
   gi_wp2
   refine hR.mono ?_;rintro e W3 (⟨rfl,hJ3,hk3⟩ | ⟨rfl,hJx3⟩)
   ·gi_wp2
    go_roundw
    case rel=>exact ⟨k+1,by omega,by simp,by rw [←HT.out];exact hJ3,hnx.trans hk3⟩
    case measure=>simp [intOf];omega
   ·gi_wp2
    refine bodyPost_ret (results_none rfl _ _ _) rfl ?_;exact ⟨⟨_,rfl⟩,.inr ⟨_,HP.out,by rw [←HT.out];exact hJx3⟩⟩
  ·obtain rfl:k=zs.length:=by omega
   gi_wp2
   go_end0
   exact ⟨⟨_,rfl⟩,.inl ⟨_,rfl,by rw [List.take_length] at hJs;exact hJs⟩⟩
theorem WF(n:Nat)(hn:1≤n)(Bs n₀ : Nat)(A:Option Addr)(cap:Nat)(zs:List Int)(hz:zs.length≤100000)(w:World)(hBs:Bs<w.heap.size)(hn₀ : n₀ ≤ w.heap.size)
  (hc:w.cell? ⟨Bs,0,none⟩=some (.slice A zs.length cap)) (hI:jr w n₀ A (jf zs)) :
  SeqStopsK Fence.wide n Tryz.prog 100 #[.pointer (some ⟨Bs,0,none⟩)] (fun x:Int=>#[Value.int .i64 x]) (Below n₀) (fun ys=>ys=zs) (fun pre=>pre <+: zs) zs.length w:=fun l J Jx W hW _ _ hY h0=>
 cL n hn l Bs n₀ A cap zs hz J Jx hY W ((hW.cell (p:=⟨Bs,0,none⟩) hBs).trans hc) (hI.below (hW.mono hn₀)) h0
theorem YF(A:Option Addr)(len cap:Nat)(w:World) :
  Calls Tryz.prog 43 #[.slice A len cap] w fun e w'=>e = .returned (.func (.func 100) #[] #[.pointer (some ⟨w.heap.size,0,none⟩)])∧w'=w.alloc (.cells #[.slice A len cap] 25):=by
 go_enter Tryz.func43,Tryz.ntmps43
 go_wp2
 go_ret;exact ⟨rfl,rfl⟩
theorem Gr:(Tryz.prog.info? 3).map (fun i=>(i.zero,i.size,i.bytes))=some (some (.int .i64 0),1,8):=by kernel_rfl
theorem yW(l:List Int)(x:Int):jf (l++[x])=jf l++[.int .i64 x]:=by simp [jf]
set_option maxRecDepth 100000 in
set_option maxHeartbeats 2000000 in
theorem Gc(n:Nat)(hn:3≤n)(Bs:Nat)(A:Option Addr)(cap:Nat)(zs:List Int)(hz:zs.length≤100000)(w:World)(hBs:Bs<w.heap.size)
  (hc:w.cell? ⟨Bs,0,none⟩=some (.slice A zs.length cap)) (hI:jr w w.heap.size A (jf zs)) :
  CallsIn Fence.wide n Tryz.prog 136 #[.slice none 0 0,.func (.func 100) #[] #[.pointer (some ⟨Bs,0,none⟩)]] w fun e w'=>
   ∃v,e = .returned v∧w'.ownsRow w.heap.size 3 1 v zs.length (jf zs)∧Below w.heap.size w w':=by
 have h1:1≤n:=by omega
 obtain ⟨i0,hi,hz0,hz1,hz2⟩:=info_parts Gr;refine callsIn_of_wp_marks Tryz.func136 rfl trivial ?_ rfl;simp only [Tryz.ntmps136,List.size_toArray,List.length_cons,List.length_nil,Nat.reduceAdd,Nat.reduceSub,Array.replicate_succ,Array.replicate_zero,List.push_toArray,List.append_toArray,List.nil_append,List.cons_append]
 gi_wp2
 have bO:=Boxed.new w 25 (.slice none 0 0);have hB0:Below w.heap.size w (w.alloc (.cells #[.slice none 0 0] 25)):=(Below.refl _ w).alloc (Nat.le_refl _) _
 refine wpIn_rangeFunc_ownG rfl h1 (gf:=100) (lb:=#[.pointer (some ⟨Bs,0,none⟩)]) rfl trivial (enters_of Tryz.func100 (by kernel_rfl) rfl)
  (WF (n-1) (by omega) Bs w.heap.size A cap zs hz _ (by simp;omega) (by simp) ((hB0.cell (p:=⟨Bs,0,none⟩) hBs).trans hc) (hI.below hB0)) belowK_t (belowK_b (by simp)) (Below.refl _ _) (fun _=>rfl)
  (fun pre W=>(∃v,Boxed W w.heap.size 25 v∧W.ownsRow w.heap.size 3 1 v pre.length (jf pre)∧True)∧Below w.heap.size w W)
  (fun _ _ _=>False)
  (OwnFrom.and (Own.from (holdsRow_own w.heap.size w.heap.size 25 3 1 (fun pre=>pre.length) (fun pre=>jf pre) (fun _ _=>True)) _) (ownFrom_below (Nat.le_refl _) (by simp)))
  (fun _ _ _ _ _ hs _ _=>hs)
  ⟨⟨_,bO,World.ownsRow_nil _ _ _ _,trivial⟩,hB0⟩
  (fun x=>{ tmps:=#[.slice none 0 0,.func (.func 100) #[] #[.pointer (some ⟨Bs,0,none⟩)],.pointer (some ⟨w.heap.size,0,none⟩),undef,.slice none 0 0,.int .i64 x,.func (.func 100) #[] #[.pointer (some ⟨Bs,0,none⟩)],.int .i64 x,undef,undef,undef,undef,undef],defers:=[] }) ?assign ?body ?done ?stop
 case assign=>
  intro l x W K hK
  gi_wp2
  exact hK
 case body=>
  rintro l pre x W ⟨⟨v,hv,hrow,_⟩,hB⟩ hlt;have hc:=hv.cell;gi_wp2_with (gi_at_builtin;refine wpListIn_append_own _ rfl _ _ 25 rfl w.heap.size 3 i0 (.int .i64 0) 1 8 Tryz.underlying25 hi hz0 hz1 hz2 rfl (by decide) _ _ _ rfl (hrow.alloc _) ⟨W.heap.size,0,none⟩ 1 1 [.int .i64 x] rfl rfl (cell_one_new _ _ _) (by simp [Value.oneCell']) (by unfold maxLen;omega) (by omega) (by have:=hB.size;simp;omega) ?_;intro v' w1 hown' hgrow _;obtain ⟨g',cap',rfl⟩:=ownsRow_succ hown';obtain ⟨hv1,hv2,hr2,hk2,hb2⟩:=hv.appended (by decide) hrow hB.size (Nat.le_refl _) hown' hgrow;have hc1:=hv1.cell;have hf1:=hv1.frozen);exact ⟨hk2.from _,hb2,⟨_,hv2,by rw [yW];simpa using hr2,trivial⟩,hB.trans hb2⟩
 case done=>
  rintro D ys W hD rfl ⟨⟨v,hv,hrow,_⟩,hB⟩ hK;have hc:=hv.cell
  gi_wp2
  refine ⟨by simp,.inl ⟨_,_,rfl,run_takeDeferred hK,?_⟩⟩;exact ⟨_,results_tmp rfl _ _ _,v,rfl,ownsRow_putObj hrow _ hK rfl,hB.trans (belowK_b (w:=w) (Nat.le_refl _) W D _ _ (by simp at hD;omega) hK rfl rfl)⟩
 case stop=>
  rintro D c pre W _ _ h _;exact h.elim
theorem aE(Bs:Nat)(A:Option Addr)(cap:Nat)(zs:List Int)(hz:zs.length≤100000)(w:World)(hBs:Bs<w.heap.size)
  (hc:w.cell? ⟨Bs,0,none⟩=some (.slice A zs.length cap)) (hI:jr w w.heap.size A (jf zs)) :
  Calls Tryz.prog 99 #[.func (.func 100) #[] #[.pointer (some ⟨Bs,0,none⟩)]] w fun e w'=>
   ∃v,e = .returned v∧w'.ownsRow w.heap.size 3 1 v zs.length (jf zs)∧Below w.heap.size w w':=by
 have HC:=Lib.hid (callsIn_wide.1 (Gc 6 (by omega) Bs A cap zs hz w hBs hc hI));clear hc hI
 go_enter Tryz.func99,Tryz.ntmps99
 go_wp2_with fail;refine HC.out.mono ?_;rintro e w' ⟨v,rfl,ho,hb⟩;have HO:=Lib.hid (And.intro ho hb);clear ho hb;go_wp2_with fail;go_ret;exact ⟨v,rfl,HO.out.1,HO.out.2⟩
theorem XO(Bs:Nat)(A:Option Addr)(cap:Nat)(zs:List Int)(hz:zs.length≤100000)(w:World)(hBs:Bs<w.heap.size)
  (hc:w.cell? ⟨Bs,0,none⟩=some (.slice A zs.length cap)) (hI:jr w w.heap.size A (jf zs)) :
  Calls Tryz.prog 42 #[.func (.func 100) #[] #[.pointer (some ⟨Bs,0,none⟩)]] w fun e w'=>
   ∃A' c',e = .returned (.slice A' zs.length c')∧Below w.heap.size w w'∧jr w' w'.heap.size A' (jf (zs.mergeSort leI)):=by
 have HC:=Lib.hid (aE Bs A cap zs hz w hBs hc hI);clear hc hI
 go_enter Tryz.func42,Tryz.ntmps42
 go_wp2_with fail;refine HC.out.mono ?_;rintro e w1 ⟨v,rfl,ho,hb⟩;have HB:=Lib.hid hb;rcases Nat.eq_zero_or_pos zs.length with h0 | h0
 ·obtain rfl:zs=[]:=List.eq_nil_of_length_eq_zero h0;obtain ⟨A1,c1,rfl⟩:=jv ho;clear ho hb HC h0 hz;go_wp2_with fail;refine (cO A1 c1 w1).mono ?_;rintro e w2 ⟨rfl,rfl⟩;go_wp2_with fail;go_ret;exact ⟨A1,c1,rfl,HB.out,fun h=>absurd h (by simp [jf])⟩
 ·obtain ⟨gs,cs,R,rfl,hgs,hblk,_,hcs,_,_⟩:=xO ho h0
  have HHO:=Lib.hid (show Sort.Holds (Value.int .i64) w1 gs 0 zs.toArray from fun j hj=>by
   have hj2:j<zs.length:=by simpa using hj
   rw [Nat.zero_add];refine ⟨?_,hblk.frozen j⟩;rw [hblk.intR hj2,getElem!_pos _ j hj,List.getD_eq_getElem?_getD,List.getElem?_eq_getElem hj2]
   simp)
  have HGS:=Lib.hid (And.intro hgs hblk.lt);have HS:=Lib.hid (fT w.heap.size gs cs zs w1 HHO.out HGS.out.2 HGS.out.1 hz);clear hblk hgs ho hb HC hcs;go_wp2_with fail;refine HS.out.mono ?_;rintro e w9 ⟨rfl,hb9,hh9,hg9⟩;have HB9:=Lib.hid (HB.out.trans hb9)
  have HC9:=Lib.hid (show jr w9 w9.heap.size (some ⟨gs,0,none⟩) (jf (zs.mergeSort leI)) from fun _=>⟨gs,0,rfl,hg9,fun j u hj=>by
   have hjl:j<(zs.mergeSort leI).length:=by
    have:=(List.getElem?_eq_some_iff.1 hj).1;simpa [jf] using this
   have h1:=(hh9 j (by simpa using hjl)).1;rw [h1];have h2:(jf (zs.mergeSort leI))[j]? = some (.int .i64 (zs.mergeSort leI)[j]):=by simp [jf]
   rw [h2] at hj;injection hj with hj;rw [←hj];congr 1;rw [getElem!_pos _ j (by simpa using hjl)]
   simp⟩)
  clear hb9 hh9 hg9 HS;go_wp2_with fail;go_ret;exact ⟨_,_,rfl,HB9.out,HC9.out⟩
def dJ(zs:List Int)(w:World)(e:Ending)(w':World):Prop:=∃A' c',e = .returned (.slice A' zs.length c')∧Below w.heap.size w w'∧jr w' w'.heap.size A' (jf (zs.mergeSort leI))
theorem VP(A:Option Addr)(cap:Nat)(zs:List Int)(hz:zs.length≤100000)(w:World)(hI:jr w w.heap.size A (jf zs)) :
  Calls Tryz.prog 42 #[.func (.func 100) #[] #[.pointer (some ⟨w.heap.size,0,none⟩)]] (w.alloc (.cells #[.slice A zs.length cap] 25)) (dJ zs w):=by
 have hb:=(Below.refl w.heap.size w).alloc (Nat.le_refl _) (.cells #[.slice A zs.length cap] 25);refine (XO w.heap.size A cap zs hz _ (by simp) (by simp) ((hI.below hb).more hb.size)).mono ?_;rintro e w' ⟨A',c',he,hb',hc⟩;exact ⟨A',c',he,hb.trans (hb'.mono hb.size),hc⟩
end Go.Proofs.YtneeknlhlkpnpaaGreat
namespace Go.Proofs.YtneeknlhlkpnpaaGreat
open Go.RowKit
theorem Evo.of_but{g:Nat}{t:TypeId}{cs:Array Value}{B:Nat}{T:List TypeId}{w w':World}(hb:But [g] w w')(hg:Blk w g t cs)(ht:t∈T)(hB:B≤g):Evo B T w w':=
 ⟨hb.os,hb.tape,hb.output,hb.size,fun k hk h=>hb.block k hk fun hm=>by
  have hkg:k=g:=by simpa using hm
  subst hkg;rcases h with h | h
  ·omega
  ·exact h _ _ _ hg ht⟩
def R5.BFact.boxF(f:FuncId)(sv:Value)(t:TypeId):R5.BFact [[]]:=⟨[],fun v w=>∃q,v = .func (.func f) #[] #[.pointer (some ⟨q,0,none⟩)]∧Blk w q t #[sv],fun c _ _ _ _ hb ⟨q,h1,h2⟩=>⟨q,h1,hb.blk h2 (by
 have hS:([[]]:List (List Nat)).getD c []=[]:=by cases c<;>rfl
 rw [hS];simp)⟩⟩
def R5.BFact.cellsI(L:List Int):R5.BFact [[]]:=⟨[],fun v w=>∃A c,v = .slice A L.length c∧jr w w.heap.size A (jf L),fun c _ _ _ w' hb ⟨A,c',e,hc⟩=>⟨A,c',e,by
 have hS:([[]]:List (List Nat)).getD c []=[]:=by cases c<;>rfl
 rw [hS] at hb
 exact (hc.below (hb.below (Nat.le_refl _) (by simp))).more hb.size⟩⟩
def R5.BFact.swapF{Ss:List (List Nat)}(g base:Nat)(pv vp:Value)(n:Nat)(xs:List Value)(n2:Nat)(xs2:List Value)(hS:∀c,∀k∈Ss.getD c [],k<base)(h1:∀c,c≠1→g∉Ss.getD c []):R5.BFact Ss:=
 ⟨[1],fun u w=>w.ownsRow base 81 3 u n xs ∧ ∃v,Blk w g 89 #[v,pv,vp]∧w.ownsRow base 81 3 v n2 xs2,fun c hc _ _ _ hb ⟨h0,v,h2,h3⟩=>⟨yF h0 hb (hS c),v,hb.blk h2 (h1 c fun e=>by subst e;simp at hc),yF h3 hb (hS c)⟩⟩
def yf(es:List (Int×Int))(r:List Itm)(x:Nat)(outs:List Int):List Itm:=xI r (qx x r r.length).1.toNat (qx x r r.length).2.1.toNat (yj es x outs)
def zA(r:List Itm)(x:Nat):List Itm:=(r.take (qx x r r.length).2.1.toNat).drop (qx x r r.length).1.toNat
def ph(w0:World)(g gv n:Nat)(es:List (Int×Int))(r:List Itm)(pl:List Int)(x:Nat)(outs:List Int)(w:World)(e:Ending)(w':World):Prop:=
 ∃v,e = .returned (.tuple #[v,.int .i64 0])∧Evo w0.heap.size [89,3] w w'∧w'.ownsRow w0.heap.size 81 3 v (zA r x).length (ju (zA r x))∧FrontW w0 w' g gv n es (yf es r x outs) (pl++[(x:Int)])
theorem KH{w:World}{base size n:Nat}{t:TypeId}{A:Option Addr}{c:Nat}{xs:List Value}(h:w.ownsRow base t size (.slice A n c) n xs):(A=none∧c=0 ∨ ∃b off,A=some ⟨b,off,none⟩)∧n≤c:=by
 rcases h.2 with ⟨e,h0⟩ | ⟨g,cap,cur,e,_,_,hc,_⟩
 ·injection e with e1 _ e2;exact ⟨.inl ⟨e1,e2⟩,by omega⟩
 ·injection e with e1 _ e2;exact ⟨.inr ⟨g,0,e1⟩,by omega⟩
theorem gK(w0 w:World)(g gv n:Nat)(es:List (Int×Int))(r:List Itm)(pl:List Int)(x:Nat)(X:Option Addr)(cx:Nat)(outs:List Int)(h:FrontW w0 w g gv n es r pl)(hx:x<n)(hl:es.length≤1000)(hr:r.length≤50000)(hp:pl.length≤1000)(hno:qT es r pl x=false) :
  Calls Tryz.prog 14 #[.pointer (some ⟨g,0,none⟩),.int .i64 (x:Nat),.slice X outs.length cx] w (fun e w'=>e = .returned (.tuple #[.slice none 0 0,.int .i64 3])∧Below w.heap.size w w'):=by
 have HR:=Lib.hid (Vj w0 w g gv n es r pl x h hx hl hr hp);rw [hno] at HR;clear h hno
 go_enter Tryz.func14,Tryz.ntmps14
 go_wp2_with fail;refine HR.out.mono ?_;rintro e w2 ⟨rfl,hb⟩;have HB:=Lib.hid hb;clear hb;go_wp2_with fail;go_ret2;exact ⟨rfl,HB.out⟩
set_option maxRecDepth 20000 in
set_option maxHeartbeats 8000000 in
theorem UR(w0 w:World)(g gv n:Nat)(es:List (Int×Int))(r:List Itm)(pl:List Int)(x:Nat)(X:Option Addr)(cx:Nat)(outs:List Int)(h:FrontW w0 w g gv n es r pl)(hX:jr w w0.heap.size X (jf outs))(hx:x<n)(hl:es.length≤500)(hr:r.length≤50000)(hp:pl.length≤500)(hyes:qT es r pl x=true)(hs:outs.mergeSort leI=jK es Prod.fst (x:Nat) es.length) :
  Calls Tryz.prog 14 #[.pointer (some ⟨g,0,none⟩),.int .i64 (x:Nat),.slice X outs.length cx] w (ph w0 g gv n es r pl x outs w):=by
 have HR:=Lib.hid (Vj w0 w g gv n es r pl x h hx (by omega) hr (by omega));rw [hyes] at HR;have H1:=Lib.hid h;have HX:=Lib.hid hX;have HS:=Lib.hid hs;obtain ⟨L,hL⟩:∃L,L=jK es Prod.fst (x:Nat) es.length:=⟨_,rfl⟩;rw [←hL] at HS;have hLl:L.length≤100000:=by rw [hL];have:=qd es Prod.fst (x:Nat) es.length;omega
 have HSL:=Lib.hid (show outs.length=L.length by rw [←HS.out,List.length_mergeSort]);have hol:outs.length≤500:=by rw [HSL.out,hL];have:=qd es Prod.fst (x:Nat) es.length;omega
 have hol5:outs.length≤100000:=by omega
 have HVO:=Lib.hid (fun (W:World) (hv:zC W gv n es)=>(by rw [hL];exact Vg gv n x es W hv hx (by omega):Calls Tryz.prog 44 #[.pointer (some ⟨gv,0,none⟩),.int .i64 (x:Nat)] W (fun e w'=>∃v,e = .returned v∧Below W.heap.size W w'∧w'.ownsRow W.heap.size 3 1 v L.length (jf L))))
 have HOV:=Lib.hid (show ∀i∈outs,0≤i∧i<(es.length:Int) from fun i hi=>by
  have h1:i∈L:=by rw [←HS.out];exact List.mem_mergeSort.2 hi
  rw [hL] at h1;obtain ⟨j,rfl,hj,_⟩:=ql.1 h1
  omega)
 have HAB:=Lib.hid (fun (pl':List Int) (W:World) (hF:FrontW w0 W g gv n es r pl') (hXW:jr W W.heap.size X (jf outs))=>iS w0 W g gv n es r pl' x X cx outs hF hXW (by omega) (by omega) HOV.out);clear h hX hyes hs hL
 go_enter Tryz.func14,Tryz.ntmps14
 go_wp2_with fail;refine HR.out.mono ?_;rintro e w2 ⟨rfl,hb2⟩;have H2:=Lib.hid (H1.out.next hb2);have HB2:=Lib.hid hb2;have HX2:=Lib.hid ((HX.out.below (hb2.mono H1.out.bel.size)).more H2.out.bel.size);obtain ⟨vi,vp,hG,hI,hP⟩:=H2.out.st;have HG2:=Lib.hid hG;have HIP2:=Lib.hid (And.intro hI hP);clear hb2 hG hI hP
 go_upto_region 3 with fail
 refine R5.wp_region_b [[]] [0,0,0,0,0,0,0,0,0,0,0]
  [([],.val (.slice X outs.length cx)),([0],.boxF 100 (.slice X outs.length cx) 25),([1],.cellsI L),([],.val (.pointer (some ⟨g,0,none⟩))),([3],.val (.pointer (some ⟨g,0,none⟩))),([4],.val (.pointer (some ⟨g,1,none⟩))),([5],.val (.pointer (some ⟨gv,0,none⟩))),([],.val (.int .i64 (x:Nat))),([6,7],.cellsI L),([2,8],.val (.bool true)),([9],.val (.bool false))] [10] (by kernel_rfl) (by kernel_rfl) (fun us=>?_) ?_
 ·refine R5.pgo_pure _ rfl rfl (fun wv hw hu=>⟨.slice X outs.length cx,?_,rfl⟩) ?_
  ·have tok:=True.intro;clear hw hu;go_simp
  refine R3.pgo_op _ rfl rfl (fun K wv hw hu hK=>?_) ?_
  ·have tok:=True.intro;have h0:us 0 = .slice X outs.length cx:=hu.1;refine yI (f:=43) (args:=#[.slice X outs.length cx]) ?_ ((YF X outs.length cx wv).mono ?_)
   ·clear hK hw hu;go_simp
   rintro e z ⟨rfl,rfl⟩;exact ⟨_,rfl,hK _ _ (But.of_below _ ((Below.refl _ _).alloc (Nat.le_refl _) _) (Nat.le_refl _)) ⟨wv.heap.size,rfl,Blk.new _ _ _⟩⟩
  refine R3.pgo_op _ rfl rfl (fun K wv hw hu hK=>?_) ?_
  ·have tok:=True.intro;obtain ⟨q,h1,hq⟩:=hu.1;have hbv:=(R5.BW.in_ hw [] rfl (by kernel_rfl):But [] w2.drew wv).undrew.below (Nat.le_refl _) (by simp);have hXv:=(HX2.out.below hbv).more hbv.size;refine yI (f:=42) (args:=#[.func (.func 100) #[] #[.pointer (some ⟨q,0,none⟩)]]) ?_ ((XO q X cx outs hol5 wv hq.lt (by simpa using hq.cell 0) hXv).mono ?_)
   ·clear hK hw hu hbv hXv hq;go_simp
   rintro e z ⟨A2,c2,rfl,hzb,hzc⟩;rw [HS.out] at hzc;exact ⟨_,rfl,hK _ _ (But.of_below _ hzb (Nat.le_refl _)) ⟨A2,c2,by rw [HSL.out],hzc⟩⟩
  refine R5.pgo_pure _ rfl rfl (fun wv hw hu=>⟨.pointer (some ⟨g,0,none⟩),?_,rfl⟩) ?_
  ·have tok:=True.intro;clear hw hu;go_simp
  refine R5.pgo_pure _ rfl rfl (fun wv hw hu=>⟨.pointer (some ⟨g,0,none⟩),?_,rfl⟩) ?_
  ·have tok:=True.intro;have h3:us 3 = .pointer (some ⟨g,0,none⟩):=hu.1;clear hw hu;go_simp
  refine R5.pgo_pure _ rfl rfl (fun wv hw hu=>⟨.pointer (some ⟨g,1,none⟩),?_,rfl⟩) ?_
  ·have tok:=True.intro;have h4:us 4 = .pointer (some ⟨g,0,none⟩):=hu.1;clear hw hu;go_simp
  refine R5.pgo_pure _ rfl rfl (fun wv hw hu=>⟨.pointer (some ⟨gv,0,none⟩),?_,rfl⟩) ?_
  ·have tok:=True.intro;have h5:us 5 = .pointer (some ⟨g,1,none⟩):=hu.1;have zy1:wv.cell? ⟨g,1,none⟩=some (.pointer (some ⟨gv,0,none⟩)):=((R5.BW.in_ hw [] rfl (by kernel_rfl):But [] w2.drew wv).blk HG2.out.drew (by simp)).cell 1;clear hw hu;go_simp
  refine R5.pgo_pure _ rfl rfl (fun wv hw hu=>⟨.int .i64 (x:Nat),?_,rfl⟩) ?_
  ·have tok:=True.intro;clear hw hu;go_simp
  refine R3.pgo_op _ rfl rfl (fun K wv hw hu hK=>?_) ?_
  ·have tok:=True.intro;have h6:us 6 = .pointer (some ⟨gv,0,none⟩):=hu.1;have h7:us 7 = .int .i64 (x:Nat):=hu.2.1;have hbv:=(R5.BW.in_ hw [] rfl (by kernel_rfl):But [] w2.drew wv).undrew.below (Nat.le_refl _) (by simp);have hFv:=(H2.out.next hbv).view;refine yI (f:=44) (args:=#[.pointer (some ⟨gv,0,none⟩),.int .i64 (x:Nat)]) ?_ ((HVO.out wv hFv).mono ?_)
   ·clear hK hw hu hbv hFv;go_simp
   rintro e z ⟨v,rfl,hzb,hzo⟩;obtain ⟨A2,c2,rfl⟩:=jv hzo;exact ⟨_,rfl,hK _ _ (But.of_below _ hzb (Nat.le_refl _)) ⟨A2,c2,rfl,jr.of_own hzo⟩⟩
  refine R3.pgo_op _ rfl rfl (fun K wv hw hu hK=>?_) ?_
  ·have tok:=True.intro;obtain ⟨A2,c2,h2,hc2⟩:=hu.1;obtain ⟨A8,c8,h8,hc8⟩:=hu.2.1;have hE:=VD A2 A8 c2 c8 L L wv wv.heap.size hc2 hc8 hLl hLl;rw [decide_eq_true (rfl:L=L)] at hE;refine yI (f:=41) (args:=#[.slice A2 L.length c2,.slice A8 L.length c8]) ?_ (hE.mono ?_)
   ·clear hK hw hu hc2 hc8 hE;go_simp
   rintro e z ⟨rfl,m,rfl⟩;exact ⟨_,rfl,hK _ _ (But.drewN (But.refl _ _) m) rfl⟩
  refine R5.pgo_pure _ rfl rfl (fun wv hw hu=>⟨.bool false,?_,rfl⟩) ?_
  ·have tok:=True.intro;have h9:us 9 = .bool true:=hu.1;clear hw hu;go_simp
  trivial
 ·intro us w3 hw hu;have h10:us 10 = .bool false:=hu.1;have hb3:=(R5.BW.in_ hw [] rfl (by kernel_rfl):But [] w2.drew w3).undrew.below (Nat.le_refl _) (by simp);have H3:=Lib.hid (H2.out.next hb3);have HB3:=Lib.hid (HB2.out.trans (hb3.mono HB2.out.size));have HG3:=Lib.hid (HG2.out.below hb3 HG2.out.lt);have HI3:=Lib.hid (jT HIP2.out.1 hb3 (Nat.le_refl _));have HP3:=Lib.hid (jT HIP2.out.2 hb3 (Nat.le_refl _));have HX3:=Lib.hid ((HX2.out.below hb3).more hb3.size);clear hw hu hb3;simp only [kx];go_simp;obtain ⟨Ai,ci,rfl⟩:=jv HI3.out;have z0:=HG3.out.cell 0;simp only [List.getElem?_toArray,List.getElem?_cons_zero] at z0;have HSP:=Lib.hid (aP g Ai ci r (x:Nat) w3 z0 (jr.of_own HI3.out) hr);have HSF:=Lib.hid (kX (x:Nat) r r.length);obtain ⟨S1,S2,S3,hS⟩:∃S1 S2 S3,qx (x:Nat) r r.length=(S1,S2,S3):=⟨_,_,_,rfl⟩;rw [hS] at HSP HSF;have HPR:=Lib.hid (show yf es r x outs=xI r S1.toNat S2.toNat (yj es x outs) by unfold yf;rw [hS]);have HGR:=Lib.hid (show zA r x=(r.take S2.toNat).drop S1.toNat by unfold zA;rw [hS]);clear hS z0;go_wp2_with fail;refine HSP.out.mono ?_;rintro e w4 ⟨rfl,hb4⟩;have H4:=Lib.hid (H3.out.next hb4);have HB4:=Lib.hid (HB3.out.trans (hb4.mono HB3.out.size));have HG4:=Lib.hid (HG3.out.below hb4 HG3.out.lt);have HI4:=Lib.hid (jT HI3.out hb4 (Nat.le_refl _));have HP4:=Lib.hid (jT HP3.out hb4 (Nat.le_refl _));have HX4:=Lib.hid ((HX3.out.below hb4).more hb4.size);clear hb4 HSP;obtain ⟨Ap,cp,rfl⟩:=jv HP4.out;have z2:=HG4.out.cell 2;have fz2:=HG4.out.frozen 2;simp only [List.getElem?_toArray,List.getElem?_cons_zero,List.getElem?_cons_succ] at z2;have hgl:=HG4.out.lt;have hz04:=H4.out.bel.size;go_wp2_with (at_builtin;refine yC qz rfl _ _ rfl w0.heap.size (.slice Ap pl.length cp) pl.length _ ?hx w4.heap.size [.int .i64 (x:Nat)] ?hy rfl HP4.out rfl rfl ?m2 ?m3 ?m4 ?_)
  case hx=>simp only [Act.eval];simp
  case hy=>simp only [Act.eval];simp
  case m2=>omega
  case m3=>omega
  case m4=>omega
  intro v5 wa ho5 hg5 _;obtain ⟨Ap5,cp5,rfl⟩:=jv ho5;have HEV5:=Lib.hid (Evo.of_grown (T:=[3]) HP4.out hg5 (List.mem_singleton.2 rfl) (Nat.le_refl _));have hGa:=HG4.out.evo HEV5.out (.inr (by decide));have HGa:=Lib.hid hGa;have z2:=hGa.cell 2;have fz2:=hGa.frozen 2;simp only [List.getElem?_toArray,List.getElem?_cons_zero,List.getElem?_cons_succ] at z2;have HPa:=Lib.hid ho5;clear ho5 hg5 hGa
  go_upto_region 7 with fail
  have HST:=Lib.hid (Evo.set_ (B:=w0.heap.size) (T:=[89]) HGa.out (List.mem_singleton.2 rfl) H4.out.hg 2 (.slice Ap5 (pl.length+1) cp5));have HG5:=Lib.hid (show Blk (wa.setCell ⟨g,2,none⟩ (.slice Ap5 (pl.length+1) cp5)) g 89 #[.slice Ai r.length ci,.pointer (some ⟨gv,0,none⟩),.slice Ap5 (pl.length+1) cp5] from by simpa using HGa.out.set_ 2 (.slice Ap5 (pl.length+1) cp5));generalize wa.setCell ⟨g,2,none⟩ (.slice Ap5 (pl.length+1) cp5)=w5 at *;have HIO5:=Lib.hid (qA (qA HI4.out HEV5.out (by decide)) HST.out (by decide));have HP5:=Lib.hid (qA HPa.out HST.out (by decide));have HBL5:=Lib.hid (((HEV5.out.below (by omega)).trans (HST.out.below (by have:=HEV5.out.size;omega)):Below w0.heap.size w4 w5));have H5:=Lib.hid (show FrontW w0 w5 g gv n es r (pl++[(x:Int)]) from ⟨H4.out.vw,H4.out.bel.trans HBL5.out,H4.out.hg,_,_,HG5.out,HIO5.out,by rw [List.length_append,yW];exact HP5.out⟩);have HX5:=Lib.hid ((HX.out.below ((HB4.out.mono H1.out.bel.size).trans HBL5.out)).more H5.out.bel.size);have HE5:=Lib.hid (show Evo w0.heap.size [89,3] w w5 from (Evo.of_below HB4.out).trans ((HEV5.out.mono (by decide)).trans (HST.out.mono (by decide))));have HI5:=Lib.hid (jr.of_own HIO5.out);have HPL:=Lib.hid (And.intro (KH HIO5.out).1 (KH HIO5.out).2);have hal:(yj es x outs).length≤1000:=by have:=kh (es:=es) (x:=x) (outs:=outs);omega
  have HAB:=Lib.hid (HAB.out (pl++[(x:Int)]));obtain ⟨ab,hab⟩:∃ab,ab=yj es x outs:=⟨_,rfl⟩;rw [←hab] at HAB HPR hal;clear hab;have HSW0:=Lib.hid (fun (f t:Nat) (h1:f≤t) (h2:t≤r.length) (W:World) (A9:Option Addr) (c9:Nat) hG hI h9=>lB W g (.pointer (some ⟨gv,0,none⟩)) (.slice Ap5 (pl.length+1) cp5) Ai A9 ci ab.length c9 f t r ab hG hI h9 rfl HPL.out.2 h1 h2 hr hal HPL.out.1);obtain ⟨AL,hAL⟩:∃AL,AL=ab.length:=⟨_,rfl⟩;obtain ⟨ACL,hACL⟩:∃ACL,ACL=ju ab:=⟨_,rfl⟩;rw [←hAL,←hACL] at HAB;have HAL:=Lib.hid hAL;have HACL:=Lib.hid hACL
  have hgS:∀c,∀k∈([[],[g]]:List (List Nat)).getD c [],k<w5.heap.size:=fun c k hk=>by
   have hg2:=HG5.out.lt;rcases c with _ | _ | c
   ·cases hk
   ·have:k=g:=by simpa using hk
    omega
   ·cases hk
  have hg1:∀c,c≠1→g∉([[],[g]]:List (List Nat)).getD c []:=fun c hc1 hk=>by
   rcases c with _ | _ | c
   ·cases hk
   ·exact hc1 rfl
   ·cases hk
  clear z2 fz2 hAL hACL hz04 hal;rcases HSF.out with ⟨_,e⟩ | ⟨f,t,e1,e2,h3,h4,_⟩
  ·injection e with e1 e2;injection e2 with e2 _;subst e1 e2;obtain ⟨f,hf⟩:∃f:Nat,f=0:=⟨_,rfl⟩;have HFT:=Lib.hid hf;have HSW1:=HSW0.out 0 0 (Nat.le_refl _) (Nat.zero_le _);have HPR:=HPR;have HGR:=HGR;have HSW:=Lib.hid HSW1;clear HSW1;have hPRe:yf es r x outs=xI r 0 0 ab:=by rw [HPR.out];rfl
   have hGRe:zA r x=(r.take 0).drop 0:=by rw [HGR.out];rfl
   rw [←hPRe,←hGRe] at HSW;have HPRe:=Lib.hid (And.intro hPRe hGRe);clear hPRe hGRe;obtain ⟨PL,hPL⟩:∃q,q=(yf es r x outs).length:=⟨_,rfl⟩;obtain ⟨PC,hPC⟩:∃q,q=ju (yf es r x outs):=⟨_,rfl⟩;obtain ⟨GL,hGL⟩:∃q,q=(zA r x).length:=⟨_,rfl⟩;obtain ⟨GC,hGC⟩:∃q,q=ju (zA r x):=⟨_,rfl⟩;rw [←hPL,←hPC,←hGL,←hGC] at HSW;rw [←HAL.out,←HACL.out] at HSW;have HEQ:=Lib.hid (And.intro (And.intro hPL hPC) (And.intro hGL hGC));clear hPL hPC hGL hGC
   refine R5.wp_region_b [[],[g]] [0,0,0,0,0,0,0,0,0,0,1,0,0]
    [([],.val (.pointer (some ⟨g,0,none⟩))),([0],.val (.pointer (some ⟨g,0,none⟩))),([1],.val (.pointer (some ⟨g,0,none⟩))),([],.val (.int .i64 (-1))),([3],.val (.int .i64 (0:Nat))),([],.val (.int .i64 0)),([],.val (.pointer (some ⟨g,0,none⟩))),([],.val (.int .i64 (x:Nat))),([],.val (.slice X outs.length cx)),([6,7,8],.own w5.heap.size 81 3 AL ACL hgS),([2,4,5,9],.swapF g w5.heap.size (.pointer (some ⟨gv,0,none⟩)) (.slice Ap5 (pl.length+1) cp5) GL GC PL PC hgS hg1),([10],.swapF g w5.heap.size (.pointer (some ⟨gv,0,none⟩)) (.slice Ap5 (pl.length+1) cp5) GL GC PL PC hgS hg1),([],.val (.int .i64 0))] [11,12] (by kernel_rfl) (by kernel_rfl) (fun us=>?_) ?_
   ·refine R5.pgo_pure _ rfl rfl (fun wv hw hu=>⟨.pointer (some ⟨g,0,none⟩),?_,rfl⟩) ?_
    ·have tok:=True.intro;clear hw hu;go_simp
    refine R5.pgo_pure _ rfl rfl (fun wv hw hu=>⟨.pointer (some ⟨g,0,none⟩),?_,rfl⟩) ?_
    ·have tok:=True.intro;have h0:us 0 = .pointer (some ⟨g,0,none⟩):=hu.1;clear hw hu;go_simp
    refine R5.pgo_pure _ rfl rfl (fun wv hw hu=>⟨.pointer (some ⟨g,0,none⟩),?_,rfl⟩) ?_
    ·have tok:=True.intro;have h1:us 1 = .pointer (some ⟨g,0,none⟩):=hu.1;clear hw hu;go_simp
    refine R5.pgo_pure _ rfl rfl (fun wv hw hu=>⟨.int .i64 (-1),?_,rfl⟩) ?_
    ·have tok:=True.intro;clear hw hu;go_simp
    refine R5.pgo_pure _ rfl rfl (fun wv hw hu=>⟨.int .i64 (0:Nat),?_,rfl⟩) ?_
    ·have tok:=True.intro;have h3:us 3 = .int .i64 (-1):=hu.1;clear hw hu;go_simp
     all_goals omega
    refine R5.pgo_pure _ rfl rfl (fun wv hw hu=>⟨.int .i64 0,?_,rfl⟩) ?_
    ·have tok:=True.intro;clear hw hu;go_simp
    refine R5.pgo_pure _ rfl rfl (fun wv hw hu=>⟨.pointer (some ⟨g,0,none⟩),?_,rfl⟩) ?_
    ·have tok:=True.intro;clear hw hu;go_simp
    refine R5.pgo_pure _ rfl rfl (fun wv hw hu=>⟨.int .i64 (x:Nat),?_,rfl⟩) ?_
    ·have tok:=True.intro;clear hw hu;go_simp
    refine R5.pgo_pure _ rfl rfl (fun wv hw hu=>⟨.slice X outs.length cx,?_,rfl⟩) ?_
    ·have tok:=True.intro;clear hw hu;go_simp
    refine R3.pgo_op _ rfl rfl (fun K wv hw hu hK=>?_) ?_
    ·have tok:=True.intro;have h6:us 6 = .pointer (some ⟨g,0,none⟩):=hu.1;have h7:us 7 = .int .i64 (x:Nat):=hu.2.1;have h8:us 8 = .slice X outs.length cx:=hu.2.2.1;have hbv:=(R5.BW.in_ hw [] rfl (by kernel_rfl):But [] w5.drew wv).undrew.below (Nat.le_refl _) (by simp);have hFv:=H5.out.next hbv
     have hXv:=(HX5.out.below hbv).more hbv.size;refine yI (f:=47) (args:=#[.pointer (some ⟨g,0,none⟩),.int .i64 (x:Nat),.slice X outs.length cx]) ?_ ((HAB.out wv hFv hXv).mono ?_)
     ·clear hK hw hu hbv hFv hXv;go_simp
     rintro e z ⟨v,rfl,hzb,hzo⟩;exact ⟨v,rfl,hK _ _ (But.of_below _ hzb (Nat.le_refl _)) (qh hzo hbv.size)⟩
    refine R3.pgo_op _ rfl rfl (fun K wv hw hu hK=>?_) ?_
    ·have tok:=True.intro;have h2:us 2 = .pointer (some ⟨g,0,none⟩):=hu.1;have h4:us 4 = .int .i64 (0:Nat):=hu.2.1;have h5:us 5 = .int .i64 0:=hu.2.2.1;have h9:wv.ownsRow w5.heap.size 81 3 (us 9) AL ACL:=hu.2.2.2.1;obtain ⟨A9,c9,e9⟩:=jv h9;have hbv:=(R5.BW.in_ hw [] rfl (by kernel_rfl):But [] w5.drew wv).undrew.below (Nat.le_refl _) (by simp);have hGv:=HG5.out.below hbv HG5.out.lt;have hIv:=(HI5.out.below hbv).more hbv.size;rw [e9] at h9;refine yI (f:=46) (args:=#[.pointer (some ⟨g,0,none⟩),.int .i64 (0:Nat),.int .i64 (0:Nat),.slice A9 AL c9]) ?_ ((HSW.out wv A9 c9 hGv hIv (jr.of_own h9)).mono ?_)
     ·clear hK hw hu hbv hGv hIv h9;go_simp
     rintro e z ⟨v,rfl,hzb,hzo,v2,hz2,hz3⟩;exact ⟨v,rfl,hK _ _ hzb ⟨qh hzo hbv.size,v2,hz2,qh hz3 hbv.size⟩⟩
    refine R3.pgo_val _ rfl rfl (fun wv hw hu=>?_) ?_
    ·have tok:=True.intro;have h10:=hu.1;refine ⟨us 10,wv,?_,But.refl _ _,h10⟩;clear hw hu h10;go_simp
    refine R5.pgo_pure _ rfl rfl (fun wv hw hu=>⟨.int .i64 0,?_,rfl⟩) ?_
    ·have tok:=True.intro;clear hw hu;go_simp
    trivial
   ·intro us2 w6 hw hu;obtain ⟨hgo,v6,hv6,ho6⟩:=hu.1;have h12:us2 12 = .int .i64 0:=hu.2.1;have H12:=Lib.hid h12;clear h12
    have hbt:But [g] w5 w6:=(But.mono hw (fun k hk=>by
     simpa [R3.allC,List.range_succ] using hk)).undrew
    have HE6:=Lib.hid (Evo.of_but (B:=w0.heap.size) (T:=[89]) hbt HG5.out (List.mem_singleton.2 rfl) H5.out.hg);have HGO:=Lib.hid (qh hgo H5.out.bel.size);have HP6:=Lib.hid (qA HP5.out HE6.out (by decide));have HFV:=Lib.hid (And.intro hv6 (qh ho6 H5.out.bel.size));clear hw hu hbt hgo hv6 ho6;simp only [kx]
    try go_simp
    go_wp2_with fail;go_ret2;refine ⟨us2 11,?_,HE5.out.trans (HE6.out.mono (by decide)),?_,?_⟩
    ·show Ending.returned (.tuple #[us2 11,us2 12])=_
     rw [H12.out]
    ·rw [←HEQ.out.2.1,←HEQ.out.2.2];exact HGO.out
    ·refine ⟨H5.out.vw,H5.out.bel.trans (HE6.out.below H5.out.bel.size),H5.out.hg,v6,_,HFV.out.1,?_,?_⟩
     ·rw [←HEQ.out.1.1,←HEQ.out.1.2];exact HFV.out.2
     ·rw [List.length_append,yW];exact HP6.out
  ·try simp only at e1 e2
   subst e1 e2;have HSW1:=HSW0.out f t (by omega) h4;have hmx:¬(f:Int)<0:=by omega
   have HSW:=Lib.hid HSW1;clear HSW1;have hPRe:yf es r x outs=xI r f t ab:=by rw [HPR.out];rfl
   have hGRe:zA r x=(r.take t).drop f:=by rw [HGR.out];rfl
   rw [←hPRe,←hGRe] at HSW;have HPRe:=Lib.hid (And.intro hPRe hGRe);clear hPRe hGRe;obtain ⟨PL,hPL⟩:∃q,q=(yf es r x outs).length:=⟨_,rfl⟩;obtain ⟨PC,hPC⟩:∃q,q=ju (yf es r x outs):=⟨_,rfl⟩;obtain ⟨GL,hGL⟩:∃q,q=(zA r x).length:=⟨_,rfl⟩;obtain ⟨GC,hGC⟩:∃q,q=ju (zA r x):=⟨_,rfl⟩;rw [←hPL,←hPC,←hGL,←hGC] at HSW;rw [←HAL.out,←HACL.out] at HSW;have HEQ:=Lib.hid (And.intro (And.intro hPL hPC) (And.intro hGL hGC));clear hPL hPC hGL hGC
   refine R5.wp_region_b [[],[g]] [0,0,0,0,0,0,0,0,0,0,1,0,0]
    [([],.val (.pointer (some ⟨g,0,none⟩))),([0],.val (.pointer (some ⟨g,0,none⟩))),([1],.val (.pointer (some ⟨g,0,none⟩))),([],.val (.int .i64 (f:Nat))),([3],.val (.int .i64 (f:Nat))),([],.val (.int .i64 (t:Nat))),([],.val (.pointer (some ⟨g,0,none⟩))),([],.val (.int .i64 (x:Nat))),([],.val (.slice X outs.length cx)),([6,7,8],.own w5.heap.size 81 3 AL ACL hgS),([2,4,5,9],.swapF g w5.heap.size (.pointer (some ⟨gv,0,none⟩)) (.slice Ap5 (pl.length+1) cp5) GL GC PL PC hgS hg1),([10],.swapF g w5.heap.size (.pointer (some ⟨gv,0,none⟩)) (.slice Ap5 (pl.length+1) cp5) GL GC PL PC hgS hg1),([],.val (.int .i64 0))] [11,12] (by kernel_rfl) (by kernel_rfl) (fun us=>?_) ?_
   ·refine R5.pgo_pure _ rfl rfl (fun wv hw hu=>⟨.pointer (some ⟨g,0,none⟩),?_,rfl⟩) ?_
    ·have tok:=True.intro;clear hw hu;go_simp
    refine R5.pgo_pure _ rfl rfl (fun wv hw hu=>⟨.pointer (some ⟨g,0,none⟩),?_,rfl⟩) ?_
    ·have tok:=True.intro;have h0:us 0 = .pointer (some ⟨g,0,none⟩):=hu.1;clear hw hu;go_simp
    refine R5.pgo_pure _ rfl rfl (fun wv hw hu=>⟨.pointer (some ⟨g,0,none⟩),?_,rfl⟩) ?_
    ·have tok:=True.intro;have h1:us 1 = .pointer (some ⟨g,0,none⟩):=hu.1;clear hw hu;go_simp
    refine R5.pgo_pure _ rfl rfl (fun wv hw hu=>⟨.int .i64 (f:Nat),?_,rfl⟩) ?_
    ·have tok:=True.intro;clear hw hu;go_simp
    refine R5.pgo_pure _ rfl rfl (fun wv hw hu=>⟨.int .i64 (f:Nat),?_,rfl⟩) ?_
    ·have tok:=True.intro;have h3:us 3 = .int .i64 (f:Nat):=hu.1;clear hw hu;go_simp
     all_goals omega
    refine R5.pgo_pure _ rfl rfl (fun wv hw hu=>⟨.int .i64 (t:Nat),?_,rfl⟩) ?_
    ·have tok:=True.intro;clear hw hu;go_simp
    refine R5.pgo_pure _ rfl rfl (fun wv hw hu=>⟨.pointer (some ⟨g,0,none⟩),?_,rfl⟩) ?_
    ·have tok:=True.intro;clear hw hu;go_simp
    refine R5.pgo_pure _ rfl rfl (fun wv hw hu=>⟨.int .i64 (x:Nat),?_,rfl⟩) ?_
    ·have tok:=True.intro;clear hw hu;go_simp
    refine R5.pgo_pure _ rfl rfl (fun wv hw hu=>⟨.slice X outs.length cx,?_,rfl⟩) ?_
    ·have tok:=True.intro;clear hw hu;go_simp
    refine R3.pgo_op _ rfl rfl (fun K wv hw hu hK=>?_) ?_
    ·have tok:=True.intro;have h6:us 6 = .pointer (some ⟨g,0,none⟩):=hu.1;have h7:us 7 = .int .i64 (x:Nat):=hu.2.1;have h8:us 8 = .slice X outs.length cx:=hu.2.2.1;have hbv:=(R5.BW.in_ hw [] rfl (by kernel_rfl):But [] w5.drew wv).undrew.below (Nat.le_refl _) (by simp);have hFv:=H5.out.next hbv
     have hXv:=(HX5.out.below hbv).more hbv.size;refine yI (f:=47) (args:=#[.pointer (some ⟨g,0,none⟩),.int .i64 (x:Nat),.slice X outs.length cx]) ?_ ((HAB.out wv hFv hXv).mono ?_)
     ·clear hK hw hu hbv hFv hXv;go_simp
     rintro e z ⟨v,rfl,hzb,hzo⟩;exact ⟨v,rfl,hK _ _ (But.of_below _ hzb (Nat.le_refl _)) (qh hzo hbv.size)⟩
    refine R3.pgo_op _ rfl rfl (fun K wv hw hu hK=>?_) ?_
    ·have tok:=True.intro;have h2:us 2 = .pointer (some ⟨g,0,none⟩):=hu.1;have h4:us 4 = .int .i64 (f:Nat):=hu.2.1;have h5:us 5 = .int .i64 (t:Nat):=hu.2.2.1;have h9:wv.ownsRow w5.heap.size 81 3 (us 9) AL ACL:=hu.2.2.2.1;obtain ⟨A9,c9,e9⟩:=jv h9;have hbv:=(R5.BW.in_ hw [] rfl (by kernel_rfl):But [] w5.drew wv).undrew.below (Nat.le_refl _) (by simp);have hGv:=HG5.out.below hbv HG5.out.lt;have hIv:=(HI5.out.below hbv).more hbv.size;rw [e9] at h9;refine yI (f:=46) (args:=#[.pointer (some ⟨g,0,none⟩),.int .i64 (f:Nat),.int .i64 (t:Nat),.slice A9 AL c9]) ?_ ((HSW.out wv A9 c9 hGv hIv (jr.of_own h9)).mono ?_)
     ·clear hK hw hu hbv hGv hIv h9;go_simp
     rintro e z ⟨v,rfl,hzb,hzo,v2,hz2,hz3⟩;exact ⟨v,rfl,hK _ _ hzb ⟨qh hzo hbv.size,v2,hz2,qh hz3 hbv.size⟩⟩
    refine R3.pgo_val _ rfl rfl (fun wv hw hu=>?_) ?_
    ·have tok:=True.intro;have h10:=hu.1;refine ⟨us 10,wv,?_,But.refl _ _,h10⟩;clear hw hu h10;go_simp
    refine R5.pgo_pure _ rfl rfl (fun wv hw hu=>⟨.int .i64 0,?_,rfl⟩) ?_
    ·have tok:=True.intro;clear hw hu;go_simp
    trivial
   ·intro us2 w6 hw hu;obtain ⟨hgo,v6,hv6,ho6⟩:=hu.1;have h12:us2 12 = .int .i64 0:=hu.2.1;have H12:=Lib.hid h12;clear h12
    have hbt:But [g] w5 w6:=(But.mono hw (fun k hk=>by
     simpa [R3.allC,List.range_succ] using hk)).undrew
    have HE6:=Lib.hid (Evo.of_but (B:=w0.heap.size) (T:=[89]) hbt HG5.out (List.mem_singleton.2 rfl) H5.out.hg);have HGO:=Lib.hid (qh hgo H5.out.bel.size);have HP6:=Lib.hid (qA HP5.out HE6.out (by decide));have HFV:=Lib.hid (And.intro hv6 (qh ho6 H5.out.bel.size));clear hw hu hbt hgo hv6 ho6;simp only [kx]
    try go_simp
    go_wp2_with fail;go_ret2;refine ⟨us2 11,?_,HE5.out.trans (HE6.out.mono (by decide)),?_,?_⟩
    ·show Ending.returned (.tuple #[us2 11,us2 12])=_
     rw [H12.out]
    ·rw [←HEQ.out.2.1,←HEQ.out.2.2];exact HGO.out
    ·refine ⟨H5.out.vw,H5.out.bel.trans (HE6.out.below H5.out.bel.size),H5.out.hg,v6,_,HFV.out.1,?_,?_⟩
     ·rw [←HEQ.out.1.1,←HEQ.out.1.2];exact HFV.out.2
     ·rw [List.length_append,yW];exact HP6.out
end Go.Proofs.YtneeknlhlkpnpaaGreat
namespace Go.Proofs.YtneeknlhlkpnpaaGreat
open Go.RowKit
theorem Qv(c a:Int)(v:Value)(w:World):(Instr.field 74 (.agg #[.int .i64 c,.int .i64 a,v]) 0).run Tryz.prog w = .ok (.int .i64 c) w:=by
 kernel_rfl
theorem Ze{n:Int}{es:List (Int×Int)}(h:GoodP n es):vN n es=n.toNat∧vE n es=es:=by
 unfold vN vE;rw [h.may];exact ⟨rfl,rfl⟩
def pi(n:Int)(es:List (Int×Int))(w:World)(e:Ending)(w':World):Prop:=
 (¬GoodP n es∧e = .returned (.tuple #[.pointer none,.int .i64 1])∧Below w.heap.size w w')∨(GoodP n es ∧ ∃w0 g gv,e = .returned (.tuple #[.pointer (some ⟨g,0,none⟩),.int .i64 0])∧Below w.heap.size w w0∧FrontW w0 w' g gv n.toNat es [] [])
set_option maxRecDepth 20000 in
set_option maxHeartbeats 2000000 in
theorem eN(n:Int)(A:Option Addr)(cap:Nat)(es:List (Int×Int))(w:World)(hes:jr w w.heap.size A (jA es))(hcap:es.length≤cap) :
  Calls Tryz.prog 12 #[.agg #[.int .i64 n,.slice A es.length cap]] w (pi n es w):=by
 have S1:=Lib.hid (SG.start n cap hes (rs:=[]) (C:=none) (fun h=>absurd h (by simp)));clear hes
 go_enter Tryz.func12,Tryz.ntmps12
 go_upto_region 1 with fail
 generalize w.alloc (.cells #[.int .i64 n,.slice A es.length cap] 24)=w1 at *;have g0:=S1.out.g0;have g1:=S1.out.g1;go_wp2_with fail;refine (VG n A cap es w1 S1.out.es hcap).mono ?_;rintro e w2 ⟨c,a,v,rfl,hb2,hc⟩;have S2:=Lib.hid (S1.out.next hb2);have HC:=Lib.hid hc;have hfd:=Qv c a v w2;have g0:=S2.out.g0;have g1:=S2.out.g1;clear hb2 hc;by_cases h0:c=0
 ·have h0':(c != 0)=false:=by rw [h0];rfl
  have HG:=Lib.hid (HC.out.1 h0);clear h0;go_wp2_with fail;refine (um n A cap es w2 S2.out.es).mono ?_;rintro e w3 ⟨gv,rfl,hb3,hv3⟩;rw [(Ze HG.out).1,(Ze HG.out).2] at hv3;have S3:=Lib.hid (S2.out.next hb3);have HV:=Lib.hid hv3;clear hb3 hv3;go_wp2_with fail;go_ret2;refine .inr ⟨HG.out,w3,w3.heap.size,gv,rfl,S3.out.below,HV.out,(Below.refl _ _).alloc (Nat.le_refl _) _,Nat.le_refl _,.slice none 0 0,.slice none 0 0,?_,World.ownsRow_nil _ _ _ _,World.ownsRow_nil _ _ _ _⟩;exact Blk.new w3 89 #[.slice none 0 0,.pointer (some ⟨gv,0,none⟩),.slice none 0 0]
 ·have h0':(c != 0)=true:=by simp [h0]
  have HG:=Lib.hid (show ¬GoodP n es from fun h=>h0 (HC.out.2 h));clear h0;go_wp2_with fail;go_ret2;exact .inl ⟨HG.out,rfl,S2.out.below⟩
def upI(n:Nat):List Int:=(List.range n).map fun i:Nat=>(i:Int)
theorem XM(n:Nat):(upI n).length=n:=by simp [upI]
def ofB(n:Nat)(es:List (Int×Int))(ord:List Int)(outs:List (List Int)):Bool:=
 decide (outs.length=n)&&decide (ord.length=n)&&decide (ord.mergeSort leI=upI n)&&(List.range n).all fun x=>decide ((outs.getD x []).mergeSort leI=jK es Prod.fst (x:Nat) es.length)
theorem kp{n:Nat}{es:List (Int×Int)}{ord:List Int}{outs:List (List Int)}:ofB n es ord outs=true↔outs.length=n∧ord.length=n∧ord.mergeSort leI=upI n ∧ ∀x,x<n→(outs.getD x []).mergeSort leI=jK es Prod.fst (x:Nat) es.length:=by
 unfold ofB;simp [List.all_eq_true,and_assoc]
structure PlanS(w wc:World)(g:Nat)(O:Option Addr)(co:Nat)(ord:List Int)(U:Option Addr)(cu:Nat)(outs:List (List Int)):Prop where
 b:Blk wc g 28 #[.slice O ord.length co,.slice U outs.length cu]
 o:jr wc wc.heap.size O (jf ord)
 u:qm wc wc.heap.size U outs
 bel:Below w.heap.size w wc
section
variable {w wc w':World}{g:Nat}{O:Option Addr}{co:Nat}{ord:List Int}{U:Option Addr}{cu:Nat}{outs:List (List Int)}
theorem PlanS.next(h:PlanS w wc g O co ord U cu outs)(hb:Below wc.heap.size wc w'):PlanS w w' g O co ord U cu outs:=
 ⟨h.b.below hb h.b.lt,(h.o.below hb).more hb.size,(h.u.below hb).more hb.size,h.bel.trans (hb.mono h.bel.size)⟩
theorem PlanS.p0(h:PlanS w wc g O co ord U cu outs):wc.cell? ⟨g,0,none⟩=some (.slice O ord.length co):=h.b.cell 0
theorem PlanS.p1(h:PlanS w wc g O co ord U cu outs):wc.cell? ⟨g,1,none⟩=some (.slice U outs.length cu):=h.b.cell 1
theorem PlanS.start(co cu:Nat)(hO:jr w w.heap.size O (jf ord))(hU:qm w w.heap.size U outs):PlanS w (w.alloc (.cells #[.slice O ord.length co,.slice U outs.length cu] 28)) w.heap.size O co ord U cu outs:=by
 have hb:=(Below.refl w.heap.size w).alloc (Nat.le_refl _) (.cells #[.slice O ord.length co,.slice U outs.length cu] 28);exact ⟨Blk.new _ _ _,(hO.below hb).more hb.size,(hU.below hb).more hb.size,hb⟩
end
theorem Jq{w:World}(k:Nat):Below w.heap.size w (w.drewN k):=below_drewN (Below.refl _ _) k
set_option maxRecDepth 20000 in
set_option maxHeartbeats 4000000 in
theorem oE(gv n:Nat)(es:List (Int×Int))(O U:Option Addr)(co cu:Nat)(ord:List Int)(outs:List (List Int))(w:World)(hv:zC w gv n es)(hO:jr w w.heap.size O (jf ord))(hU:qm w w.heap.size U outs)(hn:n≤64)(hl:es.length≤500)(hol:∀l∈outs,l.length≤100000) :
  Calls Tryz.prog 88 #[.pointer (some ⟨gv,0,none⟩),.agg #[.slice O ord.length co,.slice U outs.length cu]] w (fun e w'=>e = .returned (.bool (ofB n es ord outs))∧Below w.heap.size w w'):=by
 have S1:=Lib.hid (PlanS.start co cu hO hU);have HV1:=Lib.hid (hv.below ((Below.refl w.heap.size w).alloc (Nat.le_refl _) (.cells #[.slice O ord.length co,.slice U outs.length cu] 28)) (Nat.le_refl _));have HOL:=Lib.hid hol;clear hv hO hU hol
 go_enter Tryz.func88,Tryz.ntmps88
 go_upto_region 1 with fail
 obtain ⟨g,hg⟩:∃g,g=w.heap.size:=⟨_,rfl⟩;rw [←hg] at S1 ⊢;generalize w.alloc (.cells #[.slice O ord.length co,.slice U outs.length cu] 28)=w1 at *;clear hg;have z0:=S1.out.p0;have z1:=S1.out.p1;obtain ⟨_,_,_,_,hv1,_,_⟩:=HV1.out.tabs;have y0:=hv1.cell 0;simp only [List.getElem?_toArray,List.getElem?_cons_zero] at y0;clear hv1;by_cases hu:outs.length=n
 ·have hu':((outs.length:Int) != (n:Int))=false:=by rw [xd];simp [hu]
  have HU:=Lib.hid hu;clear hu;by_cases ho:ord.length=n
  ·have ho':((ord.length:Int) != (n:Int))=false:=by rw [xd];simp [ho]
   have HO:=Lib.hid ho;clear ho
   have HR:=Lib.hid (show ofB n es ord outs=(decide (ord.mergeSort leI=upI n)&&(List.range n).all fun x=>decide ((outs.getD x []).mergeSort leI=jK es Prod.fst (x:Nat) es.length)) by
    unfold ofB;rw [decide_eq_true HU.out,decide_eq_true HO.out];rfl)
   go_quiet (fail)
   have S2:=Lib.hid (S1.out.next (Jq nq));have HV2:=Lib.hid (HV1.out.below (Jq nq) (Nat.le_refl _));generalize w1.drewN nq=w2 at *;clear z0 z1 y0 hu' ho';have z0:=S2.out.p0;have z1:=S2.out.p1;have HSV:=Lib.hid (VP O co ord (by have:=HO.out;omega) w2 S2.out.o);go_wp2_with fail;refine (YF O ord.length co w2).mono ?_;rintro e w3 ⟨rfl,rfl⟩;go_wp2_with fail;refine HSV.out.mono ?_;rintro e w4 ⟨A4,c4,rfl,hb4,hc4⟩;have S4:=Lib.hid (S2.out.next hb4);have HV4:=Lib.hid (HV2.out.below hb4 (Nat.le_refl _));have HC4:=Lib.hid hc4;have hml:(ord.mergeSort leI).length=ord.length:=List.length_mergeSort _;obtain ⟨L,hL⟩:∃L,L=ord.mergeSort leI:=⟨_,rfl⟩;rw [←hL] at hml HC4 HR;have hLn:L.length=n:=hml.trans HO.out;rw [←hml];have HLn:=Lib.hid hLn;have hL64:L.length≤64:=by omega
   clear hb4 hc4 HSV hml hL hLn z0 z1;go_wp2_with fail
   go_loopg [34] L.length (fun k s34 wr=>∃i:Nat,s34 = .int .i64 i∧i≤L.length∧k=L.length-i∧wr=w4 ∧ ∀j,j<i→L[j]? = some (j:Int))
   case atStart=>exact ⟨0,rfl,Nat.zero_le _,rfl,rfl,fun j hj=>absurd hj (by omega)⟩
   case round=>
    obtain ⟨i,rfl,hi,hk,hwr,hf⟩:=hrel;have Hk:=Lib.hid hk;have Hf:=Lib.hid hf;clear hk hf;by_cases hlt:i<L.length
    ·have hlt':(i:Int)<L.length:=by omega
     obtain ⟨b,off,rfl,hbb,hc⟩:=HC4.out.ints (by omega);have c0:=hc i hlt;rw [←hwr] at c0;have HW:=Lib.hid hwr;have HLi:=Lib.hid (show L[i]? = some L[i] from List.getElem?_eq_getElem hlt);clear hc hwr;generalize L[i]=u at *;by_cases hu:u=(i:Int)
     ·have hu':(u != (i:Int))=false:=by simp [hu]
      have HE:=Lib.hid hu;clear hu;go_wp2_with fail
      go_roundg (L.length-(i+1))
      case measure=>rw [Hk.out];omega
      case rel=>exact ⟨i+1,by go_num,by omega,rfl,HW.out,fun j hj=>by
       by_cases h:j=i
       ·rw [h,HLi.out,HE.out]
       ·exact Hf.out j (by omega)⟩
     ·have hu':(u != (i:Int))=true:=by simp [hu]
      have HRF:=Lib.hid (show ofB n es ord outs=false by
       rw [HR.out]
       have:L≠upI n:=fun h=>by
        have h1:=HLi.out;rw [h] at h1
        have h2:(upI n)[i]? = some (i:Int):=by
         have:i<n:=by have:=HLn.out;omega
         simp [upI,this]
        rw [h2] at h1;injection h1 with h1;exact hu h1.symm
       rw [decide_eq_false this,Bool.false_and])
      clear hu;go_wp2_with fail;go_ret;exact ⟨jx HRF.out.symm,by rw [HW.out];exact S4.out.bel⟩
    ·have hie:i=L.length:=by omega
     have HLU:=Lib.hid (show L=upI n by
      apply List.ext_getElem?;intro j;by_cases hj:j<L.length
      ·rw [Hf.out j (by omega)];have:j<n:=by have:=HLn.out;omega
       simp [upI,this]
      ·rw [List.getElem?_eq_none (by omega),List.getElem?_eq_none (by rw [XM];have:=HLn.out;omega)])
     rw [decide_eq_true HLU.out,Bool.true_and] at HR;subst hwr;have z1:=S4.out.p1;have hlt':¬(i:Int)<L.length:=by omega
     clear hlt hie HLU Hf;obtain ⟨w5,hw5⟩:∃w5,w5=wr:=⟨_,rfl⟩;rw [←hw5] at z1 S4 HV4 ⊢;clear hw5 HC4;go_wp2_with fail
     go_loopg [46] outs.length (fun k s46 wr=>∃i:Nat,s46 = .int .i64 i∧i≤outs.length∧k=outs.length-i∧Below w5.heap.size w5 wr ∧ ∀x,x<i→decide ((outs.getD x []).mergeSort leI=jK es Prod.fst (x:Nat) es.length)=true)
     case atStart=>exact ⟨0,rfl,Nat.zero_le _,rfl,Below.refl _ _,fun j hj=>absurd hj (by omega)⟩
     case round=>
      obtain ⟨i,rfl,hi,hk,hbw,hf⟩:=hrel;have Hk:=Lib.hid hk;have Hf:=Lib.hid hf;have S6:=Lib.hid (S4.out.next hbw);have HBW:=Lib.hid hbw;have HV6:=Lib.hid (HV4.out.below hbw (Nat.le_refl _));clear hk hf hbw;by_cases hlt:i<outs.length
      ·have hlt':(i:Int)<outs.length:=by omega
       have hin:i<n:=by have:=HU.out;omega
       obtain ⟨b,off,rfl,hbb,hc⟩:=S6.out.u (by omega);obtain ⟨Ai,ci,c0,hCi⟩:=hc i hlt;have HOi:=Lib.hid (show outs.getD i []=outs[i] by rw [List.getD_eq_getElem?_getD,List.getElem?_eq_getElem hlt];rfl);have hll:=HOL.out outs[i] (List.getElem_mem hlt);have HCi:=Lib.hid hCi;clear hc hCi;generalize outs[i]=l at *;have HSV:=Lib.hid (VP Ai ci l hll wr HCi.out);go_wp2_with fail;refine (YF Ai l.length ci wr).mono ?_;rintro e w7 ⟨rfl,rfl⟩;go_wp2_with fail;refine HSV.out.mono ?_;rintro e w8 ⟨A8,c8,rfl,hb8,hc8⟩;have S8:=Lib.hid (S6.out.next hb8);have HV8:=Lib.hid (HV6.out.below hb8 (Nat.le_refl _));have HC8:=Lib.hid hc8;have HB8:=Lib.hid (HBW.out.trans (hb8.mono HBW.out.size));have HVO:=Lib.hid (Vg gv n i es w8 HV8.out hin (by omega));obtain ⟨E,hE⟩:∃E,E=jK es Prod.fst (i:Nat) es.length:=⟨_,rfl⟩;have hEl:E.length≤100000:=by rw [hE];have:=qd es Prod.fst (i:Nat) es.length;omega
       obtain ⟨L8,hL8⟩:∃L,L=l.mergeSort leI:=⟨_,rfl⟩;have hl8:L8.length=l.length:=by rw [hL8,List.length_mergeSort]
       rw [←hE] at HVO;rw [←hL8] at HC8;rw [←hl8];have HEL:=Lib.hid (And.intro hE hL8);have hl8':L8.length≤100000:=by omega
       clear hb8 hc8 hE hL8 HSV hl8 c0;go_wp2_with fail;refine HVO.out.mono ?_;rintro e w9 ⟨v9,rfl,hb9,ho9⟩;obtain ⟨A9,c9,rfl⟩:=jv ho9;have HQ:=Lib.hid (VD A8 A9 c8 c9 L8 E w9 w9.heap.size ((HC8.out.below hb9).more hb9.size) (jr.of_own ho9) hl8' hEl);have S9:=Lib.hid (S8.out.next hb9);have HV9:=Lib.hid (HV8.out.below hb9 (Nat.le_refl _));have HB9:=Lib.hid ((HB8.out).trans (hb9.mono HB8.out.size));clear hb9 ho9 HVO;go_wp2_with fail;refine HQ.out.mono ?_;rintro e w10 ⟨rfl,m,rfl⟩;have HB10:=Lib.hid (below_drewN HB9.out m);have S10:=Lib.hid (S9.out.next (Jq m));generalize w9.drewN m=w10 at *
       cases hq:decide (L8=E) with
       | true=>
        have HT:=Lib.hid (show decide ((outs.getD i []).mergeSort leI=jK es Prod.fst (i:Nat) es.length)=true by rw [HOi.out,←HEL.out.1,←HEL.out.2];exact hq);clear hq;go_wp2_with fail
        go_roundg (outs.length-(i+1))
        case measure=>rw [Hk.out];omega
        case rel=>exact ⟨i+1,by go_num,by omega,rfl,HB10.out,fun j hj=>by
         by_cases h:j=i
         ·rw [h];exact HT.out
         ·exact Hf.out j (by omega)⟩
       | false=>
        have HRF:=Lib.hid (show ofB n es ord outs=false by
         rw [HR.out,List.all_eq_false];refine ⟨i,List.mem_range.2 hin,?_⟩
         rw [HOi.out,←HEL.out.1,←HEL.out.2,hq];simp)
        clear hq;go_wp2_with fail;go_ret;exact ⟨jx HRF.out.symm,S10.out.bel⟩
      ·have hlt':¬(i:Int)<outs.length:=by omega
       have HRT:=Lib.hid (show ofB n es ord outs=true by
        rw [HR.out,List.all_eq_true];intro x hx
        exact Hf.out x (by have:=List.mem_range.1 hx;have:=HU.out;omega))
       go_wp2_with fail;go_ret;exact ⟨jx HRT.out.symm,S6.out.bel⟩
  ·have ho':((ord.length:Int) != (n:Int))=true:=by rw [xd];simp [ho]
   have HR:=Lib.hid (show ofB n es ord outs=false by unfold ofB;rw [decide_eq_false ho];simp);clear ho
   go_quiet (fail)
   have S2:=Lib.hid (S1.out.next (Jq nq));generalize w1.drewN nq=w2 at *;go_wp2_with fail;go_ret;exact ⟨jx HR.out.symm,S2.out.bel⟩
 ·have hu':((outs.length:Int) != (n:Int))=true:=by rw [xd];simp [hu]
  have HR:=Lib.hid (show ofB n es ord outs=false by unfold ofB;rw [decide_eq_false hu];simp);clear hu
  go_quiet (fail)
  have S2:=Lib.hid (S1.out.next (Jq nq));generalize w1.drewN nq=w2 at *;go_wp2_with fail;go_ret;exact ⟨jx HR.out.symm,S2.out.bel⟩
end Go.Proofs.YtneeknlhlkpnpaaGreat
