import Derived.Test.YtneeknlhlkpnpaaGreatZRPlain
import Derived.Test.YtneeknlhlkpnpaaGreatZReg
import Derived.Test.YtneeknlhlkpnpaaGreatZPtM
import Derived.Test.YtneeknlhlkpnpaaGreatZVw
import Derived.Test.YtneeknlhlkpnpaaGreatZChks
import Derived.Test.YtneeknlhlkpnpaaGreatZRPl
import Derived.Test.YtneeknlhlkpnpaaGreatZFlat3
import Derived.Test.YtneeknlhlkpnpaaGreatZOuts
import Derived.Test.YtneeknlhlkpnpaaGreatZEul
import Derived.Test.YtneeknlhlkpnpaaGreatZFaceOrb
/-
 Plain law: when a vertex can be placed, as the reference asks it. Written by an AI agent.
-/
namespace Go.Proofs.YtneeknlhlkpnpaaGreat
open Go.RowKit
end Go.Proofs.YtneeknlhlkpnpaaGreat
/-
 A region that draws its order, appends to what was made here, and writes one older block. Written by an AI agent.
-/
namespace Go.Proofs.YtneeknlhlkpnpaaGreat
open Go.RowKit
/-- classes: 0 writes nothing that was there; 1 writes what lies from B on; 2 writes block g, which lies below B -/
structure Far(B g:Nat)(C:List Nat)(w w':World):Prop where
 os:w'.os=w.os
 tape:w'.tape=w.tape
 output:w'.output=w.output
 size:w.heap.size≤w'.heap.size
 low:∀k,k<w.heap.size→k<B→(k≠g∨2∉C)→w'.heap[k]? = w.heap[k]?
 high:∀k,k<w.heap.size→B≤k→1∉C→w'.heap[k]? = w.heap[k]?
section
variable {B g:Nat}{C:List Nat}{w w' w'':World}
theorem Far.refl(B g:Nat)(C:List Nat)(w:World):Far B g C w w:=⟨rfl,rfl,rfl,Nat.le_refl _,fun _ _ _ _=>rfl,fun _ _ _ _=>rfl⟩
theorem Far.trans(h:Far B g C w w')(k:Far B g C w' w''):Far B g C w w'':=
 ⟨k.os.trans h.os,k.tape.trans h.tape,k.output.trans h.output,Nat.le_trans h.size k.size,fun i hi hB hg=>(k.low i (Nat.lt_of_lt_of_le hi h.size) hB hg).trans (h.low i hi hB hg),fun i hi hB hg=>(k.high i (Nat.lt_of_lt_of_le hi h.size) hB hg).trans (h.high i hi hB hg)⟩
theorem Far.mono{C':List Nat}(h:Far B g C w w')(hs:∀k∈C,k∈C'):Far B g C' w w':=
 ⟨h.os,h.tape,h.output,h.size,fun i hi hB hg=>h.low i hi hB (hg.imp id fun h2 hm=>h2 (hs 2 hm)),fun i hi hB hg=>h.high i hi hB fun hm=>hg (hs 1 hm)⟩
/-- nothing that was there is written, but g perhaps -/
theorem Far.but(h:Far B g C w w')(h1:1∉C):But [g] w w':=⟨h.os,h.tape,h.output,h.size,fun k hk hn=>by
 simp only [List.mem_singleton] at hn;rcases Nat.lt_or_ge k B with hB | hB
 ·exact h.low k hk hB (.inl hn)
 ·exact h.high k hk hB h1⟩
theorem Far.below(h:Far B g C w w')(h1:1∉C)(h2:2∉C):Below w.heap.size w w':=⟨h.os,h.tape,h.output,h.size,fun k hk=>by
 rcases Nat.lt_or_ge k B with hB | hB
 ·exact h.low k hk hB (.inr h2)
 ·exact h.high k hk hB h1⟩
theorem Far.belowB(h:Far B g C w w')(h2:2∉C)(hB:B≤w.heap.size):Below B w w':=⟨h.os,h.tape,h.output,h.size,fun k hk=>h.low k (by omega) hk (.inr h2)⟩
theorem Far.of_below0(h:Below w.heap.size w w'):Far B g C w w':=⟨h.os,h.tape,h.output,h.size,fun k hk _ _=>h.block k hk,fun k hk _ _=>h.block k hk⟩
theorem Far.of_belowB(h:Below B w w')(h1:1∈C):Far B g C w w':=⟨h.os,h.tape,h.output,h.size,fun k _ hB _=>h.block k hB,fun _ _ _ hn=>absurd h1 hn⟩
theorem Far.set_(w:World)(hg:g<B)(h2:2∈C)(i:Nat)(u:Value):Far B g C w (w.setCell ⟨g,i,none⟩ u):=
 ⟨rfl,rfl,rfl,by simp [World.setCell],fun k _ _ hs=>Below.heap_setCell _ _ _ _ (fun e=>by rcases hs with h | h;exact h e;exact h h2),fun k _ hB _=>Below.heap_setCell _ _ _ _ (fun e=>by have:k=g:=e;omega)⟩
theorem Far.undrew(h:Far B g C w.drew w'):Far B g C w w':=⟨h.os,h.tape,h.output,h.size,h.low,h.high⟩
end
namespace R6
structure BFact(B g:Nat) where
 bad:List Nat
 F:Value→World→Prop
 st:∀c,bad.contains c=false → ∀v w w',Far B g [c] w w'→F v w→F v w'
def BFact.val{B g:Nat}(u:Value):BFact B g:=⟨[],fun v _=>v=u,fun _ _ _ _ _ _ h=>h⟩
/-- a row made here -/
def BFact.own{B g:Nat}(base:Nat)(t:TypeId)(size n:Nat)(xs:List Value)(hg:g<base):BFact B g:=⟨[1],fun v w=>w.ownsRow base t size v n xs,fun c hc _ _ _ hb h=>vD h (hb.but (by
 intro hm;have:(1:Nat)=c:=by simpa using hm
 subst this
 simp at hc)) (fun k hk=>by simp only [List.mem_singleton] at hk;omega)⟩
/-- block g, its cell i a row made here -/
def BFact.cell{B g:Nat}(base:Nat)(tg:TypeId)(D:Value→Array Value)(t:TypeId)(size n:Nat)(xs:List Value)(hg:g<base):BFact B g:=⟨[1,2],fun _ w=>∃v,Blk w g tg (D v)∧w.ownsRow base t size v n xs,fun c hc _ w w' hb ⟨v,h1,h2⟩=>by
 have h3:1∉[c]:=fun hm=>by
  have:(1:Nat)=c:=by simpa using hm
  subst this;simp at hc
 have h4:2∉[c]:=fun hm=>by
  have:(2:Nat)=c:=by simpa using hm
  subst this;simp at hc
 have hbl:=hb.below h3 h4
 exact ⟨v,h1.below hbl h1.lt,vD h2 (hb.but h3) (fun k hk=>by simp only [List.mem_singleton] at hk;omega)⟩⟩
def bspec{B g:Nat}(p:List Nat×BFact B g):PSpec:=⟨p.1,p.2.bad,fun _ v w=>p.2.F v w⟩
theorem in_{B g:Nat}{C:List Nat}{w w':World}(h:Far B g C w w')(cs:List Nat)(hC:C.all (fun c=>c==0||cs.contains c)=true):Far B g cs w w':=by
 refine ⟨h.os,h.tape,h.output,h.size,fun k hk hB hg=>h.low k hk hB (hg.imp id fun h2 hm=>?_),fun k hk hB hn=>h.high k hk hB fun hm=>?_⟩
 ·have:=List.all_eq_true.1 hC 2 hm;simp at this;exact h2 this
 ·have:=List.all_eq_true.1 hC 1 hm;simp at this;exact hn this
theorem wp_region_b{P:Program}{id:Nat}{l:List Oper}{Q:Exit→Act→World→Prop}{a0:Act}{w:World}(B g:Nat)(cls:List Nat)(Fs:List (List Nat×BFact B g))(fin:List Nat)
  (hm:P.follows .mixedOrders=true)
  (hok:(okP l.toArray cls (Fs.map (fun p=>p.1)) (Fs.map (fun p=>p.2.bad)) fin (Region.before l.toArray)&&fin.all (fun i=>decide (i<l.toArray.size))&&(List.range l.toArray.size).all (fun i=>decide ((Region.before l.toArray).getD i 0<2 ^ l.toArray.size)))=true)
  (hgo:∀us,R3.PGo P l.toArray (fun c=>Far B g [c]) (fun C=>Far B g C) (Region.before l.toArray) cls (Fs.map bspec) w.drew us l 0 a0)
  (hfin:∀us w',Far B g (R3.allC l.toArray.size cls) w.drew w'→vR (Fs.map bspec) us w' fin→Q .normal (Jw us l 0 a0) w'):(Code.region id l.toArray true).wp P Q a0 w:=by
 refine R3.wp_region_p (fun c=>Far B g [c]) (fun C=>Far B g C) cls (Fs.map bspec) fin (Region.before l.toArray) hm (by simpa [List.map_map,Function.comp_def,bspec] using hok) (fun _ a=>Far.refl _ _ _ a) (fun _ _ _ _ h k=>Far.trans h k)
  (fun C c a b hc h=>Far.mono h fun t ht=>by rw [List.mem_singleton.1 ht];exact hc) (fun _ a=>Far.refl _ _ _ a) ?_ ?_ hgo (fun us w' h1 h2=>by rw [Zn];exact hfin us w' h1 h2)
 ·intro s hs c hc us v w w' he hF;obtain ⟨p,hp,rfl⟩:=List.mem_map.1 hs;exact p.2.st c hc v w w' he hF
 ·intro s hs us us' h v w hF;obtain ⟨p,hp,rfl⟩:=List.mem_map.1 hs;exact hF
theorem pgo_pure{P:Program}{ops:Array Oper}{B g:Nat}{W:List Nat→World→World→Prop}{b:Array Nat}{cls:List Nat}{Fs:List PSpec}{w0:World}{us:Nat→Value}{o:Oper}{rest:List Oper}{i:Nat}{a:Act}(s:PSpec)
  (hg:o.guard=none) (hs:Fs[i]? = some s)
  (h:∀(w:World),W (R3.ahead ops.size cls b i) w0 w→vR Fs us w s.uses → ∃v,(execOp a.eval o).run P w = .ok (.value v) w∧s.F us v w)
  (hr:R3.PGo P ops (fun c=>Far B g [c]) W b cls Fs w0 us rest (i+1) (a.put o.dst (us i))):R3.PGo P ops (fun c=>Far B g [c]) W b cls Fs w0 us (o::rest) i a:=
 R3.pgo_val s hg hs (fun w hw hu=>by
  obtain ⟨v,h1,h2⟩:=h w hw hu
  exact ⟨v,w,h1,Far.refl _ _ _ _,h2⟩) hr
end R6
end Go.Proofs.YtneeknlhlkpnpaaGreat
/-
 Plain law: what a plan is, as the reference asks it. Written by an AI agent.
-/
namespace Go.Proofs.YtneeknlhlkpnpaaGreat
open Go.RowKit
/-- what the numbers told so far are: D is told -/
structure OfI(es:List (Int×Int))(D:Nat→Prop)(c:List Int):Prop where
 len:c.length=es.length
 one:∀i,i<es.length→(c.getD i 0=1∧D i)∨(c.getD i 0=0 ∧ ¬D i)
theorem OfI.start(es:List (Int×Int)):OfI es (fun _=>False) (List.replicate es.length 0):=⟨by simp,fun i hi=>.inr ⟨by simp [List.getD_eq_getElem?_getD,hi],id⟩⟩
end Go.Proofs.YtneeknlhlkpnpaaGreat
/-
 The reference's Each and Of. Written by an AI agent.
-/
namespace Go.Proofs.YtneeknlhlkpnpaaGreat
open Go.RowKit
end Go.Proofs.YtneeknlhlkpnpaaGreat
/-
 Plain law: the reference asks of a plan what the program asks; what a run's states hold. Written by an AI agent.
-/
namespace Go.Proofs.YtneeknlhlkpnpaaGreat
open Go.RowKit
theorem aI{l l':List Int}(h:l.Perm l')(hp:l'.Pairwise (· ≤ ·)):l.mergeSort leI=l':=by
 have h1:=List.pairwise_mergeSort (le:=leI) (fun a b c h k=>by unfold leI at *;simp at *;omega) (fun a b=>by unfold leI;simp;omega) l;refine List.Perm.eq_of_pairwise (le:=(· ≤ ·)) (fun a b _ _ h k=>Int.le_antisymm h k) (h1.imp fun h=>by unfold leI at h;simpa using h) hp ((List.mergeSort_perm l leI).trans h)
theorem eW(n:Nat):(upI n).Pairwise (· ≤ ·):=by
 unfold upI;rw [List.pairwise_map];exact List.pairwise_lt_range.imp fun h=>by omega
theorem Qa(es:List (Int×Int))(f:Int×Int→Int)(x:Int):∀k,(jK es f x k).Pairwise (· ≤ ·)
 | 0=>List.Pairwise.nil
 | k+1=>by
  show (jK es f x k++_).Pairwise (· ≤ ·)
  rw [List.pairwise_append];refine ⟨Qa es f x k,by split<;>simp,fun a ha b hb=>?_⟩;obtain ⟨i,rfl,h2,_⟩:=qs.1 ha
  split at hb
  ·rw [List.mem_singleton.1 hb];omega
  ·cases hb
end Go.Proofs.YtneeknlhlkpnpaaGreat
/-
 arborlaw10.Great: a graph, and a plan, that are not looked at. Written by an AI agent.
-/
namespace Go.Proofs.YtneeknlhlkpnpaaGreat
open Go.RowKit
def cW(es:List (Int×Int))(ord:List Int)(outs:List (List Int))(w:World)(e:Ending)(w':World):Prop:=∃b,e = .returned (.bool b)∧Below w.heap.size w w'∧(b=false→es.length≤200∧ord.length≤100∧outs.length≤100 ∧ ∀l∈outs,l.length≤200)
set_option maxRecDepth 20000 in
set_option maxHeartbeats 2000000 in
theorem cD(n:Int)(A O U:Option Addr)(cap co cu:Nat)(es:List (Int×Int))(ord:List Int)(outs:List (List Int))(w:World)(hU:qz w w.heap.size U outs) :
  Calls Tryz.prog 8 #[.agg #[.int .i64 n,.slice A es.length cap],.agg #[.slice O ord.length co,.slice U outs.length cu]] w (cW es ord outs w):=by
 have hbw:=((Below.refl w.heap.size w).alloc (Nat.le_refl _) (.cells #[.int .i64 n,.slice A es.length cap] 24)).alloc (by simp) (.cells #[.slice O ord.length co,.slice U outs.length cu] 28)
 go_enter Tryz.func8,Tryz.ntmps8
 by_cases h1:200<es.length
 ·have h1':(200:Int)<es.length:=by omega
  go_wp2_with fail;go_ret;exact ⟨true,rfl,hbw,fun h=>by cases h⟩
 have h1':¬(200:Int)<es.length:=by omega
 by_cases h2:100<ord.length
 ·have h2':(100:Int)<ord.length:=by omega
  go_wp2_with fail;go_ret;exact ⟨true,rfl,hbw,fun h=>by cases h⟩
 have h2':¬(100:Int)<ord.length:=by omega
 by_cases h3:100<outs.length
 ·have h3':(100:Int)<outs.length:=by omega
  go_wp2_with fail;go_ret;exact ⟨true,rfl,hbw,fun h=>by cases h⟩
 have h3':¬(100:Int)<outs.length:=by omega
 have hrs1:=hU.below hbw;go_wp2_with fail;generalize (w.alloc (.cells #[.int .i64 n,.slice A es.length cap] 24)).alloc (.cells #[.slice O ord.length co,.slice U outs.length cu] 28)=w1 at *
 go_loopg [26] outs.length (fun k s26 wr=>∃i:Nat,s26 = .int .i64 i∧i≤outs.length∧k=outs.length-i∧wr=w1 ∧ ∀j (hj:j<outs.length),j<i→outs[j].length≤200)
 case atStart=>exact ⟨0,rfl,Nat.zero_le _,rfl,rfl,fun j _ hj=>absurd hj (by omega)⟩
 case round=>
  obtain ⟨i,rfl,hi,hk,hwr,hs⟩:=hrel;have Hk:=Lib.hid hk;clear hk;have Hs:=Lib.hid hs;clear hs;by_cases hlt:i<outs.length
  ·have hlt':(i:Int)<outs.length:=by omega
   obtain ⟨b,off,rfl,hbb,hc⟩:=hrs1 (by omega);obtain ⟨Ai,ci,e0,_⟩:=hc i hlt;have e0:wr.cell? ⟨b,off+i,none⟩=some (.slice Ai outs[i].length ci):=by rw [hwr];exact e0
   have HB:=Lib.hid (show Below w.heap.size w wr by rw [hwr];exact hbw)
   have HH:=Lib.hid (fun (h:outs[i].length≤200)=>(fun j (hj:j<outs.length) (hji:j<i+1)=>(by
    by_cases h0:j=i
    ·subst h0;exact h
    ·exact Hs.out j hj (by omega):outs[j].length≤200)))
   have Hwr:=Lib.hid hwr;clear hc hwr;generalize outs[i]=l at *;by_cases hl:200<l.length
   ·go_wp2_with fail;go_ret;exact ⟨true,rfl,HB.out,fun h=>by cases h⟩
   ·have H2:=Lib.hid (HH.out (by omega));go_wp2_with fail
    go_roundg (outs.length-(i+1))
    case measure=>rw [Hk.out];omega
    case rel=>exact ⟨i+1,by go_num,by omega,rfl,Hwr.out,H2.out⟩
  ·have HB:=Lib.hid (show Below w.heap.size w wr by rw [hwr];exact hbw)
   have HR:=Lib.hid (show ∀l∈outs,l.length≤200 from fun l hl=>by
    obtain ⟨j,hj,rfl⟩:=List.mem_iff_getElem.1 hl
    exact Hs.out j hj (by omega))
   clear hwr;go_wp2_with fail;go_ret;exact ⟨false,rfl,HB.out,fun _=>⟨by omega,by omega,by omega,HR.out⟩⟩
end Go.Proofs.YtneeknlhlkpnpaaGreat
/-
 Plain law: placing ready vertices one by one ends as any plan with the same edges does. Written by an AI agent.
-/
namespace Go.Proofs.YtneeknlhlkpnpaaGreat
open Go.RowKit
section
variable {N:Nat}{es:List (Int×Int)}{outs:List (List Int)}{s:Nat}{ord:List Int}{en:List (List Itm)}{l:List Nat}{rF:List Itm}
/-- what a vertex cuts shows that it is ready -/
theorem CutR.ready{r:List Itm}{pl:List Int}{x:Nat}{A E B:List Itm}(hx:(x:Int)∉pl)(h:CutR es r x A E B):yY es r pl x=true:=
 (xN hx h.row h.out h.ine h.cnt h.nil h.ends).1
theorem Walk.follow(hO:vS N es outs)(hs:∀y,y<N→inD es y=0→y=s){l:List Nat}{st st2:JV}(hw:Walk es outs st l st2) :
  ∀ {fin:JV} {rest:List Nat},Walk es outs st rest fin→rest.Nodup→(∀x∈rest,x<N)→(∀x∈l,x<N)→(∀x,x<N→x∈rest∨(x:Int)∈st.2.1)→gm s st→SwI N es outs st.1 st.2.1 st.2.2 →
  ∃rest' pl',rest.Perm (l++rest')∧Walk es outs st2 rest' (fin.1,pl',fin.2.2):=by
 induction hw with
 | nil st=>
  intro fin rest h _ _ _ _ _ _;exact ⟨rest,fin.2.1,List.Perm.refl _,h⟩
 | @cons r pl en x A E B l st2 hp hc hw ih=>
  intro fin rest h hn hr hl hall hS hI;have hx:=hl x (List.mem_cons_self ..);have hxr:x∈rest:=(hall x hx).resolve_right hp;obtain ⟨rest1,pl1,p1,w1⟩:=h.any hO hs hn hr hS hI hxr hp hc;obtain ⟨hS',_⟩:=hS.step (outs:=outs) hs hx hp hc;have hI':=hI.step hx hp hc;have hn1:(x::rest1).Nodup:=p1.nodup_iff.1 hn
  obtain ⟨rest2,pl2,p2,w2⟩:=ih w1 (List.nodup_cons.1 hn1).2 (fun y hy=>hr y (p1.mem_iff.2 (List.mem_cons_of_mem _ hy))) (fun y hy=>hl y (List.mem_cons_of_mem _ hy)) (fun y hy=>by
   rcases hall y hy with h1 | h1
   ·rcases List.mem_cons.1 (p1.mem_iff.1 h1) with rfl | h2
    ·exact .inr (by simp)
    ·exact .inl h2
   ·exact .inr (List.mem_append_left _ h1)) hS' hI'
  exact ⟨rest2,pl2,p1.trans (p2.cons x),w2⟩
/-- ready vertices are placed until none is ready: this is a plan, where there is any with these edges, and all ends as in that one -/
theorem PlanR.greedy(hP:PlanR N es ord outs en l rF s){l2:List Nat}{r2:List Itm}{en2:List (List Itm)}(hw:Walk es outs ([],[],List.replicate N []) l2 (r2,yH l2,en2))(hl:∀x∈l2,x<N)(hno:∀x,x<N→yY es r2 (yH l2) x=false) :
  PlanR N es (yH l2) outs en l2 rF s:=by
 obtain ⟨rest',pl',p,w⟩:=hw.follow hP.outp hP.src hP.walk (hP.perm.nodup_iff.2 List.nodup_range) hP.lt hl (fun x hx=>.inl (hP.perm.mem_iff.2 (List.mem_range.2 hx))) (.inl ⟨rfl,rfl⟩) SwI.start
 have hr:rest'=[]:=by
  cases rest' with
  | nil=>rfl
  | cons y t=>
   cases w with
   | cons hp hc _=>
    have hy:y<N:=hP.lt y (p.mem_iff.2 (by simp));have:=hno y hy;rw [hc.ready hp] at this
    cases this
 subst hr;rw [List.append_nil] at p
 have e:(r2,yH l2,en2)=(rF,pl',en):=by
  generalize hq:(r2,yH l2,en2)=q at w;generalize hq':(rF,pl',en)=q' at w
  cases w with
  | nil=>rfl
 have e1:r2=rF:=congrArg Prod.fst e;have e2:en2=en:=congrArg (fun q:JV=>q.2.2) e;subst e1 e2;exact ⟨hP.good,rfl,p.symm.trans hP.perm,hP.outp,hP.outl,hw,hP.sN,hP.src,hP.sin⟩
theorem lZ{l:List Nat}(h:l.Perm (List.range N)):(yH l).mergeSort leI=upI N:=aI (h.map _) (eW N)
theorem PlanR.of(h:PlanR N es ord outs en l rF s):ofB N es ord outs=true:=by
 refine VD.2 ⟨h.outl,?_,?_,fun x hx=>aI (h.outp x hx) (Qa _ _ _ _)⟩
 ·rw [h.onat];unfold yH;rw [List.length_map,h.perm.length_eq,List.length_range]
 ·rw [h.onat];exact lZ h.perm
theorem PlanR.run(h:PlanR N es ord outs en l rF s):Qx N es ord outs=some en:=by
 unfold Qx;rw [if_pos h.of];unfold VR;have hw:=(Yr _ _).2 h.walk;rw [←h.onat] at hw;rw [hw];rfl
end
end Go.Proofs.YtneeknlhlkpnpaaGreat
/-
 (*front.Front).Ready, Placed, Done: what they compute. Written by an AI agent.
-/
namespace Go.Proofs.YtneeknlhlkpnpaaGreat
open Go.RowKit
/-- the ready vertices below i -/
def Yo(es:List (Int×Int))(r:List Itm)(pl:List Int)(i:Nat):List Int:=((List.range i).filter (yY es r pl)).map fun x:Nat=>(x:Int)
theorem lI(es:List (Int×Int))(r:List Itm)(pl:List Int)(i:Nat):Yo es r pl (i+1)=Yo es r pl i++if yY es r pl i=true then [(i:Int)] else []:=by
 unfold Yo;rw [List.range_succ,List.filter_append,List.map_append];congr 1;by_cases h:yY es r pl i=true
 ·rw [if_pos h];simp [h]
 ·rw [if_neg h];simp [h]
theorem ri(es:List (Int×Int))(r:List Itm)(pl:List Int)(i:Nat):(Yo es r pl i).length≤i:=by
 unfold Yo;rw [List.length_map];exact Nat.le_trans (List.length_filter_le _ _) (by simp)
set_option maxRecDepth 20000 in
set_option maxHeartbeats 4000000 in
theorem fj(w0 w:World)(g gv n:Nat)(es:List (Int×Int))(r:List Itm)(pl:List Int)(h:FrontW w0 w g gv n es r pl)(hn:n≤1000)(hl:es.length≤1000)(hr:r.length≤50000)(hp:pl.length≤1000) :
  Calls Tryz.prog 13 #[.pointer (some ⟨g,0,none⟩)] w (fun e w'=>∃v,e = .returned v∧Below w.heap.size w w'∧w'.ownsRow w.heap.size 3 1 v (Yo es r pl n).length (jf (Yo es r pl n))):=by
 have H:=Lib.hid h;obtain ⟨vi,vp,hb,_,_⟩:=h.st;have z1:=hb.cell 1;simp only [List.getElem?_toArray,List.getElem?_cons_zero,List.getElem?_cons_succ] at z1;obtain ⟨_,_,_,_,hv1,_,_⟩:=h.view.tabs;have y0:=hv1.cell 0;simp only [List.getElem?_toArray,List.getElem?_cons_zero] at y0;clear h hb hv1
 go_enter Tryz.func13,Tryz.ntmps13
 go_wp2_with fail
 go_loopg [2,12] n (fun k s2 s12 wr=>∃i:Nat,s12 = .int .i64 i∧i≤n∧k=n-i∧Below w.heap.size w wr∧wr.ownsRow w.heap.size 3 1 s2 (Yo es r pl i).length (jf (Yo es r pl i)))
 case atStart=>exact ⟨0,rfl,Nat.zero_le _,rfl,Below.refl _ _,World.ownsRow_nil _ _ _ _⟩
 case round=>
  obtain ⟨i,rfl,hi,hk,hb,ho⟩:=hrel;have Hk:=Lib.hid hk;have HB:=Lib.hid hb;have HO:=Lib.hid ho;have hsw:=hb.size;have HFW:=Lib.hid (H.out.next hb);clear hk hb ho;by_cases hlt:i<n
  ·have hlt':(i:Int)<n:=by omega
   have HS:=Lib.hid (lI es r pl i);have HLE:=Lib.hid (ri es r pl i);have HRD:=Lib.hid (Xe w0 wr g gv n es r pl i HFW.out hlt hl hr hp)
   cases hrd:yY es r pl i with
   | false=>
    rw [hrd] at HRD HS;simp only [Bool.false_eq_true,if_false,List.append_nil] at HS;clear hrd;go_wp2_with fail;refine HRD.out.mono ?_;rintro e w2 ⟨rfl,hb2⟩;have HB2:=Lib.hid (HB.out.trans (hb2.mono hsw));have HO2:=Lib.hid (qP HO.out hb2 (Nat.le_refl _));rw [←HS.out] at HO2;clear hb2;go_wp2_with fail
    go_roundg (n-(i+1))
    case measure=>rw [Hk.out];omega
    case rel=>exact ⟨i+1,by go_num,by omega,rfl,HB2.out,HO2.out⟩
   | true=>
    rw [hrd,if_pos rfl] at HS;rw [hrd] at HRD;clear hrd;go_wp2_with fail;refine HRD.out.mono ?_;rintro e w2 ⟨rfl,hb2⟩;have HB2:=Lib.hid (HB.out.trans (hb2.mono hsw));have ho2:=qP HO.out hb2 (Nat.le_refl _);have hsw2:w.heap.size≤w2.heap.size:=HB2.out.size;have HLE:=HLE.out;clear hb2;go_wp2_with (at_builtin;refine yX qY rfl _ _ rfl w.heap.size u2 _ _ rfl w2.heap.size [.int .i64 i] rfl rfl ho2 rfl rfl ?h7 ?h8 ?h9 ?_)
    case h7=>omega
    case h8=>omega
    try (case h9=>omega)
    intro v' w' hown' hg' _;have hb':=qJ HB2.out ho2 hg' hsw2 (Nat.le_refl _)
    have ho':w'.ownsRow w.heap.size 3 1 v' (Yo es r pl (i+1)).length (jf (Yo es r pl (i+1))):=by
     rw [HS.out,List.length_append,vc];exact hown'
    have HX:=Lib.hid (And.intro hb' ho');clear hb' ho' ho2 hown' hg';go_wp2_with fail
    go_roundg (n-(i+1))
    case measure=>rw [Hk.out];omega
    case rel=>exact ⟨i+1,by go_num,by omega,rfl,HX.out.1,HX.out.2⟩
  ·have hie:i=n:=by omega
   have hlt':¬(i:Int)<n:=by omega
   have HF:=Lib.hid (show wr.ownsRow w.heap.size 3 1 u2 (Yo es r pl n).length (jf (Yo es r pl n)) by rw [←hie];exact HO.out);clear hie;go_wp2_with fail;go_ret;exact ⟨_,rfl,HB.out,HF.out⟩
set_option maxRecDepth 20000 in
theorem fw(w0 w:World)(g gv n:Nat)(es:List (Int×Int))(r:List Itm)(pl:List Int)(h:FrontW w0 w g gv n es r pl)(hp:pl.length≤1000) :
  Calls Tryz.prog 15 #[.pointer (some ⟨g,0,none⟩)] w (fun e w'=>∃v,e = .returned v∧Below w.heap.size w w'∧w'.ownsRow w.heap.size 3 1 v pl.length (jf pl)):=by
 obtain ⟨vi,vp,hb,_,hpl⟩:=h.st;obtain ⟨Ap,cp,rfl⟩:=jA hpl;have z2:=hb.cell 2;simp only [List.getElem?_toArray,List.getElem?_cons_zero,List.getElem?_cons_succ] at z2;have HC:=Lib.hid (XB Ap cp pl w (jr.of_own hpl) hp);clear h hb hpl
 go_enter Tryz.func15,Tryz.ntmps15
 go_wp2_with fail;refine HC.out.mono ?_;rintro e w2 ⟨v,rfl,hb2,ho2⟩;have HX:=Lib.hid (And.intro hb2 ho2);clear hb2 ho2;go_wp2_with fail;go_ret;exact ⟨_,rfl,HX.out.1,HX.out.2⟩
end Go.Proofs.YtneeknlhlkpnpaaGreat
/-
 rise.order: what it computes. Written by an AI agent.
-/
namespace Go.Proofs.YtneeknlhlkpnpaaGreat
open Go.RowKit
theorem cz(l:List Nat):(yH l).length=l.length:=by unfold yH;rw [List.length_map]
theorem WK{es:List (Int×Int)}{outs:List (List Int)}:∀ {l:List Nat} {st:JV} {r:List Itm} {pl:List Int} {en:List (List Itm)},Walk es outs st l (r,pl,en) → ∀ {x:Nat} {A E B:List Itm},(x:Int)∉pl→CutR es r x A E B→Walk es outs st (l++[x]) (A++yA es outs x++B,pl++[(x:Int)],en.set x E):=by
 intro l st r pl en h;generalize hf:(r,pl,en)=fin at h
 induction h with
 | nil st=>
  intro x A E B hp hc;subst hf;exact Walk.cons hp hc (Walk.nil _)
 | cons hp hc _ ih=>
  intro x A E B hp' hc';exact Walk.cons hp hc (ih hf hp' hc')
theorem gS{N:Nat}{es:List (Int×Int)}{outs:List (List Int)}{l:List Nat}{r:List Itm}{pl:List Int}{en:List (List Itm)}(h:Walk es outs ([],[],List.replicate N []) l (r,pl,en))(hl:∀x∈l,x<N):l.length≤N:=by
 have hi:=h.inv hl SwI.start;have hp:=h.placed;simp only [List.nil_append] at hp;have hn:=hi.nd;simp only [hp] at hn
 have h1:l.Nodup:=by
  unfold yH at hn;rw [List.nodup_iff_pairwise_ne,List.pairwise_map] at hn;exact List.nodup_iff_pairwise_ne.2 (hn.imp fun h e=>h (by rw [e]))
 have:=List.Nodup.length_le_of_subset h1 (l₂ :=List.range N) (fun a ha=>List.mem_range.2 (hl a ha));simpa using this
theorem lJ{es:List (Int×Int)}{r:List Itm}{pl:List Int}{n:Nat}{x:Int}{t:List Int}(h:Yo es r pl n=x::t):∃y:Nat,x=y∧y<n∧yY es r pl y=true:=by
 have:x∈Yo es r pl n:=by rw [h];simp
 unfold Yo at this;obtain ⟨y,hy,rfl⟩:=List.mem_map.1 this;obtain ⟨h1,h2⟩:=List.mem_filter.1 hy;exact ⟨y,rfl,List.mem_range.1 h1,h2⟩
theorem nB{es:List (Int×Int)}{r:List Itm}{pl:List Int}{n:Nat}(h:Yo es r pl n=[]):∀x,x<n→yY es r pl x=false:=fun x hx=>by
 unfold Yo at h;have h:=List.map_eq_nil_iff.1 h
 cases hq:yY es r pl x with
 | false=>rfl
 | true=>exact absurd hq (List.filter_eq_nil_iff.1 h x (List.mem_range.2 hx))
end Go.Proofs.YtneeknlhlkpnpaaGreat
/-
 The parts' numbers, summed up (plain law). Written by an AI agent.
-/
namespace Go.Proofs.YtneeknlhlkpnpaaGreat
open Go.RowKit
def aQ(es:List (Int×Int))(x:Int):Bool:=decide (0<(jK es Prod.fst x es.length).length)
section
variable {n:Int}{es:List (Int×Int)}{rs:List (List Int)}
theorem mx{N:Nat}(hin:InN N es){x:Nat}:aQ es (x:Int)=true↔qe es x:=by
 unfold aQ;rw [decide_eq_true_eq];constructor
 ·intro h;obtain ⟨a,ha⟩:=List.exists_mem_of_length_pos h;obtain ⟨i,rfl,hi,he⟩:=qs.1 ha;have hv:=zx hin hi;exact ⟨2*i,by omega,by omega,by simp [ev]⟩
 ·rintro ⟨k,hk,hv,hev⟩;have h2:k%2=0:=by simpa [ev] using hev
  have hi:k/2<es.length:=by omega
  have hv2:=zx hin hi;rw [show 2*(k/2)=k by omega,hv] at hv2;exact List.length_pos_of_mem (a:=((k/2:Nat):Int)) (qs.2 ⟨k/2,rfl,hi,hv2.symm⟩)
theorem UM{x:Nat}(ha:xp n es rs=true):(∃q∈(yl n es rs).filter hiQ,q.2.1=x)↔VG es rs x:=by
 unfold yl;rw [if_pos ha];constructor
 ·rintro ⟨q,hq,hv⟩;obtain ⟨h1,h2⟩:=List.mem_filter.1 hq;obtain ⟨h,hh,rfl⟩:=List.mem_map.1 h1;exact ⟨h,List.mem_range.1 hh,hv,of_decide_eq_true h2⟩
 ·rintro ⟨h,hh,hv,hk⟩;exact ⟨QL n es rs h,List.mem_filter.2 ⟨List.mem_map.2 ⟨h,List.mem_range.2 hh,rfl⟩,decide_eq_true hk⟩,hv⟩
theorem gR{x:Nat}(hf:zn n es rs=true):roR n es rs ((jo n es rs).length+x)<(jo n es rs).length↔VG es rs x:=by
 have ha:=zN hf;rw [←UM ha];constructor
 ·intro h;by_cases hn:∀q∈(yl n es rs).filter hiQ,q.2.1≠x
  ·have:=UG hn (zz ha);unfold roR at h;omega
  ·obtain ⟨q,hq⟩:=Classical.not_forall.1 hn;obtain ⟨h1,h2⟩:=Classical.not_imp.1 hq;exact ⟨q,h1,Classical.not_not.1 h2⟩
 ·rintro ⟨q,hq,rfl⟩;exact nw (zz ha) hq
end
end Go.Proofs.YtneeknlhlkpnpaaGreat
/-
 Euler's inequality for any permutation and the pairs of half edges (plain law). Written by an AI agent.
-/
namespace Go.Proofs.YtneeknlhlkpnpaaGreat
open Go.RowKit
/-- s, where the first k pairs are changed beforehand -/
def ppk(s:Nat→Nat):Nat→Nat→Nat
 | 0=>s
 | k+1=>fun z=>ppk s k (swp (2*k) (2*k+1) z)
/-- what hangs together by s and the first k pairs -/
def ppR(s:Nat→Nat):Nat→Nat→Nat→Prop
 | 0=>Orb s
 | k+1=>xx (ppR s k) (2*k) (2*k+1)
theorem md{N:Nat}{R:Nat→Nat→Prop}(hR:Equ N R){a b:Nat}(ha:a<N)(hb:b<N):Equ N (xx R a b):=by
 refine ⟨fun x hx=>.inl (hR.refl x hx),fun x y hx hy h=>?_,fun x y z hx hy hz h k=>?_⟩
 ·rcases h with h | ⟨h1,h2⟩ | ⟨h1,h2⟩
  ·exact .inl (hR.symm _ _ hx hy h)
  ·exact .inr (.inr ⟨hR.symm _ _ hb hy h2,hR.symm _ _ hx ha h1⟩)
  ·exact .inr (.inl ⟨hR.symm _ _ ha hy h2,hR.symm _ _ hx hb h1⟩)
 ·rcases h with h | ⟨h1,h2⟩ | ⟨h1,h2⟩
  ·rcases k with k | ⟨k1,k2⟩ | ⟨k1,k2⟩
   ·exact .inl (hR.trans _ _ _ hx hy hz h k)
   ·exact .inr (.inl ⟨hR.trans _ _ _ hx hy ha h k1,k2⟩)
   ·exact .inr (.inr ⟨hR.trans _ _ _ hx hy hb h k1,k2⟩)
  ·rcases k with k | ⟨k1,k2⟩ | ⟨k1,k2⟩
   ·exact .inr (.inl ⟨h1,hR.trans _ _ _ hb hy hz h2 k⟩)
   ·exact .inr (.inl ⟨h1,k2⟩)
   ·exact .inl (hR.trans _ _ _ hx ha hz h1 k2)
  ·rcases k with k | ⟨k1,k2⟩ | ⟨k1,k2⟩
   ·exact .inr (.inr ⟨h1,hR.trans _ _ _ ha hy hz h2 k⟩)
   ·exact .inl (hR.trans _ _ _ hx hb hz h1 k2)
   ·exact .inr (.inr ⟨h1,k2⟩)
section
variable {s:Nat→Nat}{m:Nat}
theorem xC(hs:Perm (2*m) s):∀k,k≤m→Perm (2*m) (ppk s k)
 | 0,_=>hs
 | k+1,hk=>(xC hs k (by omega)).swp (by omega) (by omega)
theorem kD(hs:Perm (2*m) s):∀k,k≤m→Equ (2*m) (ppR s k)
 | 0,_=>hs.equ
 | k+1,hk=>md (kD hs k (by omega)) (by omega) (by omega)
theorem sq(hs:Perm (2*m) s):∀k,k≤m → ∀x y,x<2*m→y<2*m→Orb (ppk s k) x y→ppR s k x y
 | 0,_,_,_,_,_,o=>o
 | k+1,hk,x,y,hx,hy,o=>by
  have ih:=sq hs k (by omega);have hP:=xC hs k (by omega);have hE:=kD hs k (by omega);have h2a:2*k<2*m:=by omega
  have h2b:2*k+1<2*m:=by omega
  by_cases ho:Orb (ppk s k) (2*k) (2*k+1)
  · -- a part of it
   have hstep:∀z,z<2*m→Orb (ppk s k) z (ppk s k (swp (2*k) (2*k+1) z)):=fun z hz=>by
    have h1:Orb (ppk s k) z (swp (2*k) (2*k+1) z):=by
     unfold swp
     split
     ·rename_i e;rw [e];exact ho
     ·split
      ·rename_i e;rw [e];exact ho.symm hP h2a
      ·exact Orb.refl _ _
    exact h1.trans (Orb.step _ _)
   obtain ⟨i,hi⟩:=o
   have:∀(i z:Nat),z<2*m→Orb (ppk s k) z (qL (ppk s (k+1)) i z):=by
    intro i
    induction i with
    | zero=>intro z _;exact Orb.refl _ _
    | succ i ihi=>
     intro z hz;have h1:=hstep z hz;exact h1.trans (ihi _ ((xC hs (k+1) hk).lt z hz))
   have h2:=this i x hx;rw [hi] at h2;exact .inl (ih x y hx hy h2)
  ·have h1:=(Xm hP h2a h2b ho hx hy).1 o;rcases h1 with h | ⟨h1,h2⟩ | ⟨h1,h2⟩
   ·exact .inl (ih _ _ hx hy h)
   ·exact .inr (.inl ⟨ih _ _ hx h2a h1,ih _ _ h2b hy h2⟩)
   ·exact .inr (.inr ⟨ih _ _ hx h2b h1,ih _ _ h2a hy h2⟩)
theorem UY(hs:Perm (2*m) s):∀k,k≤m → ∃g:Nat,2*cls (ppR s k) (2*m)+k=cls (Orb s) (2*m)+cls (Orb (ppk s k)) (2*m)+2*g
 | 0,_=>⟨0,by show 2*cls (Orb s) (2*m)+0=cls (Orb s) (2*m)+cls (Orb s) (2*m)+2*0;omega⟩
 | k+1,hk=>by
  obtain ⟨g,hg⟩:=UY hs k (by omega);have hP:=xC hs k (by omega);have hE:=kD hs k (by omega);have h2a:2*k<2*m:=by omega
  have h2b:2*k+1<2*m:=by omega
  show ∃g,2*cls (xx (ppR s k) (2*k) (2*k+1)) (2*m)+(k+1)=cls (Orb s) (2*m)+cls (Orb fun z=>ppk s k (swp (2*k) (2*k+1) z)) (2*m)+2*g
  by_cases ho:Orb (ppk s k) (2*k) (2*k+1)
  ·have e1:=Qm hP h2a h2b (by omega) ho;have e2:=Yk hE h2a h2b (sq hs k (by omega) _ _ h2a h2b ho);exact ⟨g,by omega⟩
  ·have e1:=XA hP h2a h2b ho;by_cases hq:ppR s k (2*k) (2*k+1)
   ·have e2:=Yk hE h2a h2b hq;exact ⟨g+1,by omega⟩
   ·have e2:=JJ hE h2a h2b hq;exact ⟨g,by omega⟩
/-- all pairs changed: s behind the other half -/
theorem aL:∀k x,ppk s k x=s (if x<2*k then ot x else x)
 | 0,x=>by rw [if_neg (by omega)];rfl
 | k+1,x=>by
  show ppk s k (swp (2*k) (2*k+1) x)=_
  rw [aL k];congr 1;unfold swp ot;by_cases h1:x=2*k
  ·subst h1;rw [if_pos rfl,if_neg (by omega),if_pos (by omega),if_pos (by omega)]
  ·rw [if_neg h1];by_cases h2:x=2*k+1
   ·subst h2;rw [if_pos rfl,if_neg (by omega),if_pos (by omega),if_neg (by omega)];omega
   ·rw [if_neg h2];by_cases h3:x<2*k
    ·have h4:x<2*(k+1):=by omega
     simp only [h3,h4,if_true]
    ·have h4:¬x<2*(k+1):=by omega
     simp only [h3,h4,if_false]
end
end Go.Proofs.YtneeknlhlkpnpaaGreat
/-
 A part of the web whose vertices are sinks alone is a tree (plain law). Written by an AI agent.
-/
namespace Go.Proofs.YtneeknlhlkpnpaaGreat
open Go.RowKit
section
variable {n:Int}{es:List (Int×Int)}{rs:List (List Int)}
/-- the half edges at vertices of X are let alone -/
noncomputable def kl(es:List (Int×Int))(rs:List (List Int))(X:Nat→Prop)(h:Nat):Nat:=if tst (X (vtx es h))=true then h else sig es rs h
theorem VH{X:Nat→Prop}{h:Nat}(hx:X (vtx es h)):kl es rs X h=h:=by unfold kl;rw [if_pos (jt.2 hx)]
theorem Yj{X:Nat→Prop}{h:Nat}(hx:¬X (vtx es h)):kl es rs X h=sig es rs h:=by unfold kl;rw [if_neg (by rw [jt];exact hx)]
theorem Yi(hR:RightP n es rs)(X:Nat→Prop){h:Nat}(hh:h<2*es.length):kl es rs X h<2*es.length∧vtx es (kl es rs X h)=vtx es h:=by
 by_cases hx:X (vtx es h)
 ·rw [VH hx];exact ⟨hh,rfl⟩
 ·rw [Yj hx];exact qS hR hh
theorem Yz(hR:RightP n es rs)(X:Nat→Prop):Perm (2*es.length) (kl es rs X):=by
 refine ⟨fun h hh=>(Yi hR X hh).1,fun a b ha hb e=>?_⟩;have hv:vtx es a=vtx es b:=by rw [←(Yi hR X ha).2,←(Yi hR X hb).2,e]
 by_cases hx:X (vtx es a)
 ·rw [VH hx,VH (hv▸hx)] at e;exact e
 ·rw [Yj hx,Yj (hv▸hx)] at e;exact (uI hR).inj a b ha hb e
theorem cO(X:Nat→Prop){a b:Nat}(hx:X (vtx es a))(o:Orb (kl es rs X) a b):b=a:=by
 obtain ⟨i,rfl⟩:=o
 induction i with
 | zero=>rfl
 | succ i ih=>
  show qL (kl es rs X) i (kl es rs X a)=a
  rw [VH hx];exact ih
theorem Qb(hR:RightP n es rs)(X:Nat→Prop):∀(i a:Nat),a<2*es.length → ¬X (vtx es a)→qL (kl es rs X) i a=qL (sig es rs) i a
 | 0,_,_,_=>rfl
 | i+1,a,ha,hx=>by
  show qL (kl es rs X) i (kl es rs X a)=qL (sig es rs) i (sig es rs a)
  rw [Yj hx];have:=qS hR ha;exact Qb hR X i _ this.1 (by rw [this.2];exact hx)
/-- orbits behind the cut: as many more as half edges at X, less the vertices of X -/
theorem oI(hR:RightP n es rs)(hin:InN rs.length es)(ht:∀x,x<rs.length → ∃h,h<2*es.length∧vtx es h=x)(X:Nat→Prop) :
  cls (Orb (kl es rs X)) (2*es.length)+(List.range rs.length).countP (fun x=>tst (X x))=cls (Orb (sig es rs)) (2*es.length)+(List.range (2*es.length)).countP (fun h=>tst (X (vtx es h))):=by
 have e1:cls (Orb (kl es rs X)) (2*es.length)=(List.range (2*es.length)).countP (fun h=>tst (∀k,k<h→vtx es k≠vtx es h) && !tst (X (vtx es h)))+(List.range (2*es.length)).countP (fun h=>tst (X (vtx es h))):=by
  unfold cls;rw [qy _ (fun h=>tst (∀k,k<h → ¬Orb (kl es rs X) k h)) (fun h=>tst (X (vtx es h))),Nat.add_comm];congr 1
  ·refine jP fun h hh=>?_;by_cases hx:X (vtx es h)
   ·rw [jt.2 hx];simp
   ·rw [kC.2 hx];simp only [Bool.not_false,Bool.and_true];rw [Bool.eq_iff_iff,jt,jt];constructor
    ·intro H k hk e;refine H k hk ?_;have hkl:k<2*es.length:=by omega
     obtain ⟨i,hi⟩:=(kE hR hkl hh).2 e;exact ⟨i,by rw [Qb hR X i k hkl (by rw [e];exact hx)];exact hi⟩
    ·rintro H k hk ⟨i,hi⟩;have hkl:k<2*es.length:=by omega
     refine H k hk ?_
     have:∀(i a:Nat),a<2*es.length→vtx es (qL (kl es rs X) i a)=vtx es a:=by
      intro i
      induction i with
      | zero=>intro a _;rfl
      | succ i ih=>
       intro a ha
       show vtx es (qL (kl es rs X) i (kl es rs X a))=vtx es a
       rw [ih _ (Yi hR X ha).1,(Yi hR X ha).2]
     rw [←this i k hkl,hi]
  ·refine jP fun h hh=>?_;by_cases hx:X (vtx es h)
   ·rw [jt.2 hx,Bool.and_true,jt];intro k hk o;have hkl:k<2*es.length:=by omega
    have:=cO X (a:=h) hx (o.symm (Yz hR X) hkl);omega
   ·rw [kC.2 hx];simp
 have e2:cls (Orb (sig es rs)) (2*es.length)=(List.range (2*es.length)).countP (fun h=>tst (∀k,k<h→vtx es k≠vtx es h) && !tst (X (vtx es h)))+(List.range (2*es.length)).countP (fun h=>tst (∀k,k<h→vtx es k≠vtx es h)&&tst (X (vtx es h))):=by
  unfold cls
  have:((List.range (2*es.length)).countP fun h=>tst (∀k,k<h → ¬Orb (sig es rs) k h))=(List.range (2*es.length)).countP fun h=>tst (∀k,k<h→vtx es k≠vtx es h):=jP fun h hh=>by
   rw [Bool.eq_iff_iff,jt,jt];exact ⟨fun H k hk e=>H k hk ((kE hR (by omega) hh).2 e),fun H k hk o=>H k hk ((kE hR (by omega) hh).1 o)⟩
  rw [this,qy _ _ (fun h=>tst (X (vtx es h))),Nat.add_comm]
 have e3:(List.range (2*es.length)).countP (fun h=>tst (∀k,k<h→vtx es k≠vtx es h)&&tst (X (vtx es h)))=(List.range rs.length).countP (fun x=>tst (X x)):=by
  rw [zU (v:=vtx es) (M:=rs.length) _ (2*es.length) (fun k hk=>xc hin hk),←vY];refine zg fun x hx=>?_;by_cases hX:X x
  ·rw [if_pos (jt.2 hX)];obtain ⟨h0,hh0,hv0⟩:=ht x hx;obtain ⟨l,hl0,hvl,hmin⟩:=xl (P:=fun h=>vtx es h=x) hv0
   have:((List.range (2*es.length)).countP fun k=>decide (vtx es k=x)&&(tst (∀k',k'<k→vtx es k'≠vtx es k)&&tst (X (vtx es k))))=(List.range (2*es.length)).countP fun k=>decide (k=l):=jP fun k hk=>by
    rw [Bool.eq_iff_iff,Bool.and_eq_true,Bool.and_eq_true,decide_eq_true_eq,jt,jt,decide_eq_true_eq];constructor
    ·rintro ⟨h1,h2,_⟩;rcases Nat.lt_trichotomy k l with h | h | h
     ·exact absurd h1 (hmin k h)
     ·exact h
     ·exact absurd (hvl.trans h1.symm) (h2 l h)
    ·rintro rfl;exact ⟨hvl,fun k' hk' e=>hmin k' hk' (e.trans hvl),by rw [hvl];exact hX⟩
   rw [this];have h1:=yJ (p:=fun y=>decide (y=l)) (q:=fun _=>false) (m:=l) (by simp) (fun h=>by by_cases e:h=l<;>simp [e]) (2*es.length);rw [h1,if_pos (by omega)];simp
  ·rw [if_neg (by rw [jt];exact hX),List.countP_eq_zero];intro k _;simp only [Bool.and_eq_true,decide_eq_true_eq,jt,not_and];intro h1 _ h2;rw [h1] at h2;exact hX h2
 rw [e1,e2,e3];omega
end
end Go.Proofs.YtneeknlhlkpnpaaGreat
/-
 A part of the web without inner vertices is a tree (plain law). Written by an AI agent.
-/
namespace Go.Proofs.YtneeknlhlkpnpaaGreat
open Go.RowKit
theorem Uv{R:Nat→Nat→Prop}{v:Nat→Nat}{N:Nat}(h:∀x y,x<N→y<N→R x y→v x=v y):cls (fun x y=>v x=v y) N≤cls R N:=by
 unfold cls;refine cP fun z hz hp=>?_;rw [jt] at hp ⊢;exact fun k hk hr=>hp k hk (h k z (by omega) hz hr)
theorem oK{R:Nat→Nat→Prop}{N:Nat}(hN:0<N)(h:∀x,x<N→R 0 x):cls R N=1:=by
 unfold cls
 have e:((List.range N).countP fun y=>tst (∀k,k<y → ¬R k y))=(List.range N).countP fun y=>decide (y=0):=jP fun y hy=>by
  rw [Bool.eq_iff_iff,jt,decide_eq_true_eq];constructor
  ·intro hn;rcases Nat.eq_zero_or_pos y with h0 | h0
   ·exact h0
   ·exact absurd (h y hy) (hn 0 h0)
  ·rintro rfl k hk;exact absurd hk (Nat.not_lt_zero _)
 rw [e,yJ (p:=fun y=>decide (y=0)) (q:=fun _=>false) (m:=0) (by simp) (fun h=>by by_cases e:h=0<;>simp [e]) N,if_pos hN];simp
section
variable {s:Nat→Nat}
theorem vC{x y:Nat}(h:Orb s x y):∀k,ppR s k x y
 | 0=>h
 | k+1=>.inl (vC h k)
theorem kG{m i:Nat}(hs:Perm (2*m) s):∀k,k≤m→i<k→ppR s k (2*i) (2*i+1)
 | 0,_,h=>absurd h (Nat.not_lt_zero _)
 | k+1,hk,h=>by
  have hE:=kD hs k (by omega);by_cases e:i=k
  ·subst e;exact .inr (.inl ⟨hE.refl _ (by omega),hE.refl _ (by omega)⟩)
  ·exact .inl (kG hs k (by omega) (by omega))
end
section
variable {n:Int}{es:List (Int×Int)}{rs:List (List Int)}
theorem JM(hR:RightP n es rs){h:Nat}(hh:h<2*es.length)(hne:¬qe es (vtx es h)):zt es rs h=2:=by
 obtain ⟨k1,k2⟩:=qS hR hh;refine (vM _ _).2 ⟨?_,?_⟩
 ·cases he:ev h with
  | false=>rfl
  | true=>exact absurd ⟨h,hh,rfl,he⟩ hne
 ·cases he:ev (sig es rs h) with
  | false=>rfl
  | true=>exact absurd ⟨sig es rs h,k1,k2,he⟩ hne
theorem rj(X:Nat→Prop){d:Nat}(hd:d<2*es.length):ppk (kl es rs X) es.length d=kl es rs X (ot d):=by
 rw [aL,if_pos hd]
/-- from all half edges one comes, by edges back, to the source, though the sinks are cut up -/
theorem rT(hG:GoodP (rs.length:Int) es)(hR:RightP n es rs)(hin:InN rs.length es)(h1:cls (Q es es.length) rs.length=1)(he:0<es.length){X:Nat→Prop}(hX:∀x,X x → ¬qe es x) :
  cls (ppR (kl es rs X) es.length) (2*es.length)=1:=by
 have hP:=Yz (es:=es) hR X;have hE:=kD hP es.length (Nat.le_refl _);have ho:=hG.ord;rw [Int.toNat_natCast] at ho;obtain ⟨Lr,hLr⟩:=vI hin ho;have hsrc:=YI hG
 -- two half edges at one vertex that is not cut
 have hv:∀a b,a<2*es.length→b<2*es.length→vtx es a=vtx es b → ¬X (vtx es a)→ppR (kl es rs X) es.length a b:=fun a b ha hb e hx=>by
  obtain ⟨i,hi⟩:=(kE hR ha hb).2 e;exact vC ⟨i,by rw [Qb hR X i a ha hx];exact hi⟩ _
 -- the source
 obtain ⟨s,hs⟩:∃s,s∈yz rs.length es Prod.snd:=List.exists_mem_of_length_pos (by omega);obtain ⟨hsN,hsO⟩:=(VE hin).1 hs
 have hsu:∀x,x<rs.length → ¬zI es x→x=s:=fun x hx hn=>by
  have hm:=(VE hin).2 ⟨hx,hn⟩;obtain ⟨i,hi,ei⟩:=List.getElem_of_mem hs;obtain ⟨j,hj,ej⟩:=List.getElem_of_mem hm;have:i=j:=by omega
  subst this;rw [←ei,←ej]
 have hsE:qe es s:=by
  rcases ZB hin h1 he hsN with h | h
  ·exact absurd h hsO
  ·exact h
 obtain ⟨z,hz,hzv,hze⟩:=hsE;have hsX:¬X s:=fun h=>hX s h ⟨z,hz,hzv,hze⟩
 -- from any vertex that is not cut
 have key:∀r a,a<2*es.length→Lr (vtx es a)=r → ¬X (vtx es a)→ppR (kl es rs X) es.length a z:=by
  intro r
  induction r using Nat.strongRecOn with
  | _ r ih=>
   intro a ha hr hx;by_cases hOdd:zI es (vtx es a)
   ·obtain ⟨k,hk,hkv,hko⟩:=hOdd;obtain ⟨i,rfl⟩:∃i,k=2*i+1:=⟨k/2,by simp [ev] at hko;omega⟩;have hi:i<es.length:=by omega
    have p1:=hv a (2*i+1) ha hk hkv.symm hx;have p2:=kG (m:=es.length) (i:=i) hP es.length (Nat.le_refl _) hi
    have hlt:Lr (vtx es (2*i))<Lr (vtx es (2*i+1)):=by
     obtain ⟨e1,_,_⟩:=xB hin hi;have:=hLr _ (List.getElem_mem hi);rw [e1] at this;simpa using this
    have p3:=ih (Lr (vtx es (2*i))) (by rw [hkv] at hlt;omega) (2*i) (by omega) rfl (fun h=>hX _ h ⟨2*i,by omega,rfl,by simp [ev]⟩);exact hE.trans _ _ _ ha hk hz p1 (hE.trans _ _ _ hk (by omega) hz (hE.symm _ _ (by omega) hk p2) p3)
   ·have:=hsu _ (xc hin ha) hOdd;exact hv a z ha hz (by rw [this,hzv]) hx
 have all:∀a,a<2*es.length→ppR (kl es rs X) es.length a z:=fun a ha=>by
  by_cases hx:X (vtx es a)
  ·have ho:¬ev a=true:=fun h=>hX _ hx ⟨a,ha,rfl,h⟩;obtain ⟨i,rfl⟩:∃i,a=2*i+1:=⟨a/2,by simp [ev] at ho;omega⟩;have hi:i<es.length:=by omega
   have p2:=kG (m:=es.length) (i:=i) hP es.length (Nat.le_refl _) hi;exact hE.trans _ _ _ ha (by omega) hz (hE.symm _ _ (by omega) ha p2) (key _ (2*i) (by omega) rfl (fun h=>hX _ h ⟨2*i,by omega,rfl,by simp [ev]⟩))
  ·exact key _ a ha rfl hx
 exact oK (by omega) fun x hx=>hE.trans _ _ _ (by omega) hz hx (all 0 (by omega)) (hE.symm _ _ hx hz (all x hx))
end
end Go.Proofs.YtneeknlhlkpnpaaGreat
