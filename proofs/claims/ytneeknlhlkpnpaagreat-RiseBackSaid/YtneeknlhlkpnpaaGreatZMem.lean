import Derived.Test.YtneeknlhlkpnpaaGreatProg
import Derived.WalkKit
import Derived.WalkSpells
import Derived.WalkLawsBesides
import Derived.Deep.LoopGhost
import Derived.Deep.Draws
import Derived.Deep.AppendLies
import Derived.OwnWalk
import Derived.Deep.QuietTactic
import Derived.BigQuiet
import Derived.Lib.Hide
import Derived.Deep.RegionWith
import Derived.Maps.AppendAt
import Derived.Laws.EntriesVeiled
import Derived.RegionTactic
import Derived.ChangeAlike
import Derived.KernelRfl
import Derived.Deep.DeepCutAuto
import Derived.BigRegion
/-
 Words for memory that all walks of this seat use: a slice that reads as a list of cells, a block that is known whole, graphs and lists of lists that came in. Conditions: none. Written by an AI agent.
-/
namespace Go.Proofs.YtneeknlhlkpnpaaGreat
open Go.RowKit
def jr(w:World)(B:Nat)(A:Option Addr)(xs:List Value):Prop:=
 0<xs.length → ∃b off,A=some ⟨b,off,none⟩∧b<B ∧ ∀j u,xs[j]? = some u→w.cell? ⟨b,off+j,none⟩=some u
section
variable {w w':World}{B B':Nat}{A:Option Addr}{xs:List Value}
theorem jr.nil:jr w B A []:=fun h=>absurd h (by simp)
theorem jr.keep(h:jr w B A xs)(hk:∀p:Addr,p.block<B→w'.cell? p=w.cell? p):jr w' B A xs:=fun hn=>by
 obtain ⟨b,off,e,hb,hc⟩:=h hn;exact ⟨b,off,e,hb,fun j u hu=>(hk _ (by exact hb)).trans (hc j u hu)⟩
theorem jr.more(h:jr w B A xs)(hB:B≤B'):jr w B' A xs:=fun hn=>by
 obtain ⟨b,off,e,hb,hc⟩:=h hn;exact ⟨b,off,e,by omega,hc⟩
theorem jr.below(h:jr w B A xs)(hb:Below B w w'):jr w' B A xs:=h.keep fun _ hp=>hb.cell hp
theorem jr.drew(h:jr w B A xs):jr w.drew B A xs:=h
theorem jr.drewN(h:jr w B A xs)(k:Nat):jr (w.drewN k) B A xs:=h
theorem jr.alloc(h:jr w B A xs)(hB:B≤w.heap.size)(o:Obj):jr (w.alloc o) B A xs:=h.keep fun p hp=>World.cell?_alloc_lt w o p (by omega)
theorem jr.setCell(h:jr w B A xs){p:Addr}(hB:B≤p.block)(u:Value):jr (w.setCell p u) B A xs:=
 h.keep fun q hq=>World.cell?_setCell_other w p q u (fun e=>by subst e;omega)
theorem jr.of_own{base:Nat}{e:TypeId}{size n c:Nat}(h:w.ownsRow base e size (.slice A n c) n xs):jr w w.heap.size A xs:=fun hn=>by
 have hn':0<n:=by
  rcases Nat.eq_zero_or_pos n with h0 | h0
  ·subst h0;have:=h.1;omega
  ·exact h0
 obtain ⟨g,cap,hv,_,hlt⟩:=h.form hn';have hA:A=some ⟨g,0,none⟩:=by injection hv
 subst hA;refine ⟨_,_,rfl,hlt,fun j u hu=>?_⟩;have:=h.cells (g:=g) rfl j u hu;have e:(⟨g,0,none⟩:Addr).add j=⟨g,0+j,none⟩:=by unfold Addr.add;split<;>simp_all
 rw [e] at this;exact this
end
def Blk(w:World)(g:Nat)(t:TypeId)(cs:Array Value):Prop:=w.heap[g]? = some (.cells cs t (0,0))
section
variable {w w':World}{g:Nat}{t:TypeId}{cs:Array Value}
theorem Blk.lt(h:Blk w g t cs):g<w.heap.size:=by
 rcases Nat.lt_or_ge g w.heap.size with hlt | hge
 ·exact hlt
 ·unfold Blk at h;rw [Array.getElem?_eq_none hge] at h;cases h
theorem Blk.cell(h:Blk w g t cs)(i:Nat):w.cell? ⟨g,i,none⟩=cs[i]? :=cell_of_row w g i cs t (0,0) h
theorem Blk.frozen(h:Blk w g t cs)(i:Nat):w.frozen? ⟨g,i,none⟩=false:=by
 unfold Blk at h;simp [World.frozen?,h]
theorem Blk.new(w:World)(t:TypeId)(cs:Array Value):Blk (w.alloc (.cells cs t)) w.heap.size t cs:=heap_alloc_new w _
theorem Blk.drew(h:Blk w g t cs):Blk w.drew g t cs:=h
theorem Blk.drewN(h:Blk w g t cs)(n:Nat):Blk (w.drewN n) g t cs:=h
theorem Blk.alloc(h:Blk w g t cs)(o:Obj):Blk (w.alloc o) g t cs:=(Below.heap_alloc w o g h.lt).trans h
theorem Blk.set_(h:Blk w g t cs)(i:Nat)(u:Value):Blk (w.setCell ⟨g,i,none⟩ u) g t (cs.setIfInBounds i u):=by
 unfold Blk at h ⊢;simp [World.setCell,Array.getElem?_modify,h]
theorem Blk.far(h:Blk w g t cs){p:Addr}(hp:g≠p.block)(u:Value):Blk (w.setCell p u) g t cs:=(Below.heap_setCell w p u g hp).trans h
theorem Blk.below{B:Nat}(h:Blk w g t cs)(hb:Below B w w')(hg:g<B):Blk w' g t cs:=(hb.block g hg).trans h
theorem Blk.grown{row:Option Nat}(h:Blk w g t cs)(hb:w.grownBy w' row)(hg:some g≠row):Blk w' g t cs:=(hb.block g h.lt hg).trans h
end
theorem Kj{a w:World}{row:Option Nat}(h:a.grownBy w row)(n:Nat):a.grownBy (w.drewN n) row:=⟨h.os,h.tape,h.output,h.size,h.block⟩
theorem YK{a w:World}{row:Option Nat}(h:a.grownBy w row)(o:Obj):a.grownBy (w.alloc o) row:=
 ⟨h.os,h.tape,h.output,Nat.le_trans h.size (by simp),fun i hi hne=>(Below.heap_alloc w o i (Nat.lt_of_lt_of_le hi h.size)).trans (h.block i hi hne)⟩
theorem zP{a w:World}{g:Nat}(h:a.grownBy w (some g)){p:Addr}(hp:p.block=g∨a.heap.size≤p.block)(u:Value):a.grownBy (w.setCell p u) (some g):=
 ⟨h.os,h.tape,h.output,by simpa [World.setCell] using h.size,fun i hi hne=>(Below.heap_setCell w p u i (by
  rintro rfl;rcases hp with hp | hp
  ·exact hne (by rw [hp])
  ·omega)).trans (h.block i hi hne)⟩
theorem xd(a b:Nat):((a:Int) != (b:Int))=(a != b):=by
 rw [Bool.eq_iff_iff];simp;omega
theorem WI(w:World)(p q:Addr)(x v:Value)(h:w.cell? q=some v):∃v',∀k,((w.drewN k).setCell p x).cell? q=some v':=by
 obtain ⟨v',hv⟩:=cell?_setCell_some (w:=w) (p:=p) (x:=x) (q:=q) (v:=v) h;exact ⟨v',fun _=>hv⟩
theorem vP{k:IntKind}{a b:Int}(h:a=b):Ending.returned (.int k a) = .returned (.int k b):=by rw [h]
theorem jx{a b:Bool}(h:a=b):Ending.returned (.bool a) = .returned (.bool b):=by rw [h]
def jA(es:List (Int×Int)):List Value:=es.flatMap fun e=>[.int .i64 e.1,.int .i64 e.2]
theorem zD(es:List (Int×Int)):(jA es).length=2*es.length:=by
 unfold jA;induction es with
 | nil=>rfl
 | cons e r ih=>simp only [List.flatMap_cons,List.length_append,List.length_cons,List.length_nil,ih];omega
theorem JA(es:List (Int×Int))(k:Nat)(h:k<es.length) :
  (jA es)[2*k]? = some (.int .i64 es[k].1)∧(jA es)[2*k+1]? = some (.int .i64 es[k].2):=by
 induction es generalizing k with
 | nil=>simp at h
 | cons e r ih=>
  have e0:jA (e::r) = .int .i64 e.1 :: .int .i64 e.2::jA r:=rfl;rw [e0]
  cases k with
  | zero=>simp
  | succ k=>
   have:=ih k (by simpa using h);have e1:2*(k+1)=2*k+1+1:=by omega
   rw [e1];simpa using this
theorem jr.edges{w:World}{B:Nat}{A:Option Addr}{es:List (Int×Int)}(h:jr w B A (jA es))(hn:0<es.length) :
  ∃b off,A=some ⟨b,off,none⟩∧b<B ∧ ∀k (hk:k<es.length),w.cell? ⟨b,off+k*2,none⟩=some (.int .i64 es[k].1)∧w.cell? ⟨b,off+k*2+1,none⟩=some (.int .i64 es[k].2):=by
 obtain ⟨b,off,e,hb,hc⟩:=h (by rw [zD];omega);refine ⟨b,off,e,hb,fun k hk=>?_⟩;obtain ⟨h1,h2⟩:=JA es k hk;have a:=hc _ _ h1;have b:=hc _ _ h2;rw [Nat.mul_comm k 2];exact ⟨a,b⟩
def kP(P:Program)(t e:TypeId)(z:Value)(size bytes:Nat):Prop:=
 ∃i,P.underlying t=some (.slice e)∧P.info? e=some i∧i.zero=some z∧i.size=size∧i.bytes=bytes∧z.cells.size=size∧0<size
theorem kP.mk'{P:Program}{t e:TypeId}{z:Value}{size bytes:Nat}(h1:P.underlying t=some (.slice e))(h2:(P.info? e).map (fun i=>(i.zero,i.size,i.bytes))=some (some z,size,bytes))(h3:z.cells.size=size)(h4:0<size):kP P t e z size bytes:=by
 obtain ⟨i0,hi,hz0,hz1,hz2⟩:=info_parts h2;exact ⟨i0,h1,hi,hz0,hz1,hz2,h3,h4⟩
theorem yC{P:Program}{w:World}{ops:Array Oper}{rest:List Oper}{o:Oper}{a:Act}{Q:Exit→Act→World→Prop}{t e:TypeId}{z:Value}{size bytes:Nat}(hE:kP P t e z size bytes)
  (hgd:o.guard=none) (s x:Operand) (ho:o.op = .call { callee:=.builtin .append,args:=#[s,x],argTypes:=#[t,t] })
  (base:Nat) (v:Value) (n:Nat) (xs:List Value) (hs:a.eval s=v) (g:Nat) (news:List Value) (hx:a.eval x = .slice (some ⟨g,0,none⟩) 1 1) (hgs:g=w.heap.size)
  (hown:w.ownsRow base e size v n xs) (hl:news.length=size) (h1:news.all (fun u=>u.oneCell')=true)
  (h63:(n+1)*bytes≤140737488355328) (hn63:n+1≤9223372036854775807) (hbase:base≤w.heap.size)
  (h:∀v' w',w'.ownsRow base e size v' (n+1) (xs++news)→w.grownBy w' v.ownBlock→(v'.ownBlock=v.ownBlock∨v'.ownBlock=some (g+1))→wpList P ops Q rest (a.put o.dst v') w') :
  wpList P ops Q (o::rest) a (w.alloc (.cells news.toArray e)):=by
 subst hgs;obtain ⟨i,ht,hi,hz,hsize,hby,hzs,hsz⟩:=hE
 have hc:∀j u,news[j]? = some u→(w.alloc (.cells news.toArray e)).cell? ((⟨w.heap.size,0,none⟩:Addr).add j)=some u:=by
  intro j u hj;have e1:(⟨w.heap.size,0,none⟩:Addr).add j=⟨w.heap.size,j,none⟩:=by unfold Addr.add;split<;>simp_all
  rw [e1,World.cell?_alloc_new];simpa using hj
 refine wpList_append_own_at _ hgd s x t ho base e i z size bytes ht hi hz hsize hby hzs hsz v n xs hs (hown.alloc _) ⟨w.heap.size,0,none⟩ 1 1 news hx (by omega) hc (fun u hu=>List.all_eq_true.1 h1 u hu) (by unfold maxLen;omega) h63 (by simp;omega) ?_;intro v' w' h2 h3 _ h5;exact h v' w' h2 ((World.grownBy_alloc w _ _).trans h3) (by simpa using h5)
theorem qb{B base n size:Nat}{a w w':World}{v:Value}{e:TypeId}{xs:List Value}(h:Below B a w)(hown:w.ownsRow base e size v n xs)(hg:w.grownBy w' v.ownBlock)(hB:B≤w.heap.size)(hb:B≤base):Below B a w':=
 h.grown hg hB (fun k hk=>by have:=(hown.lt k hk).1;omega)
theorem xO{w:World}{base size n:Nat}{e:TypeId}{v:Value}{xs:List Value}(h:w.ownsRow base e size v n xs)(hn:0<n) :
  ∃g cap R,v = .slice (some ⟨g,0,none⟩) n cap∧base≤g∧Blk w g e (xs.toArray++R)∧xs.length+R.size=cap*size∧n≤cap∧cap≤maxLen∧xs.length=n*size:=by
 obtain ⟨hl,⟨rfl,h0⟩ | ⟨g,cap,cur,rfl,hb,hg,hnc,hcm,hcs,htake⟩⟩:=h
 ·omega
 ·have hle:n*size≤cap*size:=Nat.mul_le_mul_right _ hnc;refine ⟨g,cap,(cur.toList.drop (n*size)).toArray,rfl,hb,?_,?_,hnc,hcm,hl⟩
  ·unfold Blk;rw [hg]
   have:cur=xs.toArray++(cur.toList.drop (n*size)).toArray:=by
    rw [←htake];simp
   rw [←this]
  ·simp [hl,hcs];omega
theorem vl{w:World}{base size n g cap:Nat}{e:TypeId}{xs:List Value}{R:Array Value}(hb:base≤g)(h:Blk w g e (xs.toArray++R))(h1:xs.length+R.size=cap*size)(h2:n≤cap)(h3:cap≤maxLen)(h4:xs.length=n*size) :
  w.ownsRow base e size (.slice (some ⟨g,0,none⟩) n cap) n xs:=
 ⟨h4,.inr ⟨g,cap,_,rfl,hb,h,h2,h3,by simpa using h1,by rw [←h4];simp⟩⟩
theorem qh{w:World}{base base' size n:Nat}{e:TypeId}{v:Value}{xs:List Value}(h:w.ownsRow base e size v n xs)(hb:base'≤base):w.ownsRow base' e size v n xs:=by
 obtain ⟨h1,h2⟩:=h;refine ⟨h1,?_⟩;rcases h2 with h2 | ⟨g,cap,cur,hv,hg,r⟩
 ·exact Or.inl h2
 ·exact Or.inr ⟨g,cap,cur,hv,by omega,r⟩
theorem jT{w w':World}{base B size n:Nat}{e:TypeId}{v:Value}{xs:List Value}(h:w.ownsRow base e size v n xs)(hb:Below B w w')(hB:w.heap.size≤B):w'.ownsRow base e size v n xs:=by
 obtain ⟨h1,h2⟩:=h;refine ⟨h1,?_⟩;rcases h2 with h2 | ⟨g,cap,cur,hv,hg,hh,r⟩
 ·exact Or.inl h2
 ·exact Or.inr ⟨g,cap,cur,hv,hg,by rw [hb.block g (Nat.lt_of_lt_of_le (Blk.lt (t:=e) (cs:=cur) hh) hB)];exact hh,r⟩
theorem YI{P:Program}{f:FuncId}{args:Array Value}{w:World}{n:Nat}{v:Value}
  (h:Calls P f args (w.drewN n) fun e w'=>e = .returned v∧w.drewN n=w'):Calls P f args (w.drewN n) fun e w''=>e = .returned v ∧ ∃m,w''=w.drewN m:=
 h.mono fun _ _ ⟨he,hm⟩=>⟨he,n,hm.symm⟩
theorem yz{P:Program}{t e:TypeId}{z:Value}{bytes:Nat}(hE:kP P t e z 1 bytes)(hz:z.cells = #[z])(n:Nat)(hb:bytes*n≤281474976710656)(h63:n≤9223372036854775807)(W:World) :
  (Instr.makeSlice t (.int .i64 (n:Int)) (.int .i64 (n:Int))).run P W = .ok (.slice (some ⟨W.heap.size,0,none⟩) n n) (W.alloc (.cells (List.replicate n z).toArray e)):=by
 obtain ⟨i,ht,hi,hz0,hsize,hby,hzs,hsz⟩:=hE
 have h:(i.bytes:Int)*(n:Int)≤281474976710656:=by
  have:((i.bytes*n:Nat):Int)≤281474976710656:=by rw [hby];omega
  rwa [Int.natCast_mul] at this
 have hr:=run_make (P:=P) W t e i z ht hi hz0 .i64 .i64 n n (by omega) (by omega) h (by omega);simp only [Int.toNat_natCast,hsize,Nat.mul_one,hz] at hr;rw [hr]
 have e1:madeCells #[z] n=(List.replicate n z).toArray:=by
  rw [←toList_madeCells_one]
 rw [e1]
def jD(l:List Bool):List Value:=l.map Value.bool
theorem vW(l:List Bool):(jD l).length=l.length:=by simp [jD]
theorem xa(n:Nat)(b:Bool):(List.replicate n (Value.bool b))=jD (List.replicate n b):=by simp [jD]
theorem jr.bools{w:World}{B:Nat}{A:Option Addr}{l:List Bool}(h:jr w B A (jD l))(hn:0<l.length) :
  ∃b off,A=some ⟨b,off,none⟩∧b<B ∧ ∀k (_:k<l.length),w.cell? ⟨b,off+k,none⟩=some (.bool (l.getD k false)):=by
 obtain ⟨b,off,e,hb,hc⟩:=h (by simpa [jD] using hn);exact ⟨b,off,e,hb,fun k hk=>hc k _ (by simp [jD,hk])⟩
theorem Blk.bool{w:World}{g:Nat}{t:TypeId}{l:List Bool}(h:Blk w g t (jD l).toArray){k:Nat}(hk:k<l.length):w.cell? ⟨g,k,none⟩=some (.bool (l.getD k false)):=by
 rw [h.cell k];simp [jD,hk]
theorem Blk.setBool{w:World}{g:Nat}{t:TypeId}{l:List Bool}(h:Blk w g t (jD l).toArray)(k:Nat)(b:Bool):Blk (w.setCell ⟨g,k,none⟩ (.bool b)) g t (jD (l.set k b)).toArray:=by
 have:=h.set_ k (.bool b);simpa [jD,List.map_set] using this
theorem vx{w:World}{base g n:Nat}{t:TypeId}{xs:List Value}(h:Blk w g t xs.toArray)(hb:base≤g)(hn:xs.length=n)(hm:n≤9223372036854775807):w.ownsRow base t 1 (.slice (some ⟨g,0,none⟩) n n) n xs:=
 ⟨by omega,.inr ⟨g,n,_,rfl,hb,h,Nat.le_refl _,by unfold maxLen;omega,by simp [hn],by simp [←hn]⟩⟩
theorem jr.of_blk{w:World}{g:Nat}{t:TypeId}{xs:List Value}{R:Array Value}(h:Blk w g t (xs.toArray++R)):jr w (g+1) (some ⟨g,0,none⟩) xs:=fun _=>
 ⟨g,0,rfl,by omega,fun j u hj=>by
  rw [Nat.zero_add,h.cell j];obtain ⟨hl,hu⟩:=List.getElem?_eq_some_iff.1 hj;rw [Array.getElem?_append_left (by simpa using hl)]
  simp [hj]⟩
theorem Blk.setBoolR{w:World}{g:Nat}{t:TypeId}{l:List Bool}{R:Array Value}(h:Blk w g t ((jD l).toArray++R))(k:Nat)(b:Bool)(hk:k<l.length):Blk (w.setCell ⟨g,k,none⟩ (.bool b)) g t ((jD (l.set k b)).toArray++R):=by
 have:=h.set_ k (.bool b);rw [Array.setIfInBounds_append_left (by simpa [jD] using hk)] at this;simpa [jD,List.map_set] using this
theorem Blk.boolR{w:World}{g:Nat}{t:TypeId}{l:List Bool}{R:Array Value}(h:Blk w g t ((jD l).toArray++R)){k:Nat}(hk:k<l.length):w.cell? ⟨g,k,none⟩=some (.bool (l.getD k false)):=by
 rw [h.cell k,Array.getElem?_append_left (by simpa [jD] using hk)];simp [jD,hk]
end Go.Proofs.YtneeknlhlkpnpaaGreat
namespace Go.Proofs.YtneeknlhlkpnpaaGreat
open Go.RowKit
def yP(s:Nat)(x:Int):Bool:=decide (0≤x)&&decide (x<64)&&s.testBit x.toNat
theorem oQ(s k:Nat)(hs:s<18446744073709551616):(bits .and .u64 ((s:Int)/2 ^ k) 1==1)=s.testBit k:=by
 have e1:(s:Int)/2 ^ k=((s/2 ^ k:Nat):Int):=by simp
 have hlt:s/2 ^ k<18446744073709551616:=Nat.lt_of_le_of_lt (Nat.div_le_self _ _) hs;rw [e1];have:=u64_and_nat (s/2 ^ k) 1 hlt (by omega);rw [show ((1:Nat):Int)=1 from rfl] at this;rw [this,Nat.and_one_is_mod,Nat.testBit_eq_decide_div_mod_eq,Bool.eq_iff_iff];simp;omega
theorem eZ(s:Nat)(x:Int)(w:World)(hs:s<18446744073709551616) :
  Calls Tryz.prog 141 #[.int .u64 s,.int .i64 x] w fun e w'=>e = .returned (.bool (yP s x))∧w=w':=by
 by_cases h0:0≤x
 ·by_cases h1:x<64
  ·go_enter Tryz.func141,Tryz.ntmps141
   go_wp2
   go_ret;refine ⟨jx ?_,rfl⟩;rw [oQ s _ hs];simp [yP,h0,h1]
  ·go_enter Tryz.func141,Tryz.ntmps141
   go_wp2
   go_ret;exact ⟨jx (by simp [yP];intro _ _;omega),rfl⟩
 ·go_enter Tryz.func141,Tryz.ntmps141
  go_wp2
  go_ret;exact ⟨jx (by simp [yP];intro _;omega),rfl⟩
def ZZ(n x:Int):Bool:=decide (x<0)||decide (n≤x)
theorem eI(n x:Int)(b:Nat)(w:World)(hb:w.cell? ⟨b,0,none⟩=some (.int .i64 n)) :
  Calls Tryz.prog 127 #[.int .i64 x,.pointer (some ⟨b,0,none⟩)] w fun e w'=>e = .returned (.bool (ZZ n x))∧w=w':=by
 by_cases h0:x<0
 ·go_enter Tryz.func127,Tryz.ntmps127
  go_wp2
  go_ret;exact ⟨jx (by simp [ZZ,h0]),rfl⟩
 ·go_enter Tryz.func127,Tryz.ntmps127
  go_wp2
  go_ret;exact ⟨jx (by simp [ZZ];omega),rfl⟩
def UB(n:Int)(e:Int×Int):Bool:=ZZ n e.1||ZZ n e.2
set_option maxHeartbeats 400000 in
theorem lZ(n x y:Int)(b c:Nat)(w:World)(hb:w.cell? ⟨b,0,none⟩=some (.int .i64 n))(hc:w.cell? ⟨c,0,none⟩=some (.func (.func 127) #[] #[.pointer (some ⟨b,0,none⟩)])) :
  Calls Tryz.prog 129 #[.agg #[.int .i64 x,.int .i64 y],.pointer (some ⟨c,0,none⟩)] w fun e w'=>e = .returned (.bool (UB n (x,y)))∧Below w.heap.size w w':=by
 have lb:=World.block_lt_of_cell? w _ hb;have lc:=World.block_lt_of_cell? w _ hc;simp only at lb lc
 go_enter Tryz.func129,Tryz.ntmps129
 go_wp2_with fail;refine (eI n x b _ (by rw [World.cell?_alloc_past _ _ _ lb];exact hb)).mono ?_;rintro e w' ⟨rfl,rfl⟩
 cases hx:ZZ n x with
 | true=>
  have Hx:=Lib.hid hx;clear hx;go_wp2_with fail;go_ret;exact ⟨jx (by simp [UB,Hx.out]),(Below.refl _ _).alloc (Nat.le_refl _) _⟩
 | false=>
  have Hx:=Lib.hid hx;clear hx;go_wp2_with fail;refine (eI n y b _ (by rw [World.cell?_alloc_past _ _ _ lb];exact hb)).mono ?_;rintro e w' ⟨rfl,rfl⟩;go_wp2_with fail;go_ret;exact ⟨jx (by simp [UB,Hx.out]),(Below.refl _ _).alloc (Nat.le_refl _) _⟩
def Xt(p:Nat→Bool)(n:Nat):Bool:=(List.range n).any p
def fj(p:Nat→Bool)(n:Nat)(w:World)(e:Ending)(w':World):Prop:=
 ∃r:Int,e = .returned (.int .i64 r)∧Below w.heap.size w w'∧(r = -1∧(∀i,i<n→p i=false) ∨ ∃k:Nat,r=k∧k<n∧p k=true ∧ ∀i,i<k→p i=false)
set_option maxHeartbeats 400000 in
theorem Yy(A:Option Addr)(cap:Nat)(es:List (Int×Int))(fid:FuncId)(caps:Array Value)(p:Nat→Bool)(w:World)(hlen:es.length≤1000)
  (hes:jr w w.heap.size A (jA es))
  (hcf:∀(u:World) (args:Array Value),(callFunc fid args).run Tryz.prog u = .ok (.enter fid args) u)
  (hcl:∀(i:Nat) (hi:i<es.length) (w':World),Below w.heap.size w w'→Calls Tryz.prog fid (#[.agg #[.int .i64 es[i].1,.int .i64 es[i].2]]++caps) w' fun e w''=>e = .returned (.bool (p i))∧Below w'.heap.size w' w'') :
  Calls Tryz.prog 92 #[.slice A es.length cap,.func (.func fid) #[] caps] w (fj p es.length w):=by
 have Hcl:=Lib.hid hcl;clear hcl
 go_enter Tryz.func92,Tryz.ntmps92
 go_wp2
 go_loopg [8] (es.length) (fun k s8 wr=>∃i:Nat,s8 = .int .i64 i∧i≤es.length∧k=es.length-i∧Below w.heap.size w wr ∧ ∀j,j<i→p j=false)
 case atStart=>exact ⟨0,rfl,Nat.zero_le _,rfl,Below.refl _ _,fun j hj=>absurd hj (by omega)⟩
 case round=>
  obtain ⟨i,rfl,hi,hk,hb,hf⟩:=hrel;have Hk:=Lib.hid hk;clear hk;have Hf:=Lib.hid hf;clear hf;by_cases hlt:i<es.length
  ·obtain ⟨b,off,rfl,hbb,hc⟩:=hes.edges (by omega);obtain ⟨c0,c1⟩:=hc i hlt;clear hc;have c0':=(hb.cell (p:=⟨b,off+i*2,none⟩) hbb).trans c0;have c1':=(hb.cell (p:=⟨b,off+i*2+1,none⟩) hbb).trans c1;clear c0 c1;go_wp2_with fail;refine (Hcl.out i hlt _ hb).mono ?_;rintro e w' ⟨rfl,hb2⟩;have hb3:=hb.trans (hb2.mono hb.size);clear c0' c1'
   cases hp:p i with
   | true=>
    have Hp:=Lib.hid hp;clear hp;go_wp2_with fail;go_ret;exact ⟨_,rfl,hb3,.inr ⟨i,rfl,hlt,Hp.out,Hf.out⟩⟩
   | false=>
    have Hp:=Lib.hid hp;clear hp;go_wp2_with fail
    go_roundg (es.length-(i+1))
    case measure=>rw [Hk.out];omega
    case rel=>exact ⟨i+1,by go_num,by omega,rfl,hb3,fun j hj=>by
     by_cases h:j=i
     ·rw [h];exact Hp.out
     ·exact Hf.out j (by omega)⟩
  ·go_wp2_with fail;go_ret;exact ⟨_,rfl,hb,.inl ⟨rfl,fun j hj=>Hf.out j (by omega)⟩⟩
theorem ZW(A:Option Addr)(cap:Nat)(es:List (Int×Int))(fid:FuncId)(caps:Array Value)(p:Nat→Bool)(w:World)(hlen:es.length≤1000)
  (hes:jr w w.heap.size A (jA es))
  (hcf:∀(u:World) (args:Array Value),(callFunc fid args).run Tryz.prog u = .ok (.enter fid args) u)
  (hcl:∀(i:Nat) (hi:i<es.length) (w':World),Below w.heap.size w w'→Calls Tryz.prog fid (#[.agg #[.int .i64 es[i].1,.int .i64 es[i].2]]++caps) w' fun e w''=>e = .returned (.bool (p i))∧Below w'.heap.size w' w'') :
  Calls Tryz.prog 128 #[.slice A es.length cap,.func (.func fid) #[] caps] w fun e w'=>e = .returned (.bool (Xt p es.length))∧Below w.heap.size w w':=by
 have Hc:=Lib.hid (Yy A cap es fid caps p w hlen hes hcf hcl);clear hes hcf hcl
 go_enter Tryz.func128,Tryz.ntmps128
 go_wp2_with fail;refine Hc.out.mono ?_;rintro e w' ⟨r,rfl,hb,hr⟩;have Hr:=Lib.hid hr;clear hr;go_wp2_with fail;go_ret;refine ⟨jx ?_,hb⟩;unfold Xt;rcases Hr.out with ⟨rfl,h⟩ | ⟨k,rfl,hk,hp,_⟩
 ·rw [show decide ((0:Int) ≤ -1)=false from rfl,eq_comm,List.any_eq_false];intro i hi;rw [h i (List.mem_range.1 hi)];simp
 ·rw [decide_eq_true (by omega),eq_comm,List.any_eq_true];exact ⟨k,List.mem_range.2 hk,hp⟩
def vj(n:Int)(es:List (Int×Int)):Bool:=decide (0<n)&&decide (n≤64)&&decide (es.length≤128) && !Xt (fun i=>UB n (es.getD i (0,0))) es.length
theorem Ur(u:World)(args:Array Value):(callFunc 129 args).run Tryz.prog u = .ok (.enter 129 args) u:=by
 go_simp
set_option maxHeartbeats 400000 in
theorem ZP(n:Int)(A:Option Addr)(cap:Nat)(es:List (Int×Int))(w:World)(hes:jr w w.heap.size A (jA es)) :
  Calls Tryz.prog 91 #[.agg #[.int .i64 n,.slice A es.length cap]] w fun e w'=>e = .returned (.bool (vj n es))∧Below w.heap.size w w':=by
 by_cases h1:0<n
 ·by_cases h2:n≤64
  ·by_cases h3:es.length≤128
   ·go_enter Tryz.func91,Tryz.ntmps91
    go_wp2_with fail;refine (ZW A cap es _ _ (fun i=>UB n (es.getD i (0,0))) _ (by omega) (((hes.alloc (Nat.le_refl _) _).alloc (by simp) _).more (by simp;omega)) Ur ?_).mono ?_
    ·intro i hi w' hb;have e:es.getD i (0,0)=(es[i].1,es[i].2):=by simp [hi]
     rw [e];exact lZ n _ _ w.heap.size (w.heap.size+1) w' (by rw [hb.cell (by simp only [World.size_alloc];omega)];simp [go_sem]) (by rw [hb.cell (by simp only [World.size_alloc];omega)];simp [go_sem])
    rintro e w' ⟨rfl,hb⟩;go_wp2_with fail;go_ret;refine ⟨jx ?_,(((Below.refl _ _).alloc (Nat.le_refl _) _).alloc (by simp) _).trans (hb.mono (by simp;omega))⟩;have h1':0<n:=by omega
    have h2':n≤64:=by omega
    simp [vj,h1',h2',h3]
   ·go_enter Tryz.func91,Tryz.ntmps91
    go_wp2_with fail;go_ret
    exact ⟨jx (by
     have:¬es.length≤128:=by omega
     simp [vj,this]),((Below.refl _ _).alloc (Nat.le_refl _) _).alloc (by simp) _⟩
  ·go_enter Tryz.func91,Tryz.ntmps91
   go_wp2_with fail;go_ret
   exact ⟨jx (by
    have:¬n≤64:=by omega
    simp [vj,this]),((Below.refl _ _).alloc (Nat.le_refl _) _).alloc (by simp) _⟩
 ·go_enter Tryz.func91,Tryz.ntmps91
  go_wp2_with fail;go_ret
  exact ⟨jx (by
   have:¬0<n:=by omega
   simp [vj,this]),((Below.refl _ _).alloc (Nat.le_refl _) _).alloc (by simp) _⟩
end Go.Proofs.YtneeknlhlkpnpaaGreat
namespace Go.Proofs.YtneeknlhlkpnpaaGreat
open Go.RowKit
def xH(both:Bool)(cnt:Nat→Bool)(es:List (Int×Int))(S:List Nat)(i:Nat):List Nat:=
 if cnt i then
  let e:=es.getD i (0,0)
  let t:=S.getD e.1.toNat 0 ||| S.getD e.2.toNat 0
  let h:=if both then t else S.getD e.2.toNat 0
  (S.set e.1.toNat t).set e.2.toNat h
 else S
def Gy(S:List Nat):Array Value:=(S.map fun s:Nat=>Value.int .u64 (s:Int)).toArray
def GM(S:List Nat):Nat:=(S.map (18446744073709551616 - ·)).sum
def GN(both:Bool)(cnt:Nat→Bool)(es:List (Int×Int))(S T:List Nat):Prop:=
 ∀P:List Nat→Prop,P S→(∀U i,i<es.length→P U→P (xH both cnt es U i))→P T
theorem Gi(S:List Nat)(R:Array Value)(t:Nat)(h:t<S.length):(Gy S++R)[t]? = some (.int .u64 ((S.getD t 0:Nat):Int)):=by
 unfold Gy;rw [Array.getElem?_append_left (by simpa using h)];simp [h]
theorem aK(S:List Nat)(R:Array Value)(t x:Nat)(h:t<S.length):(Gy S++R).setIfInBounds t (.int .u64 (x:Int))=Gy (S.set t x)++R:=by
 unfold Gy;rw [Array.setIfInBounds_append_left (by simpa using h)];simp [List.map_set]
theorem np(U:List Nat)(t x:Nat)(ht:t<U.length)(h:U.getD t 0≤x)(hx:x<18446744073709551616):GM (U.set t x)+(x-U.getD t 0)=GM U:=by
 induction U generalizing t with
 | nil=>simp at ht
 | cons u U ih=>
  cases t with
  | zero=>simp only [GM,List.set_cons_zero,List.map_cons,List.sum_cons,List.getD_cons_zero] at *;omega
  | succ t=>
   have:=ih t (by simpa using ht) (by simpa using h);simp only [GM,List.set_cons_succ,List.map_cons,List.sum_cons,List.getD_cons_succ] at *;omega
structure GrowOk(S T:List Nat):Prop where
 len:T.length=S.length
 lt:∀s∈T,s<18446744073709551616
theorem GrowOk.at_{S T:List Nat}(h:GrowOk S T)(t:Nat):T.getD t 0<18446744073709551616:=by
 rw [List.getD_eq_getElem?_getD];rcases Nat.lt_or_ge t T.length with hl | hl
 ·rw [List.getElem?_eq_getElem hl];exact h.lt _ (List.getElem_mem hl)
 ·rw [List.getElem?_eq_none hl];decide
theorem GrowOk.set{S T:List Nat}(h:GrowOk S T)(t x:Nat)(hx:x<18446744073709551616):GrowOk S (T.set t x):=
 ⟨by simp [h.len],fun s hs=>(List.mem_or_eq_of_mem_set hs).elim (h.lt s) (fun e=>e▸hx)⟩
theorem fH{a d:Nat}(ha:a<18446744073709551616)(hd:d<18446744073709551616):a ||| d<18446744073709551616:=
 Nat.or_lt_two_pow (n:=64) ha hd
theorem Qu{both:Bool}{cnt:Nat→Bool}{es:List (Int×Int)}{U:List Nat}{i t h:Nat}(hi:i<es.length)(hc:cnt i=true)(ht:es[i].1=t)(hh:es[i].2=h) :
  xH both cnt es U i=(U.set t (U.getD t 0 ||| U.getD h 0)).set h (if both then U.getD t 0 ||| U.getD h 0 else U.getD h 0):=by
 unfold xH;rw [if_pos hc];simp [hi,ht,hh]
theorem YB{both:Bool}{cnt:Nat→Bool}{es:List (Int×Int)}{U:List Nat}{i:Nat}(hc:cnt i=false):xH both cnt es U i=U:=by
 unfold xH;rw [if_neg (by simp [hc])]
theorem ip{both:Bool}{U:List Nat}{t h:Nat}(ht:t<U.length)(hh:h<U.length)(hU:GrowOk U U){x y:Nat}(hx:x=U.getD t 0 ||| U.getD h 0)(hy:y=if both then x else U.getD h 0) :
  GM ((U.set t x).set h y)≤GM U∧((x≠U.getD t 0∨y≠U.getD h 0)→GM ((U.set t x).set h y)<GM U)∧((x=U.getD t 0∧y=U.getD h 0)→(U.set t x).set h y=U):=by
 have a1:=hU.at_ t;have a2:=hU.at_ h;have a3:=fH a1 a2;have l1:U.getD t 0≤x:=by rw [hx];exact Nat.left_le_or
 have l2:U.getD h 0≤x:=by rw [hx];exact Nat.right_le_or
 rw [←hx] at a3;have g1:=np U t x ht l1 a3;have hy1:U.getD h 0≤y:=by rw [hy];split<;>omega
 have hy2:y<18446744073709551616:=by rw [hy];split<;>omega
 by_cases e:t=h
 ·subst e;have:x=U.getD t 0:=by rw [hx,Nat.or_self]
  have hy':y=x:=by rw [hy];split<;>omega
  subst hy';rw [List.set_set];refine ⟨by omega,fun hne=>by omega,fun he=>?_⟩;rw [this];simp [ht]
 ·have e2:(U.set t x).getD h 0=U.getD h 0:=by simp [e]
  have g2:=np (U.set t x) h y (by simpa using hh) (by rw [e2];exact hy1) hy2;rw [e2] at g2;refine ⟨by omega,fun hne=>by omega,fun ⟨he1,he2⟩=>?_⟩;rw [he1,he2];simp [ht,hh]
set_option maxHeartbeats 1000000 in
theorem bE(n:Int)(A:Option Addr)(cap gcap:Nat)(es:List (Int×Int))(both:Bool)(cnt:Nat→Bool)(fid:FuncId)(caps:Array Value)(g L:Nat)(S:List Nat)(R:Array Value)(w:World)
  (B:Nat) (hes:jr w B A (jA es)) (hB:B≤g) (hlen:es.length≤1000)
  (hg:Blk w g 157 (Gy S++R)) (hn:∀e∈es,0≤e.1∧e.1<L∧0≤e.2∧e.2<L) (hS:∀s∈S,s<18446744073709551616) (hL:S.length=L)
  (hcf:∀(u:World) (args:Array Value),(callFunc fid args).run Tryz.prog u = .ok (.enter fid args) u)
  (hcl:∀(i:Int) (w':World),0≤i→i<es.length→w.grownBy w' (some g)→Calls Tryz.prog fid (#[.int .i64 i]++caps) w' fun e w''=>e = .returned (.bool (cnt i.toNat)) ∧ ∃m,w''=w'.drewN m) :
  Calls Tryz.prog 139 #[.agg #[.int .i64 n,.slice A es.length cap],.slice (some ⟨g,0,none⟩) L gcap,.bool both,.func (.func fid) #[] caps] w fun e w'=>
   e = .returned (.tuple #[])∧w.grownBy w' (some g) ∧ ∃T,Blk w' g 157 (Gy T++R)∧GrowOk S T∧GN both cnt es S T∧(∀i,i<es.length→xH both cnt es T i=T):=by
 have Hcl:=Lib.hid hcl;clear hcl;have HL:=Lib.hid hL;clear hL;have Hn:=Lib.hid hn;clear hn;have HS:=Lib.hid hS;clear hS;have hgl:=hg.lt
 go_enter Tryz.func139,Tryz.ntmps139
 go_wp2
 go_loopg [8] (GM S+1) (fun k s8 wr=>∃(T:List Nat) (m:Bool),s8 = .bool m∧Blk wr g 157 (Gy T++R)∧w.grownBy wr (some g) ∧
  Blk wr w.heap.size 24 #[.int .i64 n,.slice A es.length cap]∧GrowOk S T∧GN both cnt es S T∧(m=false → ∀i,i<es.length→xH both cnt es T i=T)∧k=GM T+if m then 1 else 0)
 case atStart=>exact ⟨S,true,rfl,hg.alloc _,World.grownBy_alloc _ _ _,Blk.new _ _ _,⟨rfl,HS.out⟩,fun P h _=>h,by simp,rfl⟩
 case round=>
  obtain ⟨T,m,rfl,hT,hgr,hbox,hok,hto,hfix,hk⟩:=hrel;have Hto:=Lib.hid hto;clear hto;have Hfix:=Lib.hid hfix;clear hfix;have Hk:=Lib.hid hk;clear hk;have b0:=hbox.cell 0;have b1:=hbox.cell 1;simp only [List.getElem?_toArray,List.getElem?_cons_zero,List.getElem?_cons_succ] at b0 b1
  cases m with
  | false=>
   go_wp2
   go_end0
   exact ⟨rfl,hgr,T,hT,hok,Hto.out,Hfix.out (by simp)⟩
  | true=>
   go_wp2
   obtain ⟨wo,rfl⟩:∃wo:World,wo=wr:=⟨_,rfl⟩
   go_loopg [8,17] (es.length) (fun k s8 s17 wr=>∃(U:List Nat) (m:Bool) (i:Nat),s8 = .bool m∧s17 = .int .i64 i∧i≤es.length∧k=es.length-i∧Blk wr g 157 (Gy U++R)∧w.grownBy wr (some g) ∧
    Blk wr w.heap.size 24 #[.int .i64 n,.slice A es.length cap]∧GrowOk S U∧GN both cnt es S U∧(m=true→GM U<GM T)∧(m=false→U=T ∧ ∀j,j<i→xH both cnt es T j=T))
   case atStart=>exact ⟨T,false,0,rfl,rfl,Nat.zero_le _,rfl,hT,hgr,hbox,hok,Hto.out,by simp,fun _=>⟨rfl,fun j hj=>absurd hj (by omega)⟩⟩
   case round=>
    obtain ⟨U,m,i,rfl,rfl,hi,hk2,hU,hgr2,hbox2,hok2,hto2,hmt,hmf⟩:=hrel;have Hto2:=Lib.hid hto2;clear hto2;have Hmt:=Lib.hid hmt;clear hmt;have Hmf:=Lib.hid hmf;clear hmf;have Hk2:=Lib.hid hk2;clear hk2;clear b0 b1;by_cases hlt:i<es.length
    ·obtain ⟨b,off,rfl,hb,hc⟩:=hes.edges (by omega);obtain ⟨c0,c1⟩:=hc i hlt;clear hc;have c0':wr.cell? ⟨b,off+i*2,none⟩=some (.int .i64 es[i].1):=(World.cell?_of_block (hgr2.block b (by omega) (by simp;omega))).trans c0;have c1':wr.cell? ⟨b,off+i*2+1,none⟩=some (.int .i64 es[i].2):=(World.cell?_of_block (hgr2.block b (by omega) (by simp;omega))).trans c1;clear c0 c1;obtain ⟨q0,q1,q2,q3⟩:=Hn.out es[i] (List.getElem_mem hlt);obtain ⟨t,ht⟩:=Int.eq_ofNat_of_zero_le q0;obtain ⟨h,hh⟩:=Int.eq_ofNat_of_zero_le q2;rw [ht] at c0' q1;rw [hh] at c1' q3;have Ht:=Lib.hid ht;clear ht q0;have Hh:=Lib.hid hh;clear hh q2;have ut:=(hU.cell t).trans (Gi U R t (by rw [hok2.len,HL.out];omega));have uh:=(hU.cell h).trans (Gi U R h (by rw [hok2.len,HL.out];omega));have hgr0:=hU.lt;have hbr0:=hbox2.lt;have ft:=hU.frozen t;have fh:=hU.frozen h;have hua:=hok2.at_ t;have hud:=hok2.at_ h;have eo:=u64_or_nat _ _ hua hud;have Gm:=Lib.hid (@ip both U t h (by rw [hok2.len,HL.out];omega) (by rw [hok2.len,HL.out];omega) ⟨rfl,hok2.lt⟩ _ _ rfl rfl);have Gs:=Lib.hid (fun hc=>@Qu both cnt es U i t h hlt hc Ht.out Hh.out);have hax:=fH hua hud;generalize ha:U.getD t 0=a at *;generalize hd:U.getD h 0=d at *;clear ha hd hua hud;go_wp2_with fail;refine (Hcl.out i _ (by omega) (by omega) (YK hgr2 _)).mono ?_;rintro e w' ⟨rfl,m0,rfl⟩;rw [show ((i:Int)).toNat=i from rfl]
     cases hci:cnt i with
     | false=>
      have Hci:=Lib.hid hci;clear hci;go_wp2_with fail
      go_roundg (es.length-(i+1))
      case measure=>rw [Hk2.out];omega
      case rel=>
       refine ⟨U,m,i+1,rfl,by go_num,by omega,rfl,(hU.alloc _).drewN _,Kj (YK hgr2 _) _,(hbox2.alloc _).drewN _,hok2,Hto2.out,Hmt.out,fun hm=>⟨(Hmf.out hm).1,fun j hj=>?_⟩⟩;by_cases hji:j=i
       ·subst hji;exact YB Hci.out
       ·exact (Hmf.out hm).2 j (by omega)
     | true=>
      have Hci:=Lib.hid hci;clear hci;go_wp2_with fail
      go_quiet (fail)
      go_upto_if 42 with fail
      go_cut [12] (fun s12 wc=>s12 = .int .u64 ((if both then a ||| d else d:Nat):Int) ∧ ∃kk,wc=(wr.alloc (.cells #[.int .i64 t,.int .i64 h] 66)).drewN kk)
      case first=>
       cases both<;>(go_wp2_with fail)<;>go_meet<;>exact ⟨by simp,m0+nq,(by first | rfl | exact World.drewN_drewN _ _ _)⟩
      obtain ⟨rfl,kk,rfl⟩:=hcut
      have hyx:(if both then a ||| d else d)<18446744073709551616:=by
       have:=Nat.right_le_or (n:=a) (m:=d)
       split<;>omega
      clear eo;generalize (if both then a ||| d else d)=y at *;generalize (a ||| d)=x at *
      go_upto_region 11 with fail
      go_cut [8,11] (fun s8 s11 wc=>s8 = .bool (m||(x != a)||(y != d))∧s11 = .int .u64 (x:Int) ∧ ∃kk,wc=(wr.alloc (.cells #[.int .i64 t,.int .i64 h] 66)).drewN kk)
      case first=>
       cases m<;>(go_wp2_with fail)
       all_goals go_meet
       ·have e:x=a:=by
         have:(x:Int)=a:=by assumption
         omega
        exact ⟨by simp [e,xd],by rw [e],_,rfl⟩
       ·have e:¬x=a:=by
         have:¬(x:Int)=a:=by assumption
         omega
        exact ⟨by simp [e],rfl,_,rfl⟩
       ·exact ⟨by simp,rfl,_,rfl⟩
      obtain ⟨rfl,rfl,kk,rfl⟩:=hcut;generalize hm2:(m||(x != a)||(y != d))=m2 at *;have Hm2:=Lib.hid hm2;clear hm2;obtain ⟨v',hv'⟩:=WI (wr.alloc (.cells #[.int .i64 t,.int .i64 h] 66)) ⟨g,t,none⟩ ⟨g,h,none⟩ (.int .u64 (x:Int)) (.int .u64 (d:Int)) (by rw [World.cell?_alloc_past _ _ _ hgr0];exact uh);go_wp2_with fail
      go_region
      go_wp2_with fail;clear hv' v' ft fh ut uh c0' c1'
      have R1:Blk ((((wr.alloc (.cells #[.int .i64 t,.int .i64 h] 66)).drewN (kk+1)).setCell ⟨g,t,none⟩ (.int .u64 (x:Int))).setCell ⟨g,h,none⟩ (.int .u64 (y:Int))) g 157 (Gy ((U.set t x).set h y)++R):=by
       rw [←aK _ _ _ _ (by simp;rw [hok2.len,HL.out];omega),←aK _ _ _ _ (by rw [hok2.len,HL.out];omega)];exact (((hU.alloc _).drewN _).set_ t _).set_ h _
      go_roundg (es.length-(i+1))
      case measure=>rw [Hk2.out];omega
      case rel=>
       obtain ⟨g1,g2,g3⟩:=Gm.out;have gs:=Gs.out Hci.out
       refine ⟨(U.set t x).set h y,m2,i+1,rfl,by go_num,by omega,rfl,R1,zP (zP (Kj (YK hgr2 _) _) (.inl rfl) _) (.inl rfl) _,
        (((hbox2.alloc _).drewN _).far (by simp;omega) _).far (by simp;omega) _,(hok2.set t x hax).set h y hyx,fun P p0 p1=>by rw [←gs];exact p1 U i hlt (Hto2.out P p0 p1),?_,?_⟩
       ·intro hm;rw [←Hm2.out] at hm
        cases m with
        | true=>exact Nat.lt_of_le_of_lt g1 (Hmt.out (by simp))
        | false=>
         obtain ⟨rfl,_⟩:=Hmf.out (by simp);exact g2 (by simpa using hm)
       ·intro hm;rw [←Hm2.out] at hm;simp only [Bool.or_eq_false_iff,bne_eq_false_iff_eq] at hm;obtain ⟨⟨hm0,hx0⟩,hy0⟩:=hm;obtain ⟨rfl,hj⟩:=Hmf.out hm0;have e:=g3 ⟨hx0,hy0⟩;refine ⟨e,fun j hji=>?_⟩;by_cases hj2:j=i
        ·subst hj2;rw [gs,e]
        ·exact hj j (by omega)
    ·go_wp2_with fail;have hie:i=es.length:=by omega
     go_roundg (GM U+if m then 1 else 0)
     case measure=>
      rw [Hk.out]
      cases m with
      | true=>have:=Hmt.out (by simp);simp;omega
      | false=>rw [(Hmf.out (by simp)).1];simp
     case rel=>
      refine ⟨U,m,rfl,hU,hgr2,hbox2,hok2,Hto2.out,fun hm=>?_,rfl⟩;obtain ⟨rfl,hj⟩:=Hmf.out hm;rw [←hie];exact hj
#print axioms bE
end Go.Proofs.YtneeknlhlkpnpaaGreat
