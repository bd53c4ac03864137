import Derived.Test.YtneeknlhlkpnpaaGreatRows
import Derived.Test.YtneeknlhlkpnpaaGreatZReg
import Derived.ProofKit
import Derived.OpenShut
import Derived.Deep.Slices
import Derived.Deep.Fields
import Derived.ChangeSame
import Derived.Lib.SmallJoins
import Derived.Test.YtneeknlhlkpnpaaGreatZEul
import Derived.Deep.Matrix
import Derived.Test.YtneeknlhlkpnpaaGreatZVw
/-
 From a contract to the row: arguments opened to lists, the law's post. The opening of slices of structs is after the kit's page on structs. Written by an AI agent.
-/
namespace Go.Proofs.YtneeknlhlkpnpaaGreat
open Go.ChangeShapes Go.WideShapes Go.ChangeAt Go.RowKit Go.Deep Go.Joins
theorem own:ownKnob Tryz.prog.godebug=none:=by kernel_rfl
theorem rJ:laidOutB Tryz.prog=true:=by kernel_rfl
section
variable {H:Type}{enc:TypeId×Value→H}{P:Program}{w:World}{base:Nat}{spare:Nat→Bool}{held:Bool}
theorem ZO{t e:TypeId}{fs:Array Field}{fuel:Nat}{cs:List Value}{x:DataW H×List MemPlace}(ht:P.underlying t=some (.slice e))(he:P.underlying e=some (.struct fs))
  (hone:oneCellFields P fs=true) (hC:P.cellsOf e=fs.size) (h:DataW.trod enc P w base spare held fuel t cs=some x) :
  (cs=[.slice none 0 0]∧x=(.nil,[])) ∨
  ∃(a:Addr) (len cap m:Nat) (D:Nat→DataW H) (Pl:Nat→List MemPlace),cs=[.slice (some a) len cap]∧base≤a.block∧len≤cap∧cap≤maxLen∧m=(if spare a.block then cap else len) ∧
   x=(.slice ((List.range len).map D) ((List.range (m-len)).map fun j=>D (len+j)),MemPlace.row a (m*fs.size)++(List.range m).flatMap Pl) ∧
   ∀i,i<m → ∃(ys:List (DataW H×List MemPlace)) (n:Nat),D i = .agg (ys.map (·.1))∧Pl i=ys.flatMap (·.2)∧ys.length=fs.size ∧
    ∀(j:Nat) (f:Field),fs[j]? = some f → ∃(v:Value) (y:DataW H×List MemPlace),w.cell? (a.add (i*fs.size+j))=some v∧ys[j]? = some y∧DataW.trod enc P w base spare held n f.type [v]=some y:=by
 rcases open_slice ht h with h0 | ⟨a,len,cap,m,n,D,Pl,hcs,hb,hl,hm,hmm,hx,hi⟩
 ·exact .inl h0
 ·refine .inr ⟨a,len,cap,m,D,Pl,hcs,hb,hl,hm,hmm,by rw [hC] at hx;exact hx,fun i him=>?_⟩;obtain ⟨cs',hc,ht'⟩:=hi i him;rw [hC] at hc;obtain ⟨ys,n',hn',hy,hlen,hyl,hf⟩:=DataW.trod_struct he ht';obtain ⟨_,hcl,hat⟩:=World.cells?_some hc;simp only [Prod.mk.injEq] at hy;refine ⟨ys,n',hy.1,hy.2,hyl,fun j f hj=>?_⟩;obtain ⟨ho,hk⟩:=hone_of hone j f hj;have hjl:j<fs.size:=(Array.getElem?_eq_some_iff.1 hj).1;have hcell:=hat j hjl;have hv:cs'[j]? = some (cs'[j]'(by omega)):=List.getElem?_eq_getElem (by omega);have h1:=hf j f hj;rw [ho,hk] at h1
  have hone':(cs'.drop j).take 1=[cs'[j]'(by omega)]:=by
   rw [List.drop_eq_getElem_cons (by omega)];rfl
  rw [hone'] at h1;have hys:ys[j]? = some (ys[j]'(by omega)):=List.getElem?_eq_getElem (by omega);refine ⟨_,_,?_,hys,h1.trans hys⟩;rw [←Go.Deep.add_add,hcell,hv]
end
section
variable {H:Type}{enc:TypeId×Value→H}{W W':World}
theorem YV{P:Program}(hl:laidOutB P=true)(hb:Below W.heap.size W W'):∀ {ts:List TypeId} {vs:List Value} {ds:List (DataW H)} {ps:List MemPlace},(∀t∈ts,P.readableRec t=true∧t<P.types.size) →
  DataW.TrodAll enc P W 0 (fun _=>true) true ts vs ds ps→(∀x∈ps,x.block<W.heap.size)→DataW.TrodAll enc P W' 0 (fun b=>decide (b<W.heap.size)) true ts vs ds ps
 | [],vs,ds,ps,_,h,_=>by
  obtain ⟨rfl,rfl,rfl⟩:=trodAll_nil h;exact trodAll_mk0
 | t::ts,vs,ds,ps,ht,h,hp=>by
  obtain ⟨v,vs',d,ds',p,q,rfl,rfl,rfl,h1,h2⟩:=trodAll_cons h;obtain ⟨hr,hrow⟩:=ht t (List.mem_cons_self ..);exact trodAll_cons_mk (Below.trod hl hr hrow h1 hb fun x hx=>hp x (List.mem_append_left _ hx)) (YV hl hb (fun t' h'=>ht t' (List.mem_cons_of_mem _ h')) h2 fun x hx=>hp x (List.mem_append_right _ hx))
set_option maxRecDepth 100000 in
/-- a law's post, where it returned true and nothing that was there has turned -/
theorem nU{P:Program}{f:Func}{s:ChangeSpec}{args:Array Value}{ds:List (DataW H)}{before:List MemPlace}{T:TypeId}(hl:laidOutB P=true)
  (hts:f.params.toList.all (fun t=>P.readableRec t&&decide (t<P.types.size))=true) (hvars:s.vars=[])
  (hW:DataW.Whole enc P f.params.toList s.vars false W args.toList ds [] before) (hfn:s.fn H (ds++[]) = { results:=[.lit (.bool true)],args:=ds })
  (hrt:f.resultTypes = #[T]) (hT:P.underlying T=some .bool) (hb:Below W.heap.size W W'):s.post enc P f false true false false W args (.bool true) W':=by
 have hW':=hW;obtain ⟨p,q,hA,hV,rfl,_,_⟩:=hW;have hlt:∀x∈p,x.block<W.heap.size:=fun x hx=>hW'.lt x (List.mem_append_left _ hx);refine ⟨_,_,_,[],p,[],hW',?_,?_,?_,hb.frame _,fun h=>by cases h⟩
 ·rw [hfn,hrt];exact trodAll_mk1 (shut_bool hT true)
 ·rw [hfn];exact YV hl hb (fun t ht=>by simpa using List.all_eq_true.1 hts t ht) hA hlt
 ·rw [hfn,hvars];rfl
end
end Go.Proofs.YtneeknlhlkpnpaaGreat
/-
 From a contract to the row: lists of lists that came in. Written by an AI agent.
-/
namespace Go.Proofs.YtneeknlhlkpnpaaGreat
open Go.ChangeShapes Go.WideShapes Go.ChangeAt Go.RowKit Go.Deep Go.Joins
section
variable {H:Type}{enc:TypeId×Value→H}{W:World}
theorem GT{a:Addr}{v:Value}(h:W.cell? (a.add 0)=some v):∃b off,a=⟨b,off,none⟩∧b<W.heap.size ∧ ∀j,a.add j=⟨b,off+j,none⟩:=by
 obtain ⟨b,off,spot⟩:=a;have hspot:spot=none:=by simpa [Addr.add] using World.cell?_spot h
 subst hspot;have hadd:∀k,(⟨b,off,none⟩:Addr).add k=⟨b,off+k,none⟩:=fun k=>by unfold Addr.add;split<;>simp_all
 rw [hadd] at h;exact ⟨b,off,rfl,World.block_lt_of_cell? W _ h,hadd⟩
end
end Go.Proofs.YtneeknlhlkpnpaaGreat
/-
 A graph that came in, with its capacity. Written by an AI agent.
-/
namespace Go.Proofs.YtneeknlhlkpnpaaGreat
open Go.ChangeShapes Go.WideShapes Go.ChangeAt Go.RowKit Go.Deep Go.Joins
section
variable {H:Type}{enc:TypeId×Value→H}{W W':World}
set_option maxRecDepth 100000 in
/-- a graph that came in -/
theorem cr{v:Value}{d:DataW H}{p:List MemPlace}{b:Nat}(hv:Value.okWide Tryz.prog W .any b 24 v)(h:DataW.Trod enc Tryz.prog W 0 (fun _=>true) true 24 v d p)(hlt:∀x∈p,x.block<W.heap.size) :
  ∃(n:Int) (A:Option Addr) (cap:Nat) (es:List (Int×Int)),v = .agg #[.int .i64 n,.slice A es.length cap]∧jr W W.heap.size A (jD es)∧(Lit.int .i64 n).wf=true∧es.length≤maxLen∧es.length≤cap:=by
 obtain ⟨c0,c1,y0,y1,m,rfl,rfl,rfl,hy0,hy1⟩:=open_agg2 Tryz.underlying24 (by kernel_rfl) (by kernel_rfl) hv h;obtain ⟨n,e0,rfl,wn⟩:=DataW.trod_int Tryz.underlying3 hy0;simp at e0;subst e0;rcases ZO Tryz.underlying22 Tryz.underlying66 (by kernel_rfl) (by kernel_rfl) hy1 with ⟨e1,rfl⟩ | ⟨a,len,cap,m',D,Pl,e1,_,hl,hm,hmm,rfl,hi⟩
 ·simp at e1;subst e1;exact ⟨n,none,0,[],rfl,jr.nil,wn,Nat.zero_le _,Nat.le_refl _⟩
 ·simp at e1;subst e1;simp only [if_true] at hmm;subst hmm
  let z (k:Nat):Int:=match W.cell? (a.add k) with | some (.int _ z)=>z | _=>0
  have hz:∀i,i<len→W.cell? (a.add (i*2))=some (.int .i64 (z (i*2)))∧W.cell? (a.add (i*2+1))=some (.int .i64 (z (i*2+1))):=by
   intro i hil;obtain ⟨ys,k,_,_,_,hf⟩:=hi i (by omega);obtain ⟨v0,y0,hc0,_,ht0⟩:=hf 0 _ rfl;obtain ⟨v1,y1,hc1,_,ht1⟩:=hf 1 _ rfl;obtain ⟨z0,e0,_,_⟩:=DataW.trod_int Tryz.underlying3 ht0;obtain ⟨z1,e1,_,_⟩:=DataW.trod_int Tryz.underlying3 ht1;simp at e0 e1;subst e0 e1;have h0:W.cell? (a.add (i*2))=some (.int .i64 z0):=hc0;have h1:W.cell? (a.add (i*2+1))=some (.int .i64 z1):=hc1;refine ⟨?_,?_⟩
   ·rw [h0];simp only [z,h0]
   ·rw [h1];simp only [z,h1]
  have hel:((List.range len).map fun i=>(z (i*2),z (i*2+1))).length=len:=by simp
  refine ⟨n,some a,_,(List.range len).map fun i=>(z (i*2),z (i*2+1)),by rw [hel],fun hpos=>?_,wn,by rw [hel];omega,by rw [hel];exact hl⟩;rw [xj,hel] at hpos;obtain ⟨b,off,spot⟩:=a
  have hspot:spot=none:=by
   have:=(hz 0 (by omega)).1;simpa [Addr.add] using World.cell?_spot this
  subst hspot;have hadd:∀k,(⟨b,off,none⟩:Addr).add k=⟨b,off+k,none⟩:=fun k=>by unfold Addr.add;split<;>simp_all
  have hbl:b<W.heap.size:=by
   have:=(hz 0 (by omega)).1;rw [hadd] at this;exact World.block_lt_of_cell? W _ this
  refine ⟨b,off,rfl,hbl,fun j u hj=>?_⟩
  have hjl:j<2*len:=by
   have:=(List.getElem?_eq_some_iff.1 hj).1;rw [xj,hel] at this;exact this
  have key:=ZX ((List.range len).map fun i=>(z (i*2),z (i*2+1))) (j/2) (by rw [hel];omega);obtain ⟨k0,k1⟩:=key;have hzj:=hz (j/2) (by omega);rw [hadd,hadd] at hzj;rcases Nat.mod_two_eq_zero_or_one j with h2 | h2
  ·have ej:2*(j/2)=j:=by omega
   rw [ej] at k0;rw [k0] at hj;injection hj with hj;subst hj;have:=hzj.1;rw [Nat.mul_comm,ej] at this;rw [this];simp only [List.getElem_map,List.getElem_range,Nat.mul_comm (j/2) 2,ej]
  ·have ej:2*(j/2)+1=j:=by omega
   rw [ej] at k1;rw [k1] at hj;injection hj with hj;subst hj;have:=hzj.2;rw [Nat.mul_comm,ej] at this;rw [this];simp only [List.getElem_map,List.getElem_range,Nat.mul_comm (j/2) 2,ej]
end
end Go.Proofs.YtneeknlhlkpnpaaGreat
/-
 From a contract to the row: lists of numbers, and plans, that came in. Written by an AI agent.
-/
namespace Go.Proofs.YtneeknlhlkpnpaaGreat
open Go.ChangeShapes Go.WideShapes Go.ChangeAt Go.RowKit Go.Deep Go.Joins
section
variable {H:Type}{enc:TypeId×Value→H}{W:World}
set_option maxRecDepth 100000 in
theorem mg{fuel:Nat}{c:Value}{y:DataW H×List MemPlace}(hf:DataW.trod enc Tryz.prog W 0 (fun _=>true) true fuel 25 [c]=some y) :
  ∃(A:Option Addr) (cap:Nat) (l:List Int),c = .slice A l.length cap∧jr W W.heap.size A (jf l):=by
 rcases open_ints Tryz.underlying25 Tryz.underlying3 (by kernel_rfl) hf with ⟨e1,_⟩ | ⟨a,len,cap,zs,e1,_,hl,_,hz,hx,hc,_⟩
 ·simp at e1;subst e1;exact ⟨none,0,[],rfl,jr.nil⟩
 ·simp at e1;subst e1;simp only [if_true] at hz;have hzl:(zs.take len).length=len:=by simp;omega
  refine ⟨some a,cap,zs.take len,by rw [hzl],fun hp=>?_⟩;have hp:0<len:=by simp [jf] at hp;omega
  obtain ⟨b,off,spot⟩:=a;have h0:=hc 0 (by omega);have hspot:spot=none:=by simpa [Addr.add] using World.cell?_spot h0
  subst hspot;have hadd:∀k,(⟨b,off,none⟩:Addr).add k=⟨b,off+k,none⟩:=fun k=>by unfold Addr.add;split<;>simp_all
  rw [hadd] at h0;refine ⟨b,off,rfl,World.block_lt_of_cell? W _ h0,fun j u hj=>?_⟩;simp only [jf,List.getElem?_map,Option.map_eq_some_iff] at hj;obtain ⟨z,hz',rfl⟩:=hj;rw [List.getElem?_take] at hz'
  split at hz'
  ·have:=hc j (by omega);rw [hadd] at this;rw [this,List.getD_eq_getElem?_getD,hz'];rfl
  ·cases hz'
set_option maxRecDepth 100000 in
theorem lz{fuel:Nat}{c:Value}{y:DataW H×List MemPlace}(hf:DataW.trod enc Tryz.prog W 0 (fun _=>true) true fuel 26 [c]=some y) :
  ∃(A:Option Addr) (cap:Nat) (rs:List (List Int)),c = .slice A rs.length cap∧xe W W.heap.size A rs:=by
 rcases open_int_rows Tryz.underlying26 Tryz.underlying25 Tryz.underlying3 (by kernel_rfl) (by kernel_rfl) hf with ⟨e1,_⟩ | ⟨a,len,cap,A,L,C,Z,e1,_,hl,hm,_,hr⟩
 ·simp at e1;subst e1;exact ⟨none,0,[],rfl,fun h=>absurd h (by simp)⟩
 ·simp at e1;subst e1;have hlen:((List.range len).map fun r=>(Z r).take (L r)).length=len:=by simp
  refine ⟨some a,cap,(List.range len).map fun r=>(Z r).take (L r),by rw [hlen],fun hp=>?_⟩;rw [hlen] at hp;obtain ⟨b,off,rfl,hb,hadd⟩:=GT (hr 0 (by omega)).1;refine ⟨b,off,rfl,hb,fun i hi=>?_⟩;rw [hlen] at hi;obtain ⟨h1,h2,h3,h4,_,h6,h7⟩:=hr i (by omega);rw [hadd] at h1;have hil:(((List.range len).map fun r=>(Z r).take (L r))[i]'(by rw [hlen];exact hi))=(Z i).take (L i):=by simp
  have hl2:((Z i).take (L i)).length=L i:=by simp;omega
  refine ⟨A i,C i,by rw [hil,hl2];exact h1,?_,by rw [hil,hl2];exact h2⟩;rw [hil];intro hp2;have hp2:0<L i:=by simp [jf] at hp2;omega
  cases hA:A i with
  | none=>rw [h6 hA] at h2;omega
  | some a'=>
   obtain ⟨_,hc⟩:=h7 a' hA;obtain ⟨b',off',rfl,hb',hadd'⟩:=GT (hc 0 (by omega));refine ⟨b',off',rfl,hb',fun j u hj=>?_⟩;simp only [jf,List.getElem?_map,Option.map_eq_some_iff] at hj;obtain ⟨z,hz',rfl⟩:=hj;rw [List.getElem?_take] at hz'
   split at hz'
   ·have:=hc j (by omega);rw [hadd'] at this;rw [this,List.getD_eq_getElem?_getD,hz'];rfl
   ·cases hz'
set_option maxRecDepth 100000 in
/-- a plan that came in -/
theorem lV{v:Value}{d:DataW H}{p:List MemPlace}{b0:Nat}(hv:Value.okWide Tryz.prog W .any b0 28 v)(h:DataW.Trod enc Tryz.prog W 0 (fun _=>true) true 28 v d p) :
  ∃(O U:Option Addr) (co cu:Nat) (ord:List Int) (outs:List (List Int)),v = .agg #[.slice O ord.length co,.slice U outs.length cu]∧jr W W.heap.size O (jf ord)∧xe W W.heap.size U outs:=by
 obtain ⟨c0,c1,y0,y1,m,rfl,rfl,rfl,hy0,hy1⟩:=open_agg2 Tryz.underlying28 (by kernel_rfl) (by kernel_rfl) hv h;obtain ⟨O,co,ord,rfl,hO⟩:=mg hy0;obtain ⟨U,cu,outs,rfl,hU⟩:=lz hy1;exact ⟨O,U,co,cu,ord,outs,rfl,hO,hU⟩
end
end Go.Proofs.YtneeknlhlkpnpaaGreat
/-
 Angles of a rotation: kinds, faces; in each face as many are Low as are High (plain law). Written by an AI agent.
-/
namespace Go.Proofs.YtneeknlhlkpnpaaGreat
open Go.RowKit
theorem xZ{α : Type}{l:List α}(h:l.Nodup){i j:Nat}(hi:i<l.length)(hj:j<l.length)(e:l[i]=l[j]):i=j:=by
 rcases Nat.lt_trichotomy i j with h1 | h1 | h1
 ·exact absurd e (List.pairwise_iff_getElem.1 h i j hi hj h1)
 ·exact h1
 ·exact absurd e.symm (List.pairwise_iff_getElem.1 h j i hj hi h1)
def Qq(a b:Nat):Nat:=if a%2=0∧b%2=0 then 1 else if a%2=1∧b%2=1 then 2 else 0
/-- the last one of the first k faces that has h -/
def xT(F:List (List Int)):Nat→Int→Nat
 | 0,_=>0
 | k+1,h=>if (F.getD k []).contains h then k else xT F k h
def zt(es:List (Int×Int))(rs:List (List Int))(h:Nat):Nat:=Qq h (sig es rs h)
def jT(n:Int)(es:List (Int×Int))(rs:List (List Int))(h:Nat):Nat:=xT (jo n es rs) (jo n es rs).length ((ot h:Nat):Int)
theorem Uo{F:List (List Int)}{h:Int}:∀k,(∃f,f<k∧h∈F.getD f [])→xT F k h<k∧h∈F.getD (xT F k h) []
 | 0,⟨f,hf,_⟩=>absurd hf (Nat.not_lt_zero _)
 | k+1,⟨f,hf,hm⟩=>by
  unfold xT;by_cases hk:h∈F.getD k []
  ·rw [if_pos (by simpa using hk)];exact ⟨by omega,hk⟩
  ·rw [if_neg (by simpa using hk)];have:f≠k:=fun e=>hk (e▸hm);obtain ⟨h1,h2⟩:=Uo k ⟨f,by omega,hm⟩;exact ⟨by omega,h2⟩
theorem KA{N:Nat}{f:Nat→Nat}(hf:Perm N f){h:Nat}(hh:h<N)(x:Nat):(x:Int)∈uB f h↔Orb f h x:=by
 unfold uB;rw [List.mem_map,aM hf hh];constructor
 ·rintro ⟨i,hi,e⟩;exact ⟨i,List.mem_range.1 hi,by omega⟩
 ·rintro ⟨i,hi,e⟩;exact ⟨i,List.mem_range.2 hi,by rw [e]⟩
theorem Yb(f:Nat→Nat)(N:Nat){i:Nat}(hi:i<(yr f N).length):∃h,h<N∧kB f h=true∧(yr f N).getD i []=uB f h∧((List.range N).filter (kB f))[i]? = some h:=by
 unfold yr at hi ⊢;rw [List.length_map] at hi;have hm:=List.getElem_mem hi;rw [List.mem_filter,List.mem_range] at hm;refine ⟨_,hm.1,hm.2,?_,List.getElem?_eq_getElem hi⟩;rw [List.getD_eq_getElem?_getD,List.getElem?_map,List.getElem?_eq_getElem hi];rfl
section
variable {n:Int}{es:List (Int×Int)}{rs:List (List Int)}
theorem dW(hR:RightP n es rs){h:Nat}(hh:h<2*es.length):∃f,f<(jo n es rs).length∧(h:Int)∈(jo n es rs).getD f []:=by
 have hP:=vG hR;obtain ⟨m,hm,hmo,hml⟩:=xl (P:=fun k=>Orb (nxf es rs) k h) (Orb.refl _ h)
 have hb:kB (nxf es rs) m=true:=by
  unfold kB;rw [jt];intro j hj ho;exact hml j hj (ho.trans hmo)
 rw [vO hR];have hmem:uB (nxf es rs) m∈yr (nxf es rs) (2*es.length):=List.mem_map.2 ⟨m,List.mem_filter.2 ⟨List.mem_range.2 (by omega),hb⟩,rfl⟩;obtain ⟨f,hf,e⟩:=List.getElem_of_mem hmem;refine ⟨f,hf,?_⟩;rw [List.getD_eq_getElem?_getD,List.getElem?_eq_getElem hf]
 show (h:Int)∈(yr (nxf es rs) (2*es.length))[f]
 rw [e,KA hP (by omega)];exact hmo
theorem oz(hR:RightP n es rs){h f g:Nat}(hf:f<(jo n es rs).length)(hg:g<(jo n es rs).length)(h1:(h:Int)∈(jo n es rs).getD f [])(h2:(h:Int)∈(jo n es rs).getD g []):f=g:=by
 have hP:=vG hR;rw [vO hR] at hf hg h1 h2;obtain ⟨a,ha,hla,ea,eia⟩:=Yb _ _ hf;obtain ⟨b,hb,hlb,eb,eib⟩:=Yb _ _ hg;rw [ea,KA hP ha] at h1;rw [eb,KA hP hb] at h2
 have hab:a=b:=by
  unfold kB at hla hlb;rw [jt] at hla hlb;have o1:=h1.trans (h2.symm hP hb);have o2:=h2.trans (h1.symm hP ha);rcases Nat.lt_trichotomy a b with h | h | h
  ·exact absurd o1 (hlb a h)
  ·exact h
  ·exact absurd o2 (hla b h)
 subst hab;have hnd:((List.range (2*es.length)).filter (kB (nxf es rs))).Nodup:=List.nodup_range.filter _;obtain ⟨hfl,ef⟩:=List.getElem?_eq_some_iff.1 eia;obtain ⟨hgl,eg⟩:=List.getElem?_eq_some_iff.1 eib;exact xZ hnd hfl hgl (ef.trans eg.symm)
theorem dU(hR:RightP n es rs){f:Nat}{z:Int}(h:z∈(jo n es rs).getD f []):∃k:Nat,z=k∧k<2*es.length:=by
 have hP:=vG hR;rw [vO hR] at h;rcases Nat.lt_or_ge f (yr (nxf es rs) (2*es.length)).length with hf | hf
 ·obtain ⟨a,ha,_,ea,_⟩:=Yb _ _ hf;rw [ea] at h;unfold uB at h;obtain ⟨i,_,rfl⟩:=List.mem_map.1 h;exact ⟨_,rfl,hP.iter_lt i ha⟩
 ·rw [List.getD_eq_getElem?_getD,List.getElem?_eq_none hf] at h
  cases h
theorem yh(hR:RightP n es rs){h:Nat}(hh:h<2*es.length):jT n es rs h<(jo n es rs).length∧((ot h:Nat):Int)∈(jo n es rs).getD (jT n es rs h) []:=
 Uo _ (dW hR (vA hh))
theorem eC(hR:RightP n es rs){h f:Nat}(hh:h<2*es.length)(hf:f<(jo n es rs).length):jT n es rs h=f↔((ot h:Nat):Int)∈(jo n es rs).getD f []:=by
 obtain ⟨h1,h2⟩:=yh hR hh;exact ⟨fun e=>e▸h2,fun h3=>oz hR h1 hf h2 h3⟩
theorem sD(k:Nat):sig es rs (ot k)=nxf es rs k:=by unfold sig;rw [kI]
end
/-- a permutation counts the same -/
theorem Gc{N:Nat}{f:Nat→Nat}(hf:Perm N f){x:Nat}(hx:x<N):∃y,y<N∧f y=x:=by
 obtain ⟨p,hp,_,e⟩:=hf.period hx;refine ⟨qL f (p-1) x,hf.iter_lt _ hx,?_⟩;rw [←ul f,show p-1+1=p by omega];exact e
theorem Uc{N:Nat}{f:Nat→Nat}(hf:Perm N f)(q:Nat→Bool):(List.range N).countP (fun k=>q (f k))=(List.range N).countP q:=by
 have hp:((List.range N).map f).Perm (List.range N):=by
  rw [List.perm_ext_iff_of_nodup]
  ·intro a;rw [List.mem_map,List.mem_range];constructor
   ·rintro ⟨k,hk,rfl⟩;exact hf.lt k (List.mem_range.1 hk)
   ·intro ha;obtain ⟨y,hy,e⟩:=Gc hf ha;exact ⟨y,List.mem_range.2 hy,e⟩
  ·unfold List.Nodup;rw [List.pairwise_map];refine List.Pairwise.imp_of_mem (fun {a b} ha hb hab e=>?_) List.pairwise_lt_range;have:=hf.inj a b (List.mem_range.1 ha) (List.mem_range.1 hb) e;omega
  ·exact List.nodup_range
 have:=hp.countP_eq q;rw [List.countP_map] at this;exact this
theorem jP{N:Nat}{p q:Nat→Bool}(h:∀k,k<N→p k=q k):(List.range N).countP p=(List.range N).countP q:=
 List.countP_congr fun k hk=>by rw [h k (List.mem_range.1 hk)]
/-- along a permutation as many steps go up as go down, in a set that is closed -/
theorem pR{N:Nat}{f:Nat→Nat}(hf:Perm N f){P q:Nat→Bool}(hP:∀k,k<N→P (f k)=P k) :
  (List.range N).countP (fun k=>P k&&(!q k&&q (f k)))=(List.range N).countP (fun k=>P k&&(q k && !q (f k))):=by
 have h1:(List.range N).countP (fun k=>P k&&q (f k))=(List.range N).countP (fun k=>P k&&q k):=by
  rw [←Uc hf (fun k=>P k&&q k)];exact jP fun k hk=>by rw [hP k hk]
 have h2:=qy (List.range N) (fun k=>P k&&q (f k)) q;have h3:=qy (List.range N) (fun k=>P k&&q k) (fun k=>q (f k));have e1:(List.range N).countP (fun k=>P k&&q (f k)&&q k)=(List.range N).countP (fun k=>P k&&q k&&q (f k)):=jP fun k _=>by cases P k<;>cases q k<;>cases q (f k)<;>rfl
 have e2:(List.range N).countP (fun k=>P k&&(!q k&&q (f k)))=(List.range N).countP (fun k=>P k&&q (f k) && !q k):=jP fun k _=>by cases P k<;>cases q k<;>cases q (f k)<;>rfl
 have e3:(List.range N).countP (fun k=>P k&&(q k && !q (f k)))=(List.range N).countP (fun k=>P k&&q k && !q (f k)):=jP fun k _=>by cases P k<;>cases q k<;>cases q (f k)<;>rfl
 omega
def ev(k:Nat):Bool:=decide (k%2=0)
theorem vM(a b:Nat):Qq a b=2↔ev a=false∧ev b=false:=by
 unfold Qq ev;rcases Nat.mod_two_eq_zero_or_one a with ha | ha<;>rcases Nat.mod_two_eq_zero_or_one b with hb | hb<;>simp [ha,hb]
section
variable {n:Int}{es:List (Int×Int)}{rs:List (List Int)}
end
end Go.Proofs.YtneeknlhlkpnpaaGreat
/-
 Angles at vertices: how many are High, of a bimodal rotation (plain law). Written by an AI agent.
-/
namespace Go.Proofs.YtneeknlhlkpnpaaGreat
open Go.RowKit
theorem YH{v c:Nat}:∀M:Nat,((List.range M).map fun x=>if v=x then c else 0).sum=if v<M then c else 0
 | 0=>by simp
 | M+1=>by
  rw [List.range_succ,List.map_append,List.sum_append,YH M];simp only [List.map_cons,List.map_nil,List.sum_cons,List.sum_nil,Nat.add_zero];by_cases h:v=M
  ·subst h;simp
  ·by_cases h2:v<M
   ·rw [if_pos h2,if_neg h,if_pos (by omega)];rfl
   ·rw [if_neg h2,if_neg h,if_neg (by omega)]
theorem ub(f g:Nat→Nat):∀M:Nat,((List.range M).map fun x=>f x+g x).sum=((List.range M).map f).sum+((List.range M).map g).sum
 | 0=>by simp
 | M+1=>by
  rw [List.range_succ,List.map_append,List.sum_append,List.map_append,List.sum_append,List.map_append,List.sum_append,ub f g M];simp only [List.map_cons,List.map_nil,List.sum_cons,List.sum_nil,Nat.add_zero];omega
theorem zg{f g:Nat→Nat}{M:Nat}(h:∀x,x<M→f x=g x):((List.range M).map f).sum=((List.range M).map g).sum:=by
 congr 1;exact List.map_congr_left fun x hx=>h x (List.mem_range.1 hx)
theorem vY(p:Nat→Bool):∀M:Nat,((List.range M).map fun x=>if p x=true then 1 else 0).sum=(List.range M).countP p
 | 0=>by simp
 | M+1=>by
  rw [List.range_succ,List.map_append,List.sum_append,vY p M,List.countP_append];by_cases h:p M=true<;>simp [h]
/-- what is counted, counted by its values -/
theorem zU{v:Nat→Nat}{M:Nat}(p:Nat→Bool):∀N:Nat,(∀k,k<N→v k<M)→(List.range N).countP p=((List.range M).map fun x=>(List.range N).countP fun k=>decide (v k=x)&&p k).sum
 | 0,_=>by
  have:((List.range M).map fun x=>(List.range 0).countP fun k=>decide (v k=x)&&p k)=(List.range M).map fun _=>0:=by simp
  rw [this]
  have h0:∀M:Nat,((List.range M).map fun _=>0).sum=0:=fun M=>by
   have:=YH (v:=0) (c:=0) M;simpa using this
  rw [h0];rfl
 | N+1,h=>by
  have ih:=zU (v:=v) (M:=M) p N (fun k hk=>h k (by omega));rw [List.range_succ,List.countP_append,ih]
  have e:((List.range M).map fun x=>(List.range N++[N]).countP fun k=>decide (v k=x)&&p k).sum=((List.range M).map fun x=>((List.range N).countP fun k=>decide (v k=x)&&p k)+if v N=x then (if p N=true then 1 else 0) else 0).sum:=by
   refine zg fun x _=>?_;rw [List.countP_append];congr 1;by_cases h1:v N=x
   ·by_cases h2:p N=true<;>simp [h1,h2]
   ·simp [h1]
  rw [e,ub,YH,if_pos (h N (by omega))];congr 1;by_cases h2:p N=true<;>simp [h2]
theorem GJ:∀m:Nat,(List.range (2*m)).countP (fun k=>!ev k)=m
 | 0=>rfl
 | m+1=>by
  rw [show 2*(m+1)=2*m+1+1 by omega,List.range_succ,List.range_succ,List.countP_append,List.countP_append,GJ m];have h1:ev (2*m)=true:=by unfold ev;simp
  have h2:ev (2*m+1)=false:=by unfold ev;simp
  simp [h1,h2]
section
variable {n:Int}{es:List (Int×Int)}{rs:List (List Int)}
/-- half edges at a vertex, of a parity, are there any? -/
def zI(es:List (Int×Int))(x:Nat):Prop:=∃k,k<2*es.length∧vtx es k=x∧ev k=false
def qe(es:List (Int×Int))(x:Nat):Prop:=∃k,k<2*es.length∧vtx es k=x∧ev k=true
/-- how often an edge that ends at a vertex stands ahead of one that begins -/
def Je(es:List (Int×Int))(rs:List (List Int))(x:Nat):Nat:=(List.range (2*es.length)).countP fun k=>decide (vtx es k=x)&&(!ev k&&ev (sig es rs k))
theorem eS(hR:RightP n es rs)(x:Nat){k:Nat}(hk:k<2*es.length):decide (vtx es (sig es rs k)=x)=decide (vtx es k=x):=by rw [(qS hR hk).2]
theorem iZ(hR:RightP n es rs)(x:Nat):(List.range (2*es.length)).countP (fun k=>decide (vtx es k=x)&&(ev k && !ev (sig es rs k)))=Je es rs x:=
 (pR (uI hR) (P:=fun k=>decide (vtx es k=x)) (q:=ev) (fun _k hk=>eS hR x hk)).symm
/-- Plain angles at a vertex -/
def YB(es:List (Int×Int))(rs:List (List Int))(x:Nat):Nat:=(List.range (2*es.length)).countP fun k=>decide (vtx es k=x)&&decide (zt es rs k=0)
theorem QV(a b:Nat):Qq a b=0↔ev a≠ev b:=by
 unfold Qq ev;have ha:=Nat.mod_two_eq_zero_or_one a;have hb:=Nat.mod_two_eq_zero_or_one b;rcases ha with ha | ha<;>rcases hb with hb | hb<;>simp [ha,hb]
theorem Xg(hR:RightP n es rs)(x:Nat):YB es rs x=2*Je es rs x:=by
 have h1:=iZ hR x;have h2:=qy (List.range (2*es.length)) (fun k=>decide (vtx es k=x)&&decide (zt es rs k=0)) ev
 have e1:(List.range (2*es.length)).countP (fun k=>decide (vtx es k=x)&&decide (zt es rs k=0)&&ev k)=(List.range (2*es.length)).countP (fun k=>decide (vtx es k=x)&&(ev k && !ev (sig es rs k))):=jP fun k _=>by
  unfold zt;rw [Bool.eq_iff_iff];simp only [Bool.and_eq_true,decide_eq_true_eq,QV]
  cases ev k<;>cases ev (sig es rs k)<;>simp
 have e2:(List.range (2*es.length)).countP (fun k=>decide (vtx es k=x)&&decide (zt es rs k=0) && !ev k)=Je es rs x:=jP fun k _=>by
  unfold zt;rw [Bool.eq_iff_iff];simp only [Bool.and_eq_true,decide_eq_true_eq,QV]
  cases ev k<;>cases ev (sig es rs k)<;>simp
 unfold YB;omega
theorem UB(hR:RightP n es rs)(x:Nat):0<Je es rs x↔zI es x∧qe es x:=by
 unfold Je;rw [List.countP_pos_iff];constructor
 ·rintro ⟨k,hk,h⟩;rw [List.mem_range] at hk;simp only [Bool.and_eq_true,decide_eq_true_eq,Bool.not_eq_true'] at h;obtain ⟨h1,h2,h3⟩:=h;obtain ⟨h4,h5⟩:=qS hR hk;exact ⟨⟨k,hk,h1,h2⟩,⟨_,h4,h5.trans h1,h3⟩⟩
 ·rintro ⟨⟨a,ha,hax,hao⟩,b,hb,hbx,hbe⟩;apply Classical.byContradiction;intro hno;obtain ⟨i,hi⟩:=(kE hR ha hb).2 (hax.trans hbx.symm)
  have key:∀i,vtx es (qL (sig es rs) i a)=x∧qL (sig es rs) i a<2*es.length∧ev (qL (sig es rs) i a)=false:=fun i=>by
   induction i with
   | zero=>exact ⟨hax,ha,hao⟩
   | succ i ih=>
    rw [ul];obtain ⟨h1,h2,h3⟩:=ih;obtain ⟨h4,h5⟩:=qS hR h2;refine ⟨h5.trans h1,h4,?_⟩
    cases hh:ev (sig es rs (qL (sig es rs) i a)) with
    | false=>rfl
    | true=>exact absurd ⟨_,List.mem_range.2 h2,by simp [h1,h3,hh]⟩ hno
  have:=(key i).2.2;rw [hi,hbe] at this
  cases this
noncomputable def iU(es:List (Int×Int))(N:Nat):Nat:=(List.range N).countP fun x=>tst (zI es x∧qe es x)
end
end Go.Proofs.YtneeknlhlkpnpaaGreat
/-
 Great angles: trying all choices, and settling one vertex after the other, come to one (plain law). Written by an AI agent.
-/
namespace Go.Proofs.YtneeknlhlkpnpaaGreat
open Go.RowKit
/-- great angles that fit: each end has one of its own, each face as many as it must -/
def pE(V Fc:Nat→Nat)(M:Nat)(E:List Nat)(rm:List Int):Prop:=
 ∃g:Nat→Nat,(∀x∈E,g x<M∧V (g x)=x) ∧ ∀f,f<rm.length→rm.getD f 0=(E.countP (fun x=>decide (Fc (g x)=f)):Nat)
/-- the reference's Try -/
def pD(V Fc:Nat→Nat)(M:Nat):List Nat→List Int→Bool
 | [],rm=>rm.all fun n=>decide (n=0)
 | x::E,rm=>(List.range M).any fun h=>decide (V h=x)&&(decide (0<rm.getD (Fc h) 0)&&pD V Fc M E (rm.set (Fc h) (rm.getD (Fc h) 0-1)))
theorem xL(l:List Int)(i j:Nat)(v:Int)(hi:i<l.length):(l.set i v).getD j 0=if j=i then v else l.getD j 0:=by
 by_cases h:j=i
 ·subst h;rw [if_pos rfl,List.getD_eq_getElem?_getD,List.getElem?_set_self hi];rfl
 ·rw [if_neg h,List.getD_eq_getElem?_getD,List.getElem?_set_ne (fun e=>h e.symm),List.getD_eq_getElem?_getD]
theorem VB{V Fc:Nat→Nat}{M:Nat}:∀(E:List Nat) (rm:List Int),E.Nodup→(∀h,h<M→Fc h<rm.length)→(pD V Fc M E rm=true↔pE V Fc M E rm)
 | [],rm,_,_=>by
  unfold pD pE;rw [List.all_eq_true];constructor
  ·intro h;refine ⟨fun _=>0,by simp,fun f hf=>?_⟩;have:=h _ (List.getElem_mem hf);rw [List.getD_eq_getElem?_getD,List.getElem?_eq_getElem hf];simpa using this
  ·rintro ⟨g,_,h⟩ z hz;obtain ⟨f,hf,rfl⟩:=List.getElem_of_mem hz;have:=h f hf;rw [List.getD_eq_getElem?_getD,List.getElem?_eq_getElem hf] at this;simpa using this
 | x::E,rm,hnd,hFc=>by
  obtain ⟨hx,hnd'⟩:=List.nodup_cons.1 hnd;unfold pD;rw [List.any_eq_true];constructor
  ·rintro ⟨h,hh,hp⟩;rw [List.mem_range] at hh;simp only [Bool.and_eq_true,decide_eq_true_eq] at hp;obtain ⟨h1,h2,h3⟩:=hp;obtain ⟨g,g1,g2⟩:=(VB E _ hnd' (fun h hh=>by rw [List.length_set];exact hFc h hh)).1 h3;refine ⟨fun y=>if y=x then h else g y,fun y hy=>?_,fun f hf=>?_⟩
   ·by_cases e:y=x
    ·subst e;simp only [if_pos];exact ⟨hh,h1⟩
    ·simp only [if_neg e];exact g1 y ((List.mem_cons.1 hy).resolve_left e)
   ·have h4:=g2 f (by rw [List.length_set];exact hf);rw [xL _ _ _ _ (hFc h hh)] at h4
    have e1:E.countP (fun y=>decide (Fc (if y=x then h else g y)=f))=E.countP (fun y=>decide (Fc (g y)=f)):=List.countP_congr fun y hy=>by
     have hyx:¬y=x:=fun e=>hx (by rw [←e];exact hy);rw [if_neg hyx]
    have e2:((fun y=>if y=x then h else g y) x)=h:=by simp
    rw [List.countP_cons,e1,e2];by_cases e:f=Fc h
    ·subst e;rw [if_pos rfl] at h4;simp only [decide_true,if_true];omega
    ·rw [if_neg e] at h4;rw [h4,decide_eq_false (fun h=>e h.symm)];simp
  ·rintro ⟨g,g1,g2⟩;obtain ⟨h1,h2⟩:=g1 x (by simp);have hr:=g2 (Fc (g x)) (hFc _ h1);rw [List.countP_cons,decide_eq_true rfl,if_pos rfl] at hr;refine ⟨g x,List.mem_range.2 h1,?_⟩;simp only [Bool.and_eq_true,decide_eq_true_eq];refine ⟨h2,by omega,(VB E _ hnd' (fun h hh=>by rw [List.length_set];exact hFc h hh)).2 ⟨g,fun y hy=>g1 y (by simp [hy]),fun f hf=>?_⟩⟩;rw [List.length_set] at hf;rw [xL _ _ _ _ (hFc _ h1)];have h3:=g2 f hf;rw [List.countP_cons] at h3;by_cases e:f=Fc (g x)
   ·subst e;rw [if_pos rfl];omega
   ·rw [if_neg e,h3,decide_eq_false (fun h=>e h.symm)];simp
theorem Ze{n:Nat}{p q:Nat→Bool}(h:∀z,z<n→p z=true→q z=true){y:Nat}(hy:y<n)(hq:q y=true)(hp:p y=false):(List.range n).countP p<(List.range n).countP q:=by
 have h1:=qy (List.range n) q p
 have e1:(List.range n).countP (fun z=>q z&&p z)=(List.range n).countP p:=jP fun z hz=>by
  cases hpz:p z with
  | false=>simp
  | true=>rw [h z hz hpz];rfl
 have h2:0<(List.range n).countP (fun z=>q z && !p z):=List.countP_pos_iff.2 ⟨y,List.mem_range.2 hy,by rw [hq,hp];rfl⟩;omega
theorem cP{n:Nat}{p q:Nat→Bool}(h:∀z,z<n→p z=true→q z=true):(List.range n).countP p≤(List.range n).countP q:=by
 have h1:=qy (List.range n) q p
 have e1:(List.range n).countP (fun z=>q z&&p z)=(List.range n).countP p:=jP fun z hz=>by
  cases hpz:p z with
  | false=>simp
  | true=>rw [h z hz hpz];rfl
 omega
theorem Ja{n:Nat}{E:List Nat}(hnd:E.Nodup)(hE:∀x∈E,x<n)(q:Nat→Bool):E.countP q=(List.range n).countP fun y=>decide (y∈E)&&q y:=by
 have hp:E.Perm ((List.range n).filter fun y=>decide (y∈E)):=by
  rw [List.perm_ext_iff_of_nodup hnd (List.nodup_range.filter _)];intro a;rw [List.mem_filter,List.mem_range,decide_eq_true_eq];exact ⟨fun h=>⟨hE a h,h⟩,fun h=>h.2⟩
 rw [hp.countP_eq,List.countP_filter];exact jP fun y _=>Bool.and_comm _ _
section
variable (V Fc:Nat→Nat)(n M:Nat)(rm:List Int)
/-- whose great angles are in a face -/
def sr(G:List Int)(f:Nat):List Nat:=(List.range n).filter fun x=>decide (0≤G.getD x 0)&&decide (Fc (G.getD x 0).toNat=f)
abbrev SS:=List Int×List Bool
end
section
variable {V Fc:Nat→Nat}{n M:Nat}{rm:List Int}
def Sin(S:List Bool)(f:Nat):Prop:=S.getD f false=true
def ZI(S S':List Bool):Prop:=S'.length=S.length ∧ ∀f,Sin S f→Sin S' f
theorem ZI.refl(S:List Bool):ZI S S:=⟨rfl,fun _ h=>h⟩
theorem ZI.trans{S S' S'':List Bool}(h:ZI S S')(k:ZI S' S''):ZI S S'':=⟨k.1.trans h.1,fun f hf=>k.2 f (h.2 f hf)⟩
theorem pW{S:List Bool}{f g:Nat}(hf:f<S.length):Sin (S.set f true) g↔Sin S g∨g=f:=by
 unfold Sin;rw [List.getD_eq_getElem?_getD,List.getElem?_set];by_cases h:f=g
 ·subst h;simp [hf]
 ·rw [if_neg h,←List.getD_eq_getElem?_getD];exact ⟨.inl,fun e=>e.elim id fun e=>absurd e.symm h⟩
theorem ZI.set(S:List Bool)(f:Nat)(hf:f<S.length):ZI S (S.set f true):=⟨by simp,fun g hg=>(pW hf).2 (.inl hg)⟩
/-- what a failure leaves: no face that was seen has room, and none of those in them can go elsewhere -/
structure Lost(V Fc:Nat→Nat)(n M:Nat)(rm:List Int)(G:List Int)(S S':List Bool):Prop where
 more:ZI S S'
 full:∀f,f<rm.length→Sin S' f → ¬Sin S f→rm.getD f 0≤((sr Fc n G f).length:Int) ∧ ∀y∈sr Fc n G f,∀h,h<M→V h=y→Sin S' (Fc h)
theorem Lost.refl(G:List Int)(S:List Bool):Lost V Fc n M rm G S S:=⟨ZI.refl S,fun _ _ h h'=>absurd h h'⟩
theorem Lost.trans{G:List Int}{S S' S'':List Bool}(h:Lost V Fc n M rm G S S')(k:Lost V Fc n M rm G S' S''):Lost V Fc n M rm G S S'':=by
 refine ⟨h.more.trans k.more,fun f hf h1 h2=>?_⟩;by_cases h3:Sin S' f
 ·obtain ⟨a,b⟩:=h.full f hf h3 h2;exact ⟨a,fun y hy t ht hv=>k.more.2 _ (b y hy t ht hv)⟩
 ·exact k.full f hf h1 h3
end
end Go.Proofs.YtneeknlhlkpnpaaGreat
/-
 angle.kind, angle.asked: what they compute. Written by an AI agent.
-/
namespace Go.Proofs.YtneeknlhlkpnpaaGreat
open Go.RowKit
/-- while a function goes: its graph, boxed, and lists -/
structure SG(w wc:World)(n:Int)(A:Option Addr)(cap:Nat)(es:List (Int×Int))(C:Option Addr)(rs:List (List Int)):Prop where
 b:Blk wc w.heap.size 24 #[.int .i64 n,.slice A es.length cap]
 below:Below w.heap.size w wc
 es:jr wc wc.heap.size A (jD es)
 rs:qz wc wc.heap.size C rs
 lt:w.heap.size<wc.heap.size
section
variable {w wc w':World}{n:Int}{A:Option Addr}{cap:Nat}{es:List (Int×Int)}{C:Option Addr}{rs:List (List Int)}
theorem SG.next(h:SG w wc n A cap es C rs)(hb:Below wc.heap.size wc w'):SG w w' n A cap es C rs:=by
 have hz:=hb.size;have h1:=h.lt;exact ⟨h.b.below hb h1,h.below.trans (hb.mono (Nat.le_of_lt h1)),(h.es.below hb).more hz,(h.rs.below hb).more hz,by omega⟩
theorem SG.drewN(h:SG w wc n A cap es C rs)(k:Nat):SG w (wc.drewN k) n A cap es C rs:=h.next (below_drewN (Below.refl _ _) k)
theorem SG.g0(h:SG w wc n A cap es C rs):wc.cell? ⟨w.heap.size,0,none⟩=some (.int .i64 n):=h.b.cell 0
theorem SG.g1(h:SG w wc n A cap es C rs):wc.cell? ⟨w.heap.size,1,none⟩=some (.slice A es.length cap):=h.b.cell 1
theorem SG.start(n:Int)(cap:Nat)(hes:jr w w.heap.size A (jD es))(hrs:qz w w.heap.size C rs):SG w (w.alloc (.cells #[.int .i64 n,.slice A es.length cap] 24)) n A cap es C rs:=by
 have hbw:=(Below.refl w.heap.size w).alloc (Nat.le_refl _) (.cells #[.int .i64 n,.slice A es.length cap] 24);exact ⟨Blk.new w _ _,hbw,(hes.below hbw).more hbw.size,(hrs.below hbw).more hbw.size,by simp⟩
end
theorem dE(a b:Nat)(w:World):Calls Tryz.prog 51 #[.int .i64 a,.int .i64 b] w fun e w'=>e = .returned (.int .i64 (Qq a b:Nat))∧w=w':=by
 have ha:Int.tmod (a:Int) 2=((a%2:Nat):Int):=by rw [Int.tmod_eq_emod_of_nonneg (by omega)];omega
 have hb:Int.tmod (b:Int) 2=((b%2:Nat):Int):=by rw [Int.tmod_eq_emod_of_nonneg (by omega)];omega
 have HK:=Lib.hid (show Qq a b=if a%2=0∧b%2=0 then 1 else if a%2=1∧b%2=1 then 2 else 0 from rfl);rcases Nat.mod_two_eq_zero_or_one a with h1 | h1<;>rcases Nat.mod_two_eq_zero_or_one b with h2 | h2
 all_goals
  rw [h1] at ha HK;rw [h2] at hb HK;clear h1 h2
  go_enter Tryz.func51,Tryz.ntmps51
  go_wp2_with fail;go_ret;exact ⟨kc (by rw [HK.out];rfl),rfl⟩
/-- may a graph and a rotation be asked? -/
noncomputable def xp(n:Int)(es:List (Int×Int))(rs:List (List Int)):Bool:=ym n es rs&&(decide (gen n es rs=0)&&(kY rs.length es&&decide (cls (Q es es.length) rs.length=1)))
set_option maxRecDepth 20000 in
set_option maxHeartbeats 2000000 in
theorem eB(n:Int)(A C:Option Addr)(cap ccap:Nat)(es:List (Int×Int))(rs:List (List Int))(w:World)(hes:jr w w.heap.size A (jD es))(hrs:qz w w.heap.size C rs)(hr1:rs.length≤1000)(hr2:∀l∈rs,l.length≤1000) :
  Calls Tryz.prog 49 #[.agg #[.int .i64 n,.slice A es.length cap],.slice C rs.length ccap] w (fun e w'=>e = .returned (.bool (xp n es rs))∧Below w.heap.size w w'):=by
 have S1:=Lib.hid (SG.start n cap hes hrs);have HR2:=Lib.hid hr2;clear hes hrs hr2
 go_enter Tryz.func49,Tryz.ntmps49
 go_upto_region 1 with fail
 generalize w.alloc (.cells #[.int .i64 n,.slice A es.length cap] 24)=w1 at *;have g0:=S1.out.g0;have g1:=S1.out.g1;go_wp2_with fail;refine (Gz n A C cap ccap es rs w1 S1.out.es S1.out.rs hr1 HR2.out).mono ?_;rintro e w2 ⟨hb2,hy,hno⟩;have S2:=Lib.hid (S1.out.next hb2);have g0:=S2.out.g0;have g1:=S2.out.g1;clear hb2 S1;obtain ⟨hi1,hi2,hi3⟩:=@sp n es;have HI3:=Lib.hid hi3;clear hi3
 cases hm:ym n es rs with
 | false=>
  have he:=hno hm;subst he;have HF:=Lib.hid (show xp n es rs=false by unfold xp;rw [hm];rfl);clear hm hy hno;go_wp2_with fail;refine (uG n A cap es w2 S2.out.es).mono ?_;rintro e w3 ⟨gv,rfl,hb3,hv3⟩;have S3:=Lib.hid (S2.out.next hb3);have HV3:=Lib.hid hv3;clear hb3 hv3 S2;go_wp2_with fail;refine (Gg gv (vN n es) (vE n es) w3 HV3.out HI3.out hi1 hi2).mono ?_;rintro e w4 ⟨v,rfl,hb4,_⟩;have S4:=Lib.hid (S3.out.next hb4);clear hb4 S3;go_wp2_with fail;go_ret;exact ⟨jI HF.out.symm,S4.out.below⟩
 | true=>
  have he:=hy hm;subst he;have HP:=Lib.hid (zh.1 hm);have HM:=Lib.hid hm;have hmay:=Yu hm;have HMAY:=Lib.hid hmay;obtain ⟨hn0,hn1,hn2⟩:=qv hmay;have hln:=HP.out.len;obtain ⟨N,rfl⟩:∃k:Nat,n=k:=⟨n.toNat,by omega⟩;have hNr:rs.length=N:=by omega
  have HA:=Lib.hid (show xp N es rs=(decide (gen N es rs=0)&&(kY N es&&decide (cls (Q es es.length) N=1))) by unfold xp;rw [hm,hNr];rfl);have HVE:=Lib.hid (show vN N es=N∧vE N es=es by unfold vN vE;rw [hmay];exact ⟨rfl,rfl⟩);obtain ⟨q,hq⟩:∃q,q=gen N es rs:=⟨_,rfl⟩;rw [←hq] at HA;rw [←hq]
  have hqb:q≤1000000:=by
   have:=JQ HP.out (ya HP.out);have hcl:cls (Q es es.length) rs.length≤rs.length:=Nat.le_trans List.countP_le_length (by simp);omega
  clear hy hno hm hmay hq;go_wp2_with fail;refine (uG N A cap es w2 S2.out.es).mono ?_;rintro e w3 ⟨gv,rfl,hb3,hv3⟩;have S3:=Lib.hid (S2.out.next hb3);have HV3:=Lib.hid hv3;clear hb3 hv3 S2;go_wp2_with fail;refine (Gg gv (vN N es) (vE N es) w3 HV3.out HI3.out hi1 hi2).mono ?_;rintro e w4 ⟨v,rfl,hb4,_⟩;have S4:=Lib.hid (S3.out.next hb4);have g0:=S4.out.g0;have g1:=S4.out.g1;rw [HVE.out.1,HVE.out.2];clear hb4 S3;by_cases hq0:q=0
  ·subst hq0
   cases ho:kY N es with
   | false=>
    have HF:=Lib.hid (show xp N es rs=false by rw [HA.out,ho];rfl);clear ho;go_wp2_with fail;go_ret;exact ⟨jI HF.out.symm,S4.out.below⟩
   | true=>
    have HF:=Lib.hid (show xp N es rs=decide (cls (Q es es.length) N=1) by rw [HA.out,ho];rfl);clear ho;go_wp2_with fail;refine (Gd N A cap es w4 S4.out.es HMAY.out).mono ?_;rintro e w5 ⟨A5,c5,rfl,hb5⟩;have S5:=Lib.hid (S4.out.next hb5);have hcl:cls (Q es es.length) N≤N:=Nat.le_trans List.countP_le_length (by simp);clear hb5 S4;generalize cls (Q es es.length) N=c at *;by_cases hc:c=1
    ·subst hc;go_wp2_with fail;go_ret;exact ⟨jI HF.out.symm,S5.out.below⟩
    ·have hc':((c:Int)==1)=false:=by rw [beq_eq_false_iff_ne];omega
     have HF2:=Lib.hid (show xp N es rs=false by rw [HF.out,decide_eq_false hc]);clear hc;go_wp2_with fail;go_ret;exact ⟨jI HF2.out.symm,S5.out.below⟩
  ·have hq':((q:Int)==0)=false:=by rw [beq_eq_false_iff_ne];omega
   have HF:=Lib.hid (show xp N es rs=false by rw [HA.out,decide_eq_false hq0];rfl);clear hq0;go_wp2_with fail;go_ret;exact ⟨jI HF.out.symm,S4.out.below⟩
end Go.Proofs.YtneeknlhlkpnpaaGreat
/-
 angle.Bimodal: what it computes. Written by an AI agent.
-/
namespace Go.Proofs.YtneeknlhlkpnpaaGreat
open Go.RowKit
/-- the kind of a list's j-th angle -/
def kL(l:List Int)(j:Nat):Nat:=Qq (l.getD j 0).toNat (l.getD ((j+1)%l.length) 0).toNat
def plU(l:List Int)(i:Nat):Nat:=(List.range i).countP fun j=>decide (kL l j=0)
def VU(rs:List (List Int)):Bool:=rs.all fun l=>decide (plU l l.length≤2)
theorem yF{n:Int}{es:List (Int×Int)}{rs:List (List Int)}(h:xp n es rs=true):RightP n es rs:=by
 unfold xp at h;exact zh.1 (Bool.and_eq_true _ _▸h).1
end Go.Proofs.YtneeknlhlkpnpaaGreat
