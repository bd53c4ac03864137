import Derived.Test.YtneeknlhlkpnpaaGreatZReg
import Derived.BigRegion
import Derived.Test.YtneeknlhlkpnpaaGreatZGol
/-
 Rows of the call's own, no two of which share a block; the edges by their ends. Written by an AI agent.
-/
namespace Go.Proofs.YtneeknlhlkpnpaaGreat
open Go.RowKit
structure RowsW(w:World)(base:Nat)(vs:List Value)(ls:List (List Int)):Prop where
 len:vs.length=ls.length
 own:∀k (h:k<vs.length) (h':k<ls.length),w.ownsRow base 3 1 vs[k] ls[k].length (jf ls[k])
 apart:∀i j (hi:i<vs.length) (hj:j<vs.length),i≠j→vs[i].ownBlock=none∨vs[i].ownBlock≠vs[j].ownBlock
theorem RowsW.evo{B base:Nat}{T:List TypeId}{w w':World}{vs:List Value}{ls:List (List Int)}(h:RowsW w base vs ls)(he:Evo B T w w')(ht:3∉T):RowsW w' base vs ls:=
 ⟨h.len,fun k h1 h2=>qA (h.own k h1 h2) he ht,h.apart⟩
theorem RowsW.drew{base:Nat}{w:World}{vs:List Value}{ls:List (List Int)}(h:RowsW w base vs ls):RowsW w.drew base vs ls:=⟨h.len,h.own,h.apart⟩
theorem RowsW.below{B base:Nat}{w w':World}{vs:List Value}{ls:List (List Int)}(h:RowsW w base vs ls)(hb:Below B w w')(hB:w.heap.size≤B):RowsW w' base vs ls:=
 ⟨h.len,fun k h1 h2=>jT (h.own k h1 h2) hb hB,h.apart⟩
theorem al{w:World}{base n size k:Nat}{v:Value}{e:TypeId}{xs:List Value}(h:w.ownsRow base e size v n xs)(hk:v.ownBlock=some k):k<w.heap.size:=(h.lt k hk).2
theorem RowsW.app{base:Nat}{w w':World}{vs:List Value}{ls:List (List Int)}(h:RowsW w base vs ls){x:Nat}(hx:x<vs.length)(_hx':x<ls.length){v':Value}{l':List Int}
  (ho:w'.ownsRow base 3 1 v' l'.length (jf l')) (hg:w.grownBy w' vs[x].ownBlock) (hb:v'.ownBlock=vs[x].ownBlock∨v'.ownBlock=some w.heap.size) :
  RowsW w' base (vs.set x v') (ls.set x l'):=by
 refine ⟨by simp [h.len],fun k h1 h2=>?_,fun i j hi hj hij=>?_⟩
 ·simp only [List.length_set] at h1 h2;by_cases hk:x=k
  ·subst hk;simp only [List.getElem_set_self];exact ho
  ·simp only [List.getElem_set_ne hk];exact (h.own k h1 h2).kept hg (h.apart k x h1 hx (fun e=>hk e.symm))
 ·simp only [List.length_set] at hi hj
  have hlt:∀t (ht:t<vs.length),vs[t].ownBlock≠some w.heap.size:=fun t ht e=>by
   have:=al (h.own t ht (by rw [←h.len];exact ht)) e;omega
  by_cases h1:x=i
  ·subst h1;simp only [List.getElem_set_self,List.getElem_set_ne hij];rcases hb with hb | hb
   ·rw [hb];exact h.apart x j hx hj hij
   ·rw [hb];exact .inr (fun e=>hlt j hj e.symm)
  ·by_cases h2:x=j
   ·subst h2;simp only [List.getElem_set_self,List.getElem_set_ne h1];rcases hb with hb | hb
    ·rw [hb];exact h.apart i x hi hx hij
    ·rw [hb];exact .inr (hlt i hi)
   ·simp only [List.getElem_set_ne h1,List.getElem_set_ne h2];exact h.apart i j hi hj hij
theorem RowsW.nils(w:World)(base n:Nat):RowsW w base (List.replicate n (.slice none 0 0)) (List.replicate n []):=
 ⟨by simp,fun k h1 h2=>by simp only [List.getElem_replicate];exact World.ownsRow_nil _ _ _ _,fun i j hi hj _=>by simp only [List.getElem_replicate];exact .inl rfl⟩
def jK(es:List (Int×Int))(f:Int×Int→Int)(x:Int):Nat→List Int
 | 0=>[]
 | k+1=>jK es f x k++if f (es.getD k (0,0))=x then [(k:Int)] else []
def lsV(n:Nat)(es:List (Int×Int))(a b:Nat):List (List Int):=(List.range n).map (fun x:Nat=>jK es Prod.fst x a)++(List.range n).map (fun x:Nat=>jK es Prod.snd x b)
theorem Kl(n:Nat)(es:List (Int×Int))(a b:Nat):(lsV n es a b).length=n+n:=by simp [lsV]
theorem ml(n:Nat)(es:List (Int×Int)):lsV n es 0 0=List.replicate (n+n) []:=by
 apply List.ext_getElem
 ·simp [lsV]
 ·intro i h1 h2;rw [List.getElem_replicate];refine List.eq_nil_of_length_eq_zero ?_
  have:∀l∈lsV n es 0 0,l.length=0:=by
   intro l hl;unfold lsV at hl;rcases List.mem_append.1 hl with hl | hl<;>(obtain ⟨x,_,rfl⟩:=List.mem_map.1 hl;rfl)
  exact this _ (List.getElem_mem h1)
theorem kf{α : Type}(n t:Nat)(f g:Nat → α)(v : α)(h1:g t=v)(h2:∀x,x≠t→g x=f x):((List.range n).map f).set t v=(List.range n).map g:=by
 apply List.ext_getElem
 ·simp
 ·intro i h3 h4;simp only [List.getElem_set,List.getElem_map,List.getElem_range];by_cases h:t=i
  ·subst h;rw [if_pos rfl,h1]
  ·rw [if_neg h,h2 i (fun e=>h e.symm)]
theorem oN{n:Nat}{es:List (Int×Int)}{a b t:Nat}(ht:t<n)(ha:(es.getD a (0,0)).1=(t:Int)):(lsV n es a b).set t (jK es Prod.fst t a++[(a:Int)])=lsV n es (a+1) b:=by
 unfold lsV;rw [List.set_append_left _ _ (by simpa using ht),kf n t _ (fun x:Nat=>jK es Prod.fst x (a+1)) _ (by rw [jK,if_pos ha]) (fun x hx=>by rw [jK,if_neg (by rw [ha];omega),List.append_nil])]
theorem oM{n:Nat}{es:List (Int×Int)}{a b t:Nat}(_ht:t<n)(hb:(es.getD b (0,0)).2=(t:Int)):(lsV n es a b).set (n+t) (jK es Prod.snd t b++[(b:Int)])=lsV n es a (b+1):=by
 unfold lsV;rw [List.set_append_right _ _ (by simp)];simp only [List.length_map,List.length_range,Nat.add_sub_cancel_left];rw [kf n t _ (fun x:Nat=>jK es Prod.snd x (b+1)) _ (by rw [jK,if_pos hb]) (fun x hx=>by rw [jK,if_neg (by rw [hb];omega),List.append_nil])]
theorem JE{n:Nat}{es:List (Int×Int)}{a b t:Nat}(ht:t<n)(h:t<(lsV n es a b).length):(lsV n es a b)[t]=jK es Prod.fst t a:=by
 simp only [lsV];rw [List.getElem_append_left (by simpa using ht)];simp
theorem ug{n:Nat}{es:List (Int×Int)}{a b t:Nat}(_ht:t<n)(h:n+t<(lsV n es a b).length):(lsV n es a b)[n+t]=jK es Prod.snd t b:=by
 simp only [lsV];rw [List.getElem_append_right (by simp)];simp
theorem qd(es:List (Int×Int))(f:Int×Int→Int)(x:Int):∀k,(jK es f x k).length≤k
 | 0=>Nat.le_refl _
 | k+1=>by
  have:=qd es f x k;rw [jK,List.length_append]
  split<;>simp<;>omega
theorem ql{es:List (Int×Int)}{f:Int×Int→Int}{x:Int}:∀ {k:Nat} {a:Int},a∈jK es f x k ↔ ∃i:Nat,a=i∧i<k∧f (es.getD i (0,0))=x
 | 0,a=>by
  refine ⟨fun h=>?_,fun ⟨i,_,h,_⟩=>absurd h (Nat.not_lt_zero _)⟩;exact absurd h (by simp [jK])
 | k+1,a=>by
  rw [jK,List.mem_append,ql (k:=k)];constructor
  ·rintro (⟨i,h1,h2,h3⟩ | h)
   ·exact ⟨i,h1,by omega,h3⟩
   ·by_cases hx:f (es.getD k (0,0))=x
    ·rw [if_pos hx] at h;exact ⟨k,by simpa using h,Nat.lt_succ_self _,hx⟩
    ·rw [if_neg hx] at h;cases h
  ·rintro ⟨i,h1,h2,h3⟩;by_cases hk:i<k
   ·exact .inl ⟨i,h1,hk,h3⟩
   ·have:i=k:=by omega
    subst this;exact .inr (by rw [if_pos h3];simpa using h1)
def nh{B:Nat}(vs:List Value)(x m:Nat)(ls:List (List Int)):PFact B:=
 ⟨[3],[],fun _ v w=>(∃A c,v = .slice A m c)∧RowsW w B (vs.set x v) ls,fun _ hT _ _ _ _ he ⟨h1,h2⟩=>⟨h1,h2.evo he (hT _ (by simp))⟩,fun _ _ _ _ _ h=>h⟩
def rp{B:Nat}(j:Nat)(t:TypeId):PFact B:=
 ⟨[t],[j],fun us v w=>∃g,v = .slice (some ⟨g,0,none⟩) 1 1∧B≤g∧Blk w g t #[us j]∧(us j).oneCell'=true,fun _ hT _ _ _ _ he ⟨g,hv,hg,hb,h1⟩=>⟨g,hv,hg,hb.evo he (.inr (hT t (by simp))),h1⟩,
  fun _ _ h _ _ ⟨g,hv,hg,hb,h1⟩=>⟨g,hv,hg,by rw [←h j (by simp)];exact hb,by rw [←h j (by simp)];exact h1⟩⟩
def rn{B:Nat}(g j:Nat)(t:TypeId)(f:Value→Array Value):PFact B:=
 ⟨[t],[j],fun us _ w=>Blk w g t (f (us j)),fun _ hT _ _ _ _ he hb=>hb.evo he (.inr (hT t (by simp))),fun _ _ h _ _ hb=>by rw [←h j (by simp)];exact hb⟩
def ni{B:Nat}(g j:Nat)(t:TypeId)(f:Value→Array Value)(h:Nat)(D:Array Value):PFact B:=
 ⟨[t],[j],fun us _ w=>Blk w g t (f (us j))∧Blk w h t D,fun _ hT _ _ _ _ he hb=>⟨hb.1.evo he (.inr (hT t (by simp))),hb.2.evo he (.inr (hT t (by simp)))⟩,fun _ _ h _ _ hb=>⟨by rw [←h j (by simp)];exact hb.1,hb.2⟩⟩
theorem jr.blk'{w:World}{g:Nat}{t:TypeId}{xs:List Value}(h:Blk w g t xs.toArray):jr w (g+1) (some ⟨g,0,none⟩) xs:=jr.of_blk (R:=#[]) (by simpa using h)
def fG:Nat→Code→Code
 | 0,c=>c
 | n+1,.seq _ b=>fG n b
 | _+1,c=>c
def rM:Code→Code
 | .seq a _=>a
 | c=>c
def ry:Code→Code
 | .seq _ b=>b
 | c=>c
theorem pw{K K':Act→World→Prop}{Q:Exit→Act→World→Prop}(h:∀a w,K a w→K' a w):∀e a w,Exit.then K Q e a w→Exit.then K' Q e a w:=by
 intro e a w hq
 cases e with
 | normal=>exact h _ _ hq
 | exit id=>exact hq
 | goto l=>exact hq
 | ret=>exact hq
 | panic ch=>exact hq
 | outgrown=>exact hq
theorem fS{P:Program}{s:Code}{R:Act→World→Prop}{Q:Exit→Act→World→Prop}{a:Act}{w:World}(h:∀K:Act→World→Prop,(∀a w,R a w→K a w)→s.wp P (Exit.then K Q) a w):s.wp P (Exit.then R Q) a w:=h R fun _ _ h=>h
end Go.Proofs.YtneeknlhlkpnpaaGreat
namespace Go.Proofs.YtneeknlhlkpnpaaGreat
open Go.RowKit
theorem KO:kP Tryz.prog 26 25 (.slice none 0 0) 1 24:=kP.mk' Tryz.underlying26 (by kernel_rfl) rfl (by omega)
theorem bQ(w:World)(a:Option Addr)(n c:Nat):(binOp .eql 22 (.slice a n c) (.slice none 0 0)).run Tryz.prog w = .ok (.bool a.isNone) w:=by
 simp only [binOp];simp [Op.equal,Op.maxDepth,Lib.run_equalIn_slice_nil w 9999 22 66 a n c 0 0 Tryz.underlying22]
set_option maxRecDepth 20000 in
theorem aG(A:Option Addr)(c:Nat)(l:List (Int×Int))(w:World)(h:jr w w.heap.size A (jA l))(hl:l.length≤1000) :
  Calls Tryz.prog 96 #[.slice A l.length c] w (fun e w'=>∃v,e = .returned v∧Below w.heap.size w w'∧w'.ownsRow w.heap.size 66 2 v l.length (jA l)):=by
 cases A with
 | none=>
  have hl0:l=[]:=by
   cases l with
   | nil=>rfl
   | cons a r=>
    obtain ⟨b,off,e,_⟩:=h (by simp [jA])
    cases e
  subst hl0;have heq:=fun (wx:World)=>bQ wx none 0 c
  go_enter Tryz.func96,Tryz.ntmps96
  go_wp2_with fail;go_ret;exact ⟨_,rfl,Below.refl _ _,World.ownsRow_nil _ _ _ _⟩
 | some ad=>
  have H:=Lib.hid h
  have ho0:(w.alloc (.cells #[] 66)).ownsRow w.heap.size 66 2 (.slice (some ⟨w.heap.size,0,none⟩) 0 0) 0 []:=
   vl (R:=#[]) (Nat.le_refl _) (by simpa using Blk.new w 66 #[]) (by simp) (Nat.le_refl _) (by unfold maxLen;omega) (by simp)
  have hba:=(Below.refl w.heap.size w).alloc (Nat.le_refl _) (.cells #[] 66);have hCa:=h.below hba;have hsa:w.heap.size≤(w.alloc (.cells #[] 66)).heap.size:=by simp
  clear h;have heq:=fun (wx:World)=>bQ wx (some ad) l.length c
  go_enter Tryz.func96,Tryz.ntmps96
  go_wp2_with (at_builtin;refine yU mE rfl _ _ rfl rfl ho0 rfl hCa ((zD l).trans (Nat.mul_comm _ _)) (Up l) ?h2 ?h3 ?h4 ?_)
  case h2=>omega
  case h3=>omega
  try (case h4=>omega)
  intro v5 w5 ho5 hg5 _;have hb5:Below w.heap.size w w5:=qb hba ho0 hg5 hsa (Nat.le_refl _);have HX:=Lib.hid (And.intro hb5 (show w5.ownsRow w.heap.size 66 2 v5 l.length (jA l) by simpa using ho5));clear ho5 hg5 hb5 ho0 hba hCa;go_wp2_with fail;go_ret;exact ⟨_,rfl,HX.out.1,HX.out.2⟩
theorem QM(w:World)(g:Nat)(t:TypeId)(cs:Array Value)(h:g=w.heap.size):Blk (w.alloc (.cells cs t)) g t cs:=by
 subst h;exact Blk.new w t cs
theorem Xa{B:Nat}{w w':World}(h:Below B w w'):Below B w w'.drew:=⟨h.os,h.tape,h.output,h.size,h.block⟩
end Go.Proofs.YtneeknlhlkpnpaaGreat
namespace Go.Proofs.YtneeknlhlkpnpaaGreat
def Xf(es:List (Int×Int))(out:List Int)(x:Nat):Bool:=!out.contains (x:Int)&&es.all fun e=>!decide (e.2=(x:Int))||out.contains e.1
def kC(es:List (Int×Int))(n:Nat)(out:List Int):Option Nat:=(List.range n).find? (Xf es out)
def YR(es:List (Int×Int))(n:Nat):Nat→List Int→List Int
 | 0,out=>out
 | f+1,out=>match kC es n out with
  | none=>out
  | some x=>YR es n f (out++[(x:Int)])
def qO(es:List (Int×Int))(n:Nat):List Int:=YR es n n []
structure Ord(es:List (Int×Int))(n:Nat)(out:List Int):Prop where
 lt:∀a∈out,0≤a∧a<n
 nd:out.Nodup
 pre:∀k (hk:k<out.length),∀e∈es,e.2=out[k]→e.1∈out.take k
theorem Ord.nil(es:List (Int×Int))(n:Nat):Ord es n []:=⟨by simp,List.nodup_nil,fun k hk=>absurd hk (by simp)⟩
theorem Ord.push{es:List (Int×Int)}{n:Nat}{out:List Int}(h:Ord es n out){x:Nat}(hx:kC es n out=some x):Ord es n (out++[(x:Int)]):=by
 have h1:=List.find?_some hx;have h2:=List.mem_range.1 (List.mem_of_find?_eq_some hx);unfold Xf at h1;rw [Bool.and_eq_true] at h1;obtain ⟨h3,h4⟩:=h1;have h3:(x:Int)∉out:=by simpa using h3
 refine ⟨fun a ha=>?_,?_,fun k hk e he hek=>?_⟩
 ·rcases List.mem_append.1 ha with ha | ha
  ·exact h.lt a ha
  ·have:a=x:=by simpa using ha
   omega
 ·rw [List.nodup_append];refine ⟨h.nd,by simp,fun a ha b hb e=>?_⟩;have:b=x:=by simpa using hb
  subst e;rw [this] at ha;exact h3 ha
 ·by_cases hlt:k<out.length
  ·rw [List.getElem_append_left hlt] at hek;have:=h.pre k hlt e he hek;rw [List.take_append_of_le_length (by omega)];exact this
  ·have hke:k=out.length:=by simp at hk;omega
   subst hke;rw [List.take_left']
   ·rw [List.getElem_concat_length (by rfl)] at hek;have:=List.all_eq_true.1 h4 e he;simp [hek] at this;exact this
   ·rfl
theorem Ord.le{es:List (Int×Int)}{n:Nat}{out:List Int}(h:Ord es n out):out.length≤n:=by
 have hs:out⊆(List.range n).map fun i:Nat=>(i:Int):=fun a ha=>by
  obtain ⟨h1,h2⟩:=h.lt a ha;exact List.mem_map.2 ⟨a.toNat,List.mem_range.2 (by omega),by omega⟩
 have:=List.Nodup.length_le_of_subset h.nd hs;simpa using this
theorem aS{es:List (Int×Int)}{n:Nat}:∀(f:Nat) (out:List Int),Ord es n out→Ord es n (YR es n f out)
 | 0,_,h=>h
 | f+1,out,h=>by
  unfold YR
  split
  ·exact h
  ·rename_i x hx;exact aS f _ (h.push hx)
theorem uf(es:List (Int×Int))(n:Nat):Ord es n (qO es n):=aS n [] (Ord.nil es n)
theorem UK{es:List (Int×Int)}{n:Nat}{out:List Int}(h:kC es n out=none):∀f,YR es n f out=out
 | 0=>rfl
 | f+1=>by rw [YR,h]
theorem UL{es:List (Int×Int)}{n:Nat}{f:Nat}{out:List Int}{x:Nat}(h:kC es n out=some x):YR es n (f+1) out=YR es n f (out++[(x:Int)]):=by rw [YR,h]
end Go.Proofs.YtneeknlhlkpnpaaGreat
namespace Go.Proofs.YtneeknlhlkpnpaaGreat
def Xj(es:List (Int×Int))(out:List Int)(h:Int):Nat:=(List.range es.length).countP fun i=>decide ((es.getD i (0,0)).2=h) && !out.contains (es.getD i (0,0)).1
def qK(n:Nat)(es:List (Int×Int))(out:List Int):List Int:=(List.range n).map fun h:Nat=>if out.contains (h:Int) then -1 else (Xj es out h:Int)
def hd(es:List (Int×Int))(i:Int):Int:=(es.getD i.toNat (0,0)).2
def UA(es:List (Int×Int))(x:Int)(j:Nat)(h:Int):Nat:=((jK es Prod.fst x es.length).take j).countP fun i=>decide (hd es i=h)
def vf(n:Nat)(es:List (Int×Int))(out:List Int)(x:Int)(j:Nat):List Int:=(List.range n).map fun h:Nat=>if (out++[x]).contains (h:Int) then -1 else (Xj es out h:Int)-(UA es x j h:Int)
theorem qf(n:Nat)(es:List (Int×Int))(out:List Int):(qK n es out).length=n:=by simp [qK]
theorem zR(n:Nat)(es:List (Int×Int))(out:List Int)(x:Int)(j:Nat):(vf n es out x j).length=n:=by simp [vf]
theorem Qw(es:List (Int×Int))(f:Int×Int→Int)(x:Int)(p:Int→Bool):∀k,(jK es f x k).countP p=(List.range k).countP fun i:Nat=>decide (f (es.getD i (0,0))=x)&&p i
 | 0=>rfl
 | k+1=>by
  rw [jK,List.countP_append,Qw es f x p k,List.range_succ,List.countP_append];congr 1;by_cases h:f (es.getD k (0,0))=x
  ·rw [if_pos h,List.countP_singleton,List.countP_singleton,h];simp
  ·rw [if_neg h,List.countP_singleton,decide_eq_false h,Bool.false_and,if_neg (by simp)];rfl
theorem iH(es:List (Int×Int))(f:Int×Int→Int)(x:Int)(k:Nat):(jK es f x k).length=(List.range k).countP fun i:Nat=>decide (f (es.getD i (0,0))=x):=by
 have:=Qw es f x (fun _=>true) k;rw [List.countP_true] at this;rw [this];congr 1
 funext i
 simp
theorem XK(n:Nat)(es:List (Int×Int)):qK n es []=(List.range n).map fun h:Nat=>((jK es Prod.snd h es.length).length:Int):=by
 unfold qK;apply List.map_congr_left;intro h _;rw [if_neg (by simp),iH];congr 1;unfold Xj;congr 1
 funext i
 simp
theorem uq{es:List (Int×Int)}{i:Nat}(h:i<es.length):es.getD i (0,0)∈es:=by
 rw [List.getD_eq_getElem?_getD,List.getElem?_eq_getElem h];exact List.getElem_mem h
theorem QH{es:List (Int×Int)}{e:Int×Int}(h:e∈es):∃i,i<es.length∧es.getD i (0,0)=e:=by
 obtain ⟨i,hi,rfl⟩:=List.getElem_of_mem h;exact ⟨i,hi,by rw [List.getD_eq_getElem?_getD,List.getElem?_eq_getElem hi];rfl⟩
theorem Ws{es:List (Int×Int)}{out:List Int}{h:Int}:Xj es out h=0 ↔ ∀e∈es,e.2=h→e.1∈out:=by
 unfold Xj;rw [List.countP_eq_zero];constructor
 ·intro hz e he hh;obtain ⟨i,hi,rfl⟩:=QH he;have:=hz i (List.mem_range.2 hi);simp only [hh,decide_true,Bool.true_and,Bool.not_eq_true',Bool.not_eq_false] at this;simpa using this
 ·intro hz i hi;have:=hz _ (uq (List.mem_range.1 hi));simp only [Bool.and_eq_true,decide_eq_true_eq,Bool.not_eq_true',not_and,Bool.not_eq_false];exact fun h1=>by simpa using this h1
theorem JD{es:List (Int×Int)}{out:List Int}{x:Nat}:Xf es out x=true↔(x:Int)∉out ∧ ∀e∈es,e.2=(x:Int)→e.1∈out:=by
 unfold Xf;rw [Bool.and_eq_true,List.all_eq_true];constructor
 ·rintro ⟨h1,h2⟩;refine ⟨by simpa using h1,fun e he hx=>?_⟩;have:=h2 e he;simpa [hx] using this
 ·rintro ⟨h1,h2⟩;refine ⟨by simpa using h1,fun e he=>?_⟩;by_cases hx:e.2=(x:Int)
  ·simpa [hx] using h2 e he hx
  ·simp [hx]
theorem Qm{n:Nat}{es:List (Int×Int)}{out:List Int}{x:Nat}(hx:x<(qK n es out).length):(0:Int)=(qK n es out)[x]↔Xf es out x=true:=by
 have hxn:x<n:=by rw [qf] at hx;exact hx
 have e:(qK n es out)[x]=if out.contains (x:Int) then -1 else (Xj es out x:Int):=by simp [qK]
 rw [e,JD];by_cases h:(x:Int)∈out
 ·rw [if_pos (by simpa using h)];exact ⟨fun h'=>by omega,fun h'=>absurd h h'.1⟩
 ·rw [if_neg (by simpa using h),←Ws];exact ⟨fun h'=>⟨h,by omega⟩,fun h'=>by omega⟩
theorem Yz{n:Nat}{es:List (Int×Int)}{out:List Int}{x:Nat}(h:kC es n out=some x):x<n∧xX (qK n es out) 0=x:=by
 unfold kC at h;have h1:=List.find?_some h;have h2:=List.mem_range.1 (List.mem_of_find?_eq_some h);refine ⟨h2,KT (by rw [qf];exact h2) ((Qm _).2 h1) fun j hj e=>?_⟩;have hj2:=(Qm (by rw [qf];omega)).1 e;obtain ⟨_,i,hi,e1,e2⟩:=List.find?_eq_some_iff_getElem.1 h;simp only [List.getElem_range] at e1;have:=e2 j (by omega);simp only [List.getElem_range] at this;rw [hj2] at this
 cases this
theorem YA{n:Nat}{es:List (Int×Int)}{out:List Int}(h:kC es n out=none):xX (qK n es out) 0 = -1:=by
 refine QI fun j hj e=>?_;have:=(Qm hj).1 e;unfold kC at h;rw [List.find?_eq_none] at h;exact h j (List.mem_range.2 (by rw [qf] at hj;exact hj)) this
theorem VJ{n:Nat}{es:List (Int×Int)}{out:List Int}{x:Nat}:(qK n es out).set x (-1)=vf n es out x 0:=by
 unfold qK vf;apply List.ext_getElem
 ·simp
 ·intro i h1 h2;simp only [List.getElem_set,List.getElem_map,List.getElem_range];by_cases h:x=i
  ·subst h;rw [if_pos rfl,if_pos (by simp)]
  ·rw [if_neg h]
   have hc:(out++[(x:Int)]).contains (i:Int)=out.contains (i:Int):=by
    simp only [List.contains_eq_mem,List.mem_append,List.mem_singleton];have:¬(i:Int)=(x:Int):=by omega
    simp [this]
   rw [hc];simp [UA]
theorem Wt{es:List (Int×Int)}{x:Int}{j:Nat}(hj:j<(jK es Prod.fst x es.length).length)(h:Int):UA es x (j+1) h=UA es x j h+if hd es (jK es Prod.fst x es.length)[j]=h then 1 else 0:=by
 unfold UA;rw [List.take_succ_eq_append_getElem hj,List.countP_append,List.countP_singleton];congr 1;by_cases h':hd es (jK es Prod.fst x es.length)[j]=h<;>simp [h']
theorem ms{n:Nat}{es:List (Int×Int)}{out:List Int}(ho:Ord es n out){x:Nat}(hx:kC es n out=some x){e:Int×Int}(he:e∈es)(ht:e.1=(x:Int)):e.2∉out++[(x:Int)]:=by
 obtain ⟨h1,h2⟩:=JD.1 (List.find?_some hx);intro hm;rcases List.mem_append.1 hm with hm | hm
 ·obtain ⟨k,hk,e2⟩:=List.getElem_of_mem hm;have:=List.mem_of_mem_take (ho.pre k hk e he e2.symm);rw [ht] at this;exact h1 this
 ·have:=h2 e he (by simpa using hm);rw [ht] at this;exact h1 this
theorem ZK{es:List (Int×Int)}{f:Int×Int→Int}{x:Int}{j:Nat}(hj:j<(jK es f x es.length).length):∃i:Nat,(jK es f x es.length)[j]=i ∧ ∃h:i<es.length,f es[i]=x:=by
 obtain ⟨i,h1,h2,h3⟩:=ql.1 (List.getElem_mem hj);refine ⟨i,h1,h2,?_⟩;rw [List.getD_eq_getElem?_getD,List.getElem?_eq_getElem h2] at h3;exact h3
theorem VK{n:Nat}{es:List (Int×Int)}{out:List Int}(ho:Ord es n out){x:Nat}(hx:kC es n out=some x){j:Nat}(hj:j<(jK es Prod.fst x es.length).length)
  {i t:Nat} (hi:(jK es Prod.fst x es.length)[j]=(i:Int)) (hil:i<es.length) (ht:es[i].2=(t:Int)) (htn:t<n) :
  (vf n es out x j).set t ((vf n es out x j).getD t 0-1)=vf n es out x (j+1):=by
 have hh:hd es (jK es Prod.fst x es.length)[j]=(t:Int):=by
  rw [hi,hd,Int.toNat_natCast,List.getD_eq_getElem?_getD,List.getElem?_eq_getElem hil];exact ht
 have hnew:(t:Int)∉out++[(x:Int)]:=by
  obtain ⟨i',h1,h2,h3⟩:=ZK hj;have:i'=i:=by rw [h1] at hi;omega
  subst this;rw [←ht];exact ms ho hx (List.getElem_mem hil) h3
 have hv:(vf n es out x j).getD t 0=(Xj es out t:Int)-(UA es x j t:Int):=by
  rw [List.getD_eq_getElem?_getD,List.getElem?_eq_getElem (by rw [zR];exact htn)];simp only [vf,Option.getD_some,List.getElem_map,List.getElem_range];rw [if_neg (by simpa using hnew)]
 rw [hv];unfold vf;refine kf n t _ _ _ ?_ fun y hy=>?_
 ·rw [if_neg (by simpa using hnew),Wt hj,if_pos hh];omega
 ·by_cases hc:(out++[(x:Int)]).contains (y:Int)=true
  ·rw [if_pos hc,if_pos hc]
  ·rw [if_neg hc,if_neg hc,Wt hj,if_neg (by rw [hh];omega)];omega
theorem yA{α : Type}(l:List α)(p q : α → Bool):l.countP p=(l.countP fun a=>p a&&q a)+l.countP fun a=>p a && !q a:=by
 induction l with
 | nil=>rfl
 | cons a r ih=>
  simp only [List.countP_cons,ih]
  cases p a<;>cases q a<;>simp<;>omega
theorem XJ{n:Nat}{es:List (Int×Int)}{out:List Int}{x:Nat}(hx:kC es n out=some x):vf n es out x (jK es Prod.fst x es.length).length=qK n es (out++[(x:Int)]):=by
 have hxo:=(JD.1 (List.find?_some hx)).1;unfold vf qK;apply List.map_congr_left;intro h _;by_cases hc:(out++[(x:Int)]).contains (h:Int)=true
 ·rw [if_pos hc,if_pos hc]
 ·rw [if_neg hc,if_neg hc]
  have h1:UA es x (jK es Prod.fst x es.length).length h=(List.range es.length).countP fun i:Nat=>decide ((es.getD i (0,0)).1=(x:Int))&&decide ((es.getD i (0,0)).2=(h:Int)):=by
   unfold UA;rw [List.take_length,Qw];rfl
  have h2:Xj es out h=UA es x (jK es Prod.fst x es.length).length h+Xj es (out++[(x:Int)]) h:=by
   rw [h1];unfold Xj;rw [yA _ _ (fun i=>decide ((es.getD i (0,0)).1=(x:Int)))];congr 1
   ·congr 1
    funext i
    by_cases e1:(es.getD i (0,0)).1=(x:Int)
    ·rw [e1];simp [hxo]
    ·simp only [e1,decide_false,Bool.and_false,Bool.false_and]
   ·congr 1
    funext i
    by_cases e1:(es.getD i (0,0)).1=(x:Int)
    ·rw [e1];simp
    ·simp only [e1,decide_false,Bool.not_false,Bool.and_true];congr 2;simp only [List.contains_eq_mem,List.mem_append,List.mem_singleton,e1,or_false]
  omega
theorem Zj{n:Nat}{es:List (Int×Int)}{out:List Int}{x:Int}{j t:Nat}(hl:es.length≤1000) : -2000≤(vf n es out x j).getD t 0∧(vf n es out x j).getD t 0≤2000:=by
 rw [List.getD_eq_getElem?_getD];by_cases ht:t<n
 ·rw [List.getElem?_eq_getElem (by rw [zR];exact ht)];simp only [vf,Option.getD_some,List.getElem_map,List.getElem_range]
  have h1:Xj es out t≤es.length:=by
   unfold Xj;exact Nat.le_trans List.countP_le_length (by simp)
  have h2:UA es x j t≤es.length:=by
   unfold UA;refine Nat.le_trans List.countP_le_length (Nat.le_trans (List.length_take_le' _ _) (qd _ _ _ _))
  split<;>omega
 ·rw [List.getElem?_eq_none (by rw [zR];omega)];simp
end Go.Proofs.YtneeknlhlkpnpaaGreat
namespace Go.Proofs.YtneeknlhlkpnpaaGreat
open Go.RowKit
def zC(w:World)(gv n:Nat)(es:List (Int×Int)):Prop:=∃(A:Option Addr) (c go gi:Nat) (os is:List Value),
 Blk w gv 91 #[.int .i64 n,.slice A es.length c,.slice (some ⟨go,0,none⟩) n n,.slice (some ⟨gi,0,none⟩) n n]∧jr w w.heap.size A (jA es)∧os.length=n∧is.length=n∧Blk w go 25 os.toArray∧Blk w gi 25 is.toArray∧RowsW w 0 (os++is) (lsV n es es.length es.length)
theorem zC.below{B:Nat}{w w':World}{gv n:Nat}{es:List (Int×Int)}(h:zC w gv n es)(hb:Below B w w')(hB:w.heap.size≤B):zC w' gv n es:=by
 obtain ⟨A,c,go,gi,os,is,h1,h2,h3,h4,h5,h6,h7⟩:=h;have hs:=hb.size;exact ⟨A,c,go,gi,os,is,h1.below hb (Nat.lt_of_lt_of_le h1.lt hB),(h2.keep fun p hp=>hb.cell (Nat.lt_of_lt_of_le hp hB)).more hs,h3,h4,h5.below hb (Nat.lt_of_lt_of_le h5.lt hB),h6.below hb (Nat.lt_of_lt_of_le h6.lt hB),h7.below hb hB⟩
theorem RowsW.mono{base base':Nat}{w:World}{vs:List Value}{ls:List (List Int)}(h:RowsW w base vs ls)(hb:base'≤base):RowsW w base' vs ls:=⟨h.len,fun k h1 h2=>qh (h.own k h1 h2) hb,h.apart⟩
theorem Qx{B:Nat}{w w':World}(h:Below B w w'):Below B w w'.drew:=⟨h.os,h.tape,h.output,h.size,h.block⟩
set_option maxRecDepth 20000 in
set_option maxHeartbeats 4000000 in
theorem ri(n:Nat)(A:Option Addr)(cap gb gv go gi B0:Nat)(es:List (Int×Int))(w wc:World)(b1:wc.cell? ⟨gb,1,none⟩=some (.slice A es.length cap))(hgb:gb<B0)(hes:jr wc B0 A (jA es))(hE:∀e∈es,0≤e.1∧e.1<(n:Int)∧0≤e.2∧e.2<(n:Int))(_hn:n≤64)(hl:es.length≤1000)
  (hB:Below w.heap.size w wc) (hB0:w.heap.size≤B0) (hBw:B0≤wc.heap.size) (hgv:B0≤gv) (hgo:B0≤go) (hgi:B0≤gi) (hne:go≠gi) (hv:Blk wc gv 91 #[.int .i64 n,.slice A es.length cap,.slice (some ⟨go,0,none⟩) n n,.slice (some ⟨gi,0,none⟩) n n]) (ho:Blk wc go 25 (Array.replicate n (.slice none 0 0))) (hi:Blk wc gi 25 (Array.replicate n (.slice none 0 0)))
  (u0 u6 u7 u8 u9 u10 u11 u12 u13 u14 u15 u16 u17 u18 u19 u20 u21 u22 u23 u24 u25 u26 u30 u31 u32 u33 u34 u35 u36 u37 u38 u39 u40 u41 u42 u43 u44 u45 u46 u47 u48 u49 u50 u51 u52 u53 u54 u55 u56 u57 u58 u59 u60 u61 u62 u63 u64 u65 u66 u67 u68 u69 u70 u71:Value) (K:Act→World→Prop) (hK:∀a0 w0,Code.wp Tryz.prog (ry (fG 3 ((Tryz.f39.body).getD .skip))) (bodyPost Tryz.prog Tryz.f39 (fun e w'=>∃gv,e = .returned (.pointer (some ⟨gv,0,none⟩))∧Below w.heap.size w w'∧zC w' gv n es)) a0 w0→K a0 w0) :
  Code.wp Tryz.prog (rM (fG 3 ((Tryz.f39.body).getD .skip))) (Exit.then K (bodyPost Tryz.prog Tryz.f39 (fun e w'=>∃gv,e = .returned (.pointer (some ⟨gv,0,none⟩))∧Below w.heap.size w w'∧zC w' gv n es))) ⟨#[u0,.pointer (some ⟨gb,0,none⟩),.pointer none,.pointer (some ⟨gv,0,none⟩),undef,undef,u6,u7,u8,u9,u10,u11,u12,u13,u14,u15,u16,u17,u18,u19,u20,u21,u22,u23,u24,u25,u26,undef,undef,undef,u30,u31,u32,u33,u34,u35,u36,u37,u38,u39,u40,u41,u42,u43,u44,u45,u46,u47,u48,u49,u50,u51,u52,u53,u54,u55,u56,u57,u58,u59,u60,u61,u62,u63,u64,u65,u66,u67,u68,u69,u70,u71],[]⟩ wc:=by
 refine wp_mono (Q:=Exit.then (fun a0 w0=>Code.wp Tryz.prog (ry (fG 3 ((Tryz.f39.body).getD .skip))) (bodyPost Tryz.prog Tryz.f39 (fun e w'=>∃gv,e = .returned (.pointer (some ⟨gv,0,none⟩))∧Below w.heap.size w w'∧zC w' gv n es)) a0 w0) (bodyPost Tryz.prog Tryz.f39 (fun e w'=>∃gv,e = .returned (.pointer (some ⟨gv,0,none⟩))∧Below w.heap.size w w'∧zC w' gv n es))) ?_ (pw hK);clear hK
 conv=>arg 2;whnf
 conv=>arg 3;arg 1;ext a w;arg 2;whnf
 refine fS fun K2 hK2=>?_;have HES:=Lib.hid hes;have HE0:=Lib.hid hE;have HB:=Lib.hid hB;have HV:=Lib.hid hv;have HO:=Lib.hid ho;have HI:=Lib.hid hi;have hgbw:gb<wc.heap.size:=by omega
 have hgvw:=hv.lt;clear hes hE hB hv ho hi;go_wp2_with fail;refine (aG A cap es wc (HES.out.more hBw) hl).mono ?_;rintro e w4 ⟨v4,rfl,hb4,ho4⟩;obtain ⟨A4,c4,rfl⟩:=jv ho4;have hv4:=HV.out.below hb4 HV.out.lt;have zv:w4.cell? ⟨gv,1,none⟩=some (.slice A es.length cap):=hv4.cell 1;have fv:=hv4.frozen 1;have zb:w4.cell? ⟨gb,1,none⟩=some (.slice A es.length cap):=(hb4.cell (p:=⟨gb,1,none⟩) hgbw).trans b1;have hsz4:=hb4.size;have HO4:=Lib.hid (HO.out.below hb4 HO.out.lt);have HI4:=Lib.hid (HI.out.below hb4 HI.out.lt);have HV4:=Lib.hid hv4;have HA4:=Lib.hid ho4;have HB4:=Lib.hid (HB.out.trans (hb4.mono HB.out.size));have HES4:=Lib.hid (HES.out.keep (w':=w4) fun p hp=>hb4.cell (Nat.lt_of_lt_of_le hp hBw));have HV5:=Lib.hid (HV4.out.set_ 1 (.slice A4 es.length c4))
 have HO5:=Lib.hid (HO4.out.far (p:=⟨gv,1,none⟩) (fun e:go=gv=>by
  have h1:=HO4.out;rw [e] at h1
  exact absurd (h1.symm.trans HV4.out) (by simp)) (.slice A4 es.length c4))
 have HI5:=Lib.hid (HI4.out.far (p:=⟨gv,1,none⟩) (fun e:gi=gv=>by
  have h1:=HI4.out;rw [e] at h1
  exact absurd (h1.symm.trans HV4.out) (by simp)) (.slice A4 es.length c4))
 have HA5:=Lib.hid (qA HA4.out (Evo.set_ (B:=B0) HV4.out (List.mem_singleton.2 rfl) hgv 1 (.slice A4 es.length c4)) (by decide));have HES5:=Lib.hid (HES4.out.setCell (p:=⟨gv,1,none⟩) hgv (.slice A4 es.length c4));have hs5:=World.size_setCell w4 ⟨gv,1,none⟩ (.slice A4 es.length c4);have HEV:=Lib.hid (Evo.set_ (B:=B0) HV4.out (List.mem_singleton.2 rfl) hgv 1 (.slice A4 es.length c4));clear hv4 hb4 ho4 b1;go_wp2_with fail;generalize w4.setCell ⟨gv,1,none⟩ (.slice A4 es.length c4)=w5 at *
 go_loopg [29] es.length (fun k s29 wr=>∃(i:Nat) (os is:List Value),s29 = .int .i64 i∧i≤es.length∧k=es.length-i∧os.length=n∧is.length=n∧Blk wr go 25 os.toArray∧Blk wr gi 25 is.toArray∧RowsW wr B0 (os++is) (lsV n es i i)∧Evo B0 [3,25] w5 wr)
 case atStart=>exact ⟨0,List.replicate n (.slice none 0 0),List.replicate n (.slice none 0 0),rfl,Nat.zero_le _,rfl,by simp,by simp,by simpa using HO5.out,by simpa using HI5.out,by rw [ml,List.replicate_append_replicate];exact RowsW.nils _ _ _,Evo.refl _ _ _⟩
 case round=>
  obtain ⟨i,os,is,rfl,hi,hk,hol,hil,hgo',hgi',hr,hev⟩:=hrel;by_cases hlt:i<es.length
  ·obtain ⟨b,off,rfl,hbb,hcc⟩:=HES5.out.edges (by omega);obtain ⟨c0,c1⟩:=hcc i hlt;have hB5:B0≤w5.heap.size:=by omega
   have hbl:=hev.below hB5;have hszr:=hev.size;have c0':=(hbl.cell (p:=⟨b,off+i*2,none⟩) hbb).trans c0;have c1':=(hbl.cell (p:=⟨b,off+i*2+1,none⟩) hbb).trans c1;have hei:=HE0.out es[i] (List.getElem_mem hlt);obtain ⟨t,ht⟩:∃t:Nat,es[i].1=t:=⟨es[i].1.toNat,by omega⟩;obtain ⟨u,hu⟩:∃u:Nat,es[i].2=u:=⟨es[i].2.toNat,by omega⟩;rw [ht] at c0';rw [hu] at c1';have htn:t<n:=by omega
   have hun:u<n:=by omega
   have htn':(t:Int)<n:=by omega
   have hun':(u:Int)<n:=by omega
   have hlt':(i:Int)<es.length:=by omega
   have Hk:=Lib.hid hk;have HV7:=Lib.hid ((HV5.out.evo hev (.inr (by decide))).alloc (.cells #[.int .i64 t,.int .i64 u] 66));have HG7:=Lib.hid (hgo'.alloc (.cells #[.int .i64 t,.int .i64 u] 66));have HI7:=Lib.hid (hgi'.alloc (.cells #[.int .i64 t,.int .i64 u] 66));have HR7:=Lib.hid (hr.evo (T:=[]) (Evo.of_below (B:=B0) ((Below.refl _ _).alloc (Nat.le_refl _) (.cells #[.int .i64 t,.int .i64 u] 66))) (by simp));have HE7:=Lib.hid (Blk.new wr 66 #[.int .i64 t,.int .i64 u]);have HEV7:=Lib.hid (hev.trans (Evo.of_below ((Below.refl _ _).alloc (Nat.le_refl _) (.cells #[.int .i64 t,.int .i64 u] 66))));have HT:=Lib.hid ht;have HU:=Lib.hid hu;clear hcc c0 c1 hbl hei ht hu hk hev hgo' hgi' hr
   go_upto_region 8 with fail
   generalize wr.alloc (.cells #[.int .i64 t,.int .i64 u] 66)=w7 at *;obtain ⟨ov,hov⟩:∃ov,ov=os[t]'(by omega):=⟨_,rfl⟩;have ht:=HT.out;have hu:=HU.out;have HOV:=Lib.hid (show os.toArray[t]? = some ov by rw [hov];simp [List.getElem?_eq_getElem (show t<os.length by omega)]);have HIX:=Lib.hid (show t<(os++is).length by simp;omega);have HOV2:=Lib.hid (show ∀h:t<(os++is).length,(os++is)[t]=ov by intro h;rw [hov];exact List.getElem_append_left (by omega));obtain ⟨el,hel⟩:∃el,el=jK es Prod.fst t i:=⟨_,rfl⟩;have HEL:=Lib.hid (show ∀h:t<(lsV n es i i).length,(lsV n es i i)[t]=el by intro h;rw [hel];exact JE (by omega) h);have HELn:=Lib.hid (show el.length≤1000 by have:=qd es Prod.fst t i;rw [←hel] at this;omega);have HLS:=Lib.hid (show (lsV n es i i).set (t) (el++[(i:Int)])=lsV n es (i+1) i by rw [hel];exact oN (by omega) (by rw [List.getD_eq_getElem?_getD,List.getElem?_eq_getElem hlt];exact ht));clear hov hel;have HV:=HV7;have HE:=HE7;have HGgo:=HG7;have HGgi:=HI7;have HR:=HR7;have HBL:=Lib.hid (show B0≤w7.heap.size from Nat.le_trans (show B0≤w5.heap.size from hB5) HEV7.out.size);clear ht hu
   refine R3.wp_region_i B0 [[],[3],[25]] [0,0,0,0,0,0,0,0,0,0,0,0,0,0,0,0,1,0,2]
    [([],.val (.pointer (some ⟨gv,0,none⟩))),([0],.val (.pointer (some ⟨gv,0,none⟩))),([1],.val (.pointer (some ⟨gv,2,none⟩))),([2],.val (.slice (some ⟨go,0,none⟩) n n)),([],.val (.pointer (some ⟨wr.heap.size,0,none⟩))),([4],.val (.int .i64 t)),([],.val (.pointer (some ⟨gv,0,none⟩))),([6],.val (.pointer (some ⟨gv,0,none⟩))),([7],.val (.pointer (some ⟨gv,2,none⟩))),([8],.val (.slice (some ⟨go,0,none⟩) n n)),([],.val (.pointer (some ⟨wr.heap.size,0,none⟩))),([10],.val (.int .i64 t)),([9,11],.val (.pointer (some ⟨go,t,none⟩))),([12],.val ov),([],.val (.int .i64 i)),([14],.row 3 #[.int .i64 i] 1 1),([13,15],nh (os++is) (t) (el.length+1) (lsV n es (i+1) i)),([3,5],.val (.pointer (some ⟨go,t,none⟩))),([17,16],ni go 16 25 (fun v=>(os.set t v).toArray) gi is.toArray)] [16,18] (by kernel_rfl) (by kernel_rfl) (fun us=>?_) ?_
   ·refine R3.pgo_pure _ rfl rfl (fun wv hw hu=>⟨.pointer (some ⟨gv,0,none⟩),?_,rfl⟩) ?_
    ·have tok:=True.intro;clear hw hu;go_simp
    refine R3.pgo_pure _ rfl rfl (fun wv hw hu=>⟨.pointer (some ⟨gv,0,none⟩),?_,rfl⟩) ?_
    ·have tok:=True.intro;have h0:us 0 = .pointer (some ⟨gv,0,none⟩):=hu.1;clear hw hu;go_simp
    refine R3.pgo_pure _ rfl rfl (fun wv hw hu=>⟨.pointer (some ⟨gv,2,none⟩),?_,rfl⟩) ?_
    ·have tok:=True.intro;have h1:us 1 = .pointer (some ⟨gv,0,none⟩):=hu.1;clear hw hu;go_simp
    refine R3.pgo_pure _ rfl rfl (fun wv hw hu=>⟨.slice (some ⟨go,0,none⟩) n n,?_,rfl⟩) ?_
    ·have tok:=True.intro;have h2:us 2 = .pointer (some ⟨gv,2,none⟩):=hu.1;have zy:wv.cell? ⟨gv,2,none⟩=some (.slice (some ⟨go,0,none⟩) n n):=(HV.out.drew.evo hw (.inr (of_decide_eq_true (by kernel_rfl)))).cell 2;clear hw hu;go_simp
    refine R3.pgo_pure _ rfl rfl (fun wv hw hu=>⟨.pointer (some ⟨wr.heap.size,0,none⟩),?_,rfl⟩) ?_
    ·have tok:=True.intro;clear hw hu;go_simp
    refine R3.pgo_pure _ rfl rfl (fun wv hw hu=>⟨.int .i64 t,?_,rfl⟩) ?_
    ·have tok:=True.intro;have h4:us 4 = .pointer (some ⟨wr.heap.size,0,none⟩):=hu.1;have zy:wv.cell? ⟨wr.heap.size,0,none⟩=some (.int .i64 t):=(HE.out.drew.evo hw (.inr (of_decide_eq_true (by kernel_rfl)))).cell 0;clear hw hu;go_simp
    refine R3.pgo_pure _ rfl rfl (fun wv hw hu=>⟨.pointer (some ⟨gv,0,none⟩),?_,rfl⟩) ?_
    ·have tok:=True.intro;clear hw hu;go_simp
    refine R3.pgo_pure _ rfl rfl (fun wv hw hu=>⟨.pointer (some ⟨gv,0,none⟩),?_,rfl⟩) ?_
    ·have tok:=True.intro;have h6:us 6 = .pointer (some ⟨gv,0,none⟩):=hu.1;clear hw hu;go_simp
    refine R3.pgo_pure _ rfl rfl (fun wv hw hu=>⟨.pointer (some ⟨gv,2,none⟩),?_,rfl⟩) ?_
    ·have tok:=True.intro;have h7:us 7 = .pointer (some ⟨gv,0,none⟩):=hu.1;clear hw hu;go_simp
    refine R3.pgo_pure _ rfl rfl (fun wv hw hu=>⟨.slice (some ⟨go,0,none⟩) n n,?_,rfl⟩) ?_
    ·have tok:=True.intro;have h8:us 8 = .pointer (some ⟨gv,2,none⟩):=hu.1;have zy:wv.cell? ⟨gv,2,none⟩=some (.slice (some ⟨go,0,none⟩) n n):=(HV.out.drew.evo hw (.inr (of_decide_eq_true (by kernel_rfl)))).cell 2;clear hw hu;go_simp
    refine R3.pgo_pure _ rfl rfl (fun wv hw hu=>⟨.pointer (some ⟨wr.heap.size,0,none⟩),?_,rfl⟩) ?_
    ·have tok:=True.intro;clear hw hu;go_simp
    refine R3.pgo_pure _ rfl rfl (fun wv hw hu=>⟨.int .i64 t,?_,rfl⟩) ?_
    ·have tok:=True.intro;have h10:us 10 = .pointer (some ⟨wr.heap.size,0,none⟩):=hu.1;have zy:wv.cell? ⟨wr.heap.size,0,none⟩=some (.int .i64 t):=(HE.out.drew.evo hw (.inr (of_decide_eq_true (by kernel_rfl)))).cell 0;clear hw hu;go_simp
    refine R3.pgo_pure _ rfl rfl (fun wv hw hu=>⟨.pointer (some ⟨go,t,none⟩),?_,rfl⟩) ?_
    ·have tok:=True.intro;have h9:us 9 = .slice (some ⟨go,0,none⟩) n n:=hu.1;have h11:us 11 = .int .i64 t:=hu.2.1;clear hw hu;go_simp
    refine R3.pgo_pure _ rfl rfl (fun wv hw hu=>⟨ov,?_,rfl⟩) ?_
    ·have tok:=True.intro;have h12:us 12 = .pointer (some ⟨go,t,none⟩):=hu.1;have zy:wv.cell? ⟨go,t,none⟩=some ov:=((HGgo.out.drew.evo hw (.inr (of_decide_eq_true (by kernel_rfl)))).cell t).trans HOV.out;clear hw hu;go_simp
    refine R3.pgo_pure _ rfl rfl (fun wv hw hu=>⟨.int .i64 i,?_,rfl⟩) ?_
    ·have tok:=True.intro;clear hw hu;go_simp
    refine R3.pgo_op _ rfl rfl (fun K wv hw hu hK=>?_) ?_
    ·have h14:us 14 = .int .i64 i:=hu.1;have hsv:B0≤wv.heap.size:=Nat.le_trans HBL.out hw.size;have hfin:=hK (.slice (some ⟨wv.heap.size,0,none⟩) 1 1) (wv.alloc (.cells #[.int .i64 i] 3)) (Evo.of_below ((Below.refl _ _).alloc (Nat.le_refl _) _)) ⟨_,rfl,hsv,Blk.new _ _ _⟩;refine xu (v:=.slice (some ⟨wv.heap.size,0,none⟩) 1 1) (w':=wv.alloc (.cells #[.int .i64 i] 3)) ?_ hfin;clear hw hu hK hfin hsv;go_simp
    refine R3.pgo_op _ rfl rfl (fun K wv hw hu hK=>?_) ?_
    ·have h13:us 13=ov:=hu.1;obtain ⟨g5,h15,hg5,hb5⟩:=hu.2.1;have hrw:RowsW wv B0 (os++is) (lsV n es i i):=HR.out.drew.evo hw (of_decide_eq_true (by kernel_rfl));have hix:t<(os++is).length:=HIX.out;have hix2:t<(lsV n es i i).length:=by rw [←hrw.len];exact hix
     have hov:(os++is)[t]=ov:=HOV2.out hix
     have how:wv.ownsRow B0 3 1 ov el.length (jf el):=by
      have:=hrw.own _ hix hix2;rw [hov,HEL.out hix2] at this;exact this
     have hsv:B0≤wv.heap.size:=Nat.le_trans HBL.out hw.size;have hlen:=HELn.out;refine zE qz _ _ rfl (by repeat (first | (with_reducible exact (qg _ _ _ (by simp [qF])).trans h13) | (with_reducible refine yk _ _ _ _ _ (by decide) ?_))) how (by repeat (first | (with_reducible exact (qg _ _ _ (by simp [qF])).trans h15) | (with_reducible refine yk _ _ _ _ _ (by decide) ?_))) (jr.blk' (xs:=[.int .i64 i]) hb5) rfl rfl (by omega) (by omega) hsv fun v' w' ho' hgr hd=>?_;refine hK _ _ (Evo.of_grown how hgr (by simp) (Nat.le_refl _)) ⟨jv ho',?_⟩;rw [←HLS.out];have ho2:w'.ownsRow B0 3 1 v' (el++[(i:Int)]).length (jf (el++[(i:Int)])):=by simpa [jf] using ho'
     exact hrw.app hix hix2 ho2 (by rw [hov];exact hgr) (by rw [hov];exact hd)
    refine R3.pgo_pure _ rfl rfl (fun wv hw hu=>⟨.pointer (some ⟨go,t,none⟩),?_,rfl⟩) ?_
    ·have tok:=True.intro;have h3:us 3 = .slice (some ⟨go,0,none⟩) n n:=hu.1;have h5:us 5 = .int .i64 t:=hu.2.1;clear hw hu;go_simp
    refine R3.pgo_skip _ rfl rfl (fun wv hw hu=>?_) ?_
    ·have h17:us 17 = .pointer (some ⟨go,t,none⟩):=hu.1;obtain ⟨⟨A16,c16,h16⟩,_⟩:=hu.2.1;have h16:us 16 = .slice A16 (el.length+1) c16:=h16;have hbv:=(HGgo.out.drew.evo hw (.inr (of_decide_eq_true (by kernel_rfl))));have fy:=hbv.frozen t;have zy:wv.cell? ⟨go,t,none⟩=some ov:=(hbv.cell t).trans HOV.out;refine ⟨wv.setCell ⟨go,t,none⟩ (us 16),?_,Evo.set_ hbv (by simp) (by omega) t _,⟨by simpa using hbv.set_ t (us 16),(HGgi.out.drew.evo hw (.inr (of_decide_eq_true (by kernel_rfl)))).far (fun e=>hne e.symm) _⟩⟩;rw [h16];clear hw hu hbv;go_simp
    trivial
   ·intro us w8 hw hu;have hr16:=hu.1.2;have hgo8:=hu.2.1.1;have hgi8:=hu.2.1.2;clear hu;have hgo8:Blk w8 go 25 (os.set t (us 16)).toArray:=hgo8;have hr16:RowsW w8 B0 ((os++is).set t (us 16)) (lsV n es (i+1) i):=hr16;rw [List.set_append_left _ _ (by omega)] at hr16;have hl1:(os.set t (us 16)).length=n:=by simp [hol]
    obtain ⟨os1,hos1⟩:∃z,z=os.set t (us 16):=⟨_,rfl⟩;rw [←hos1] at hgo8 hr16 hl1;have hw2:=hw.mono (T':=[3,25]) (by decide);have HV8:=Lib.hid (HV.out.drew.evo hw2 (.inr (by decide)));have HE8:=Lib.hid (HE.out.drew.evo hw2 (.inr (by decide)));have HEV8:=Lib.hid (HEV7.out.trans ((Evo.of_below (Qx (Below.refl _ w7))).trans hw2));have HG8:=Lib.hid hgo8;have HI8:=Lib.hid (show Blk w8 gi 25 is.toArray from hgi8);have HR8:=Lib.hid hr16;have hsz8:w7.heap.size≤w8.heap.size:=hw.size;clear hw hw2 hgo8 hgi8 hr16 hos1 HOV HIX HOV2 HEL HELn HLS HV HE HGgo HGgi HR HV7 HE7 HG7 HI7 HR7 HEV7 el ov;simp only [kx];go_simp
    go_upto_region 9 with fail
    obtain ⟨ov,hov⟩:∃ov,ov=is[u]'(by omega):=⟨_,rfl⟩;have ht:=HT.out;have hu:=HU.out;have HOV:=Lib.hid (show is.toArray[u]? = some ov by rw [hov];simp [List.getElem?_eq_getElem (show u<is.length by omega)]);have HIX:=Lib.hid (show n+u<(os1++is).length by simp;omega);have HOV2:=Lib.hid (show ∀h:n+u<(os1++is).length,(os1++is)[n+u]=ov by intro h;rw [hov];rw [List.getElem_append_right (by omega)];congr 1;omega);obtain ⟨el,hel⟩:∃el,el=jK es Prod.snd u i:=⟨_,rfl⟩;have HEL:=Lib.hid (show ∀h:n+u<(lsV n es (i+1) i).length,(lsV n es (i+1) i)[n+u]=el by intro h;rw [hel];exact ug (by omega) h);have HELn:=Lib.hid (show el.length≤1000 by have:=qd es Prod.snd u i;rw [←hel] at this;omega);have HLS:=Lib.hid (show (lsV n es (i+1) i).set (n+u) (el++[(i:Int)])=lsV n es (i+1) (i+1) by rw [hel];exact oM (by omega) (by rw [List.getD_eq_getElem?_getD,List.getElem?_eq_getElem hlt];exact hu));clear hov hel;have HV:=HV8;have HE:=HE8;have HGgo:=HG8;have HGgi:=HI8;have HR:=HR8;have HBL9:=Lib.hid (show B0≤w8.heap.size from Nat.le_trans HBL.out hsz8);have HBL:=HBL9;clear ht hu
    refine R3.wp_region_i B0 [[],[3],[25]] [0,0,0,0,0,0,0,0,0,0,0,0,0,0,0,0,1,0,2]
     [([],.val (.pointer (some ⟨gv,0,none⟩))),([0],.val (.pointer (some ⟨gv,0,none⟩))),([1],.val (.pointer (some ⟨gv,3,none⟩))),([2],.val (.slice (some ⟨gi,0,none⟩) n n)),([],.val (.pointer (some ⟨wr.heap.size,1,none⟩))),([4],.val (.int .i64 u)),([],.val (.pointer (some ⟨gv,0,none⟩))),([6],.val (.pointer (some ⟨gv,0,none⟩))),([7],.val (.pointer (some ⟨gv,3,none⟩))),([8],.val (.slice (some ⟨gi,0,none⟩) n n)),([],.val (.pointer (some ⟨wr.heap.size,1,none⟩))),([10],.val (.int .i64 u)),([9,11],.val (.pointer (some ⟨gi,u,none⟩))),([12],.val ov),([],.val (.int .i64 i)),([14],.row 3 #[.int .i64 i] 1 1),([13,15],nh (os1++is) (n+u) (el.length+1) (lsV n es (i+1) (i+1))),([3,5],.val (.pointer (some ⟨gi,u,none⟩))),([17,16],ni gi 16 25 (fun v=>(is.set u v).toArray) go os1.toArray)] [16,18] (by kernel_rfl) (by kernel_rfl) (fun us=>?_) ?_
    ·refine R3.pgo_pure _ rfl rfl (fun wv hw hu=>⟨.pointer (some ⟨gv,0,none⟩),?_,rfl⟩) ?_
     ·have tok:=True.intro;clear hw hu;go_simp
     refine R3.pgo_pure _ rfl rfl (fun wv hw hu=>⟨.pointer (some ⟨gv,0,none⟩),?_,rfl⟩) ?_
     ·have tok:=True.intro;have h0:us 0 = .pointer (some ⟨gv,0,none⟩):=hu.1;clear hw hu;go_simp
     refine R3.pgo_pure _ rfl rfl (fun wv hw hu=>⟨.pointer (some ⟨gv,3,none⟩),?_,rfl⟩) ?_
     ·have tok:=True.intro;have h1:us 1 = .pointer (some ⟨gv,0,none⟩):=hu.1;clear hw hu;go_simp
     refine R3.pgo_pure _ rfl rfl (fun wv hw hu=>⟨.slice (some ⟨gi,0,none⟩) n n,?_,rfl⟩) ?_
     ·have tok:=True.intro;have h2:us 2 = .pointer (some ⟨gv,3,none⟩):=hu.1;have zy:wv.cell? ⟨gv,3,none⟩=some (.slice (some ⟨gi,0,none⟩) n n):=(HV.out.drew.evo hw (.inr (of_decide_eq_true (by kernel_rfl)))).cell 3;clear hw hu;go_simp
     refine R3.pgo_pure _ rfl rfl (fun wv hw hu=>⟨.pointer (some ⟨wr.heap.size,1,none⟩),?_,rfl⟩) ?_
     ·have tok:=True.intro;clear hw hu;go_simp
     refine R3.pgo_pure _ rfl rfl (fun wv hw hu=>⟨.int .i64 u,?_,rfl⟩) ?_
     ·have tok:=True.intro;have h4:us 4 = .pointer (some ⟨wr.heap.size,1,none⟩):=hu.1;have zy:wv.cell? ⟨wr.heap.size,1,none⟩=some (.int .i64 u):=(HE.out.drew.evo hw (.inr (of_decide_eq_true (by kernel_rfl)))).cell 1;clear hw hu;go_simp
     refine R3.pgo_pure _ rfl rfl (fun wv hw hu=>⟨.pointer (some ⟨gv,0,none⟩),?_,rfl⟩) ?_
     ·have tok:=True.intro;clear hw hu;go_simp
     refine R3.pgo_pure _ rfl rfl (fun wv hw hu=>⟨.pointer (some ⟨gv,0,none⟩),?_,rfl⟩) ?_
     ·have tok:=True.intro;have h6:us 6 = .pointer (some ⟨gv,0,none⟩):=hu.1;clear hw hu;go_simp
     refine R3.pgo_pure _ rfl rfl (fun wv hw hu=>⟨.pointer (some ⟨gv,3,none⟩),?_,rfl⟩) ?_
     ·have tok:=True.intro;have h7:us 7 = .pointer (some ⟨gv,0,none⟩):=hu.1;clear hw hu;go_simp
     refine R3.pgo_pure _ rfl rfl (fun wv hw hu=>⟨.slice (some ⟨gi,0,none⟩) n n,?_,rfl⟩) ?_
     ·have tok:=True.intro;have h8:us 8 = .pointer (some ⟨gv,3,none⟩):=hu.1;have zy:wv.cell? ⟨gv,3,none⟩=some (.slice (some ⟨gi,0,none⟩) n n):=(HV.out.drew.evo hw (.inr (of_decide_eq_true (by kernel_rfl)))).cell 3;clear hw hu;go_simp
     refine R3.pgo_pure _ rfl rfl (fun wv hw hu=>⟨.pointer (some ⟨wr.heap.size,1,none⟩),?_,rfl⟩) ?_
     ·have tok:=True.intro;clear hw hu;go_simp
     refine R3.pgo_pure _ rfl rfl (fun wv hw hu=>⟨.int .i64 u,?_,rfl⟩) ?_
     ·have tok:=True.intro;have h10:us 10 = .pointer (some ⟨wr.heap.size,1,none⟩):=hu.1;have zy:wv.cell? ⟨wr.heap.size,1,none⟩=some (.int .i64 u):=(HE.out.drew.evo hw (.inr (of_decide_eq_true (by kernel_rfl)))).cell 1;clear hw hu;go_simp
     refine R3.pgo_pure _ rfl rfl (fun wv hw hu=>⟨.pointer (some ⟨gi,u,none⟩),?_,rfl⟩) ?_
     ·have tok:=True.intro;have h9:us 9 = .slice (some ⟨gi,0,none⟩) n n:=hu.1;have h11:us 11 = .int .i64 u:=hu.2.1;clear hw hu;go_simp
     refine R3.pgo_pure _ rfl rfl (fun wv hw hu=>⟨ov,?_,rfl⟩) ?_
     ·have tok:=True.intro;have h12:us 12 = .pointer (some ⟨gi,u,none⟩):=hu.1;have zy:wv.cell? ⟨gi,u,none⟩=some ov:=((HGgi.out.drew.evo hw (.inr (of_decide_eq_true (by kernel_rfl)))).cell u).trans HOV.out;clear hw hu;go_simp
     refine R3.pgo_pure _ rfl rfl (fun wv hw hu=>⟨.int .i64 i,?_,rfl⟩) ?_
     ·have tok:=True.intro;clear hw hu;go_simp
     refine R3.pgo_op _ rfl rfl (fun K wv hw hu hK=>?_) ?_
     ·have h14:us 14 = .int .i64 i:=hu.1;have hsv:B0≤wv.heap.size:=Nat.le_trans HBL.out hw.size;have hfin:=hK (.slice (some ⟨wv.heap.size,0,none⟩) 1 1) (wv.alloc (.cells #[.int .i64 i] 3)) (Evo.of_below ((Below.refl _ _).alloc (Nat.le_refl _) _)) ⟨_,rfl,hsv,Blk.new _ _ _⟩;refine xu (v:=.slice (some ⟨wv.heap.size,0,none⟩) 1 1) (w':=wv.alloc (.cells #[.int .i64 i] 3)) ?_ hfin;clear hw hu hK hfin hsv;go_simp
     refine R3.pgo_op _ rfl rfl (fun K wv hw hu hK=>?_) ?_
     ·have h13:us 13=ov:=hu.1;obtain ⟨g5,h15,hg5,hb5⟩:=hu.2.1;have hrw:RowsW wv B0 (os1++is) (lsV n es (i+1) i):=HR.out.drew.evo hw (of_decide_eq_true (by kernel_rfl));have hix:n+u<(os1++is).length:=HIX.out;have hix2:n+u<(lsV n es (i+1) i).length:=by rw [←hrw.len];exact hix
      have hov:(os1++is)[n+u]=ov:=HOV2.out hix
      have how:wv.ownsRow B0 3 1 ov el.length (jf el):=by
       have:=hrw.own _ hix hix2;rw [hov,HEL.out hix2] at this;exact this
      have hsv:B0≤wv.heap.size:=Nat.le_trans HBL.out hw.size;have hlen:=HELn.out;refine zE qz _ _ rfl (by repeat (first | (with_reducible exact (qg _ _ _ (by simp [qF])).trans h13) | (with_reducible refine yk _ _ _ _ _ (by decide) ?_))) how (by repeat (first | (with_reducible exact (qg _ _ _ (by simp [qF])).trans h15) | (with_reducible refine yk _ _ _ _ _ (by decide) ?_))) (jr.blk' (xs:=[.int .i64 i]) hb5) rfl rfl (by omega) (by omega) hsv fun v' w' ho' hgr hd=>?_;refine hK _ _ (Evo.of_grown how hgr (by simp) (Nat.le_refl _)) ⟨jv ho',?_⟩;rw [←HLS.out];have ho2:w'.ownsRow B0 3 1 v' (el++[(i:Int)]).length (jf (el++[(i:Int)])):=by simpa [jf] using ho'
      exact hrw.app hix hix2 ho2 (by rw [hov];exact hgr) (by rw [hov];exact hd)
     refine R3.pgo_pure _ rfl rfl (fun wv hw hu=>⟨.pointer (some ⟨gi,u,none⟩),?_,rfl⟩) ?_
     ·have tok:=True.intro;have h3:us 3 = .slice (some ⟨gi,0,none⟩) n n:=hu.1;have h5:us 5 = .int .i64 u:=hu.2.1;clear hw hu;go_simp
     refine R3.pgo_skip _ rfl rfl (fun wv hw hu=>?_) ?_
     ·have h17:us 17 = .pointer (some ⟨gi,u,none⟩):=hu.1;obtain ⟨⟨A16,c16,h16⟩,_⟩:=hu.2.1;have h16:us 16 = .slice A16 (el.length+1) c16:=h16;have hbv:=(HGgi.out.drew.evo hw (.inr (of_decide_eq_true (by kernel_rfl))));have fy:=hbv.frozen u;have zy:wv.cell? ⟨gi,u,none⟩=some ov:=(hbv.cell u).trans HOV.out;refine ⟨wv.setCell ⟨gi,u,none⟩ (us 16),?_,Evo.set_ hbv (by simp) (by omega) u _,⟨by simpa using hbv.set_ u (us 16),(HGgo.out.drew.evo hw (.inr (of_decide_eq_true (by kernel_rfl)))).far (fun e=>hne e) _⟩⟩;rw [h16];clear hw hu hbv;go_simp
     trivial
    ·intro us w9 hw hu;have hr16:=hu.1.2;have hgi9:=hu.2.1.1;have hgo9:=hu.2.1.2;clear hu;have hgi9:Blk w9 gi 25 (is.set u (us 16)).toArray:=hgi9;have hr16:RowsW w9 B0 ((os1++is).set (n+u) (us 16)) (lsV n es (i+1) (i+1)):=hr16;rw [List.set_append_right _ _ (by omega),show n+u-os1.length=u by omega] at hr16;have hl2:(is.set u (us 16)).length=n:=by simp [hil]
     have hw2:=hw.mono (T':=[3,25]) (by decide);have HEV9:=Lib.hid (HEV8.out.trans ((Evo.of_below (Qx (Below.refl _ w8))).trans hw2));have HG9:=Lib.hid (show Blk w9 go 25 os1.toArray from hgo9);have HI9:=Lib.hid hgi9;have HR9:=Lib.hid hr16;clear hw hw2 hgo9 hgi9 hr16 HOV HIX HOV2 HEL HELn HLS HV HE HGgo HGgi HR HV8 HE8 HG8 HI8 HR8 HEV8 el ov;simp only [kx];go_simp;go_wp2_with fail
     go_roundg (es.length-(i+1))
     case measure=>rw [Hk.out];omega
     case rel=>exact ⟨i+1,os1,_,by go_num,by omega,rfl,hl1,hl2,HG9.out,HI9.out,HR9.out,HEV9.out⟩
  ·have hie:i=es.length:=by omega
   subst hie;have hlt':¬(es.length:Int)<es.length:=by omega
   have HEV9:=Lib.hid ((HEV.out.mono (T':=[91,3,25]) (by decide)).trans (hev.mono (by decide)));have HA9:=Lib.hid (qA HA5.out hev (by decide));have HV9:=Lib.hid (HV5.out.evo hev (.inr (by decide)));have HG9:=Lib.hid hgo';have HI9:=Lib.hid hgi';have HR9:=Lib.hid hr;have hev2:=hev;clear hgo' hgi' hr hev;have HBW:=Lib.hid (HB4.out.trans ((HEV9.out.below (by omega)).mono hB0));clear hev2;go_wp2_with fail;go_ret;exact ⟨gv,rfl,HBW.out,A4,c4,go,gi,os,is,by simpa using HV9.out,jr.of_own HA9.out,hol,hil,HG9.out,HI9.out,HR9.out.mono (Nat.zero_le _)⟩
def vN(n:Int)(es:List (Int×Int)):Nat:=if vj n es then n.toNat else 0
def vE(n:Int)(es:List (Int×Int)):List (Int×Int):=if vj n es then es else []
theorem pm{n:Int}{es:List (Int×Int)}:vN n es≤64∧(vE n es).length≤1000 ∧ ∀e∈vE n es,0≤e.1∧e.1<(vN n es:Int)∧0≤e.2∧e.2<(vN n es:Int):=by
 cases hm:vj n es with
 | true=>
  rw [vN,vE,if_pos hm,if_pos hm];obtain ⟨hm1,hm2,hm3⟩:=jP hm;refine ⟨by omega,by omega,fun e he=>?_⟩;have:=XD hm e he;omega
 | false=>
  rw [vN,vE,if_neg (by rw [hm];simp),if_neg (by rw [hm];simp)];exact ⟨by omega,by simp,by simp⟩
set_option maxRecDepth 20000 in
set_option maxHeartbeats 4000000 in
theorem um(n:Int)(A:Option Addr)(cap:Nat)(es:List (Int×Int))(w:World)(hes:jr w w.heap.size A (jA es)) :
  Calls Tryz.prog 39 #[.agg #[.int .i64 n,.slice A es.length cap]] w (fun e w'=>∃gv,e = .returned (.pointer (some ⟨gv,0,none⟩))∧Below w.heap.size w w'∧zC w' gv (vN n es) (vE n es)):=by
 go_enter Tryz.func39,Tryz.ntmps39
 go_upto_region 1 with fail
 have b0:=Blk.new w 24 #[.int .i64 n,.slice A es.length cap];have hbw:=(Below.refl w.heap.size w).alloc (Nat.le_refl _) (.cells #[.int .i64 n,.slice A es.length cap] 24);have s1:=World.size_alloc w (.cells #[.int .i64 n,.slice A es.length cap] 24);have g0:=b0.cell 0;have g1:=b0.cell 1;simp only [List.getElem?_toArray,List.getElem?_cons_zero,List.getElem?_cons_succ] at g0 g1;generalize w.alloc (.cells #[.int .i64 n,.slice A es.length cap] 24)=w1 at *;have l1:w.heap.size<w1.heap.size:=by omega
 have HES:=Lib.hid ((hes.below hbw).more hbw.size);have HBW:=Lib.hid hbw;have HB0:=Lib.hid b0;clear hes hbw b0
 go_cut [8] (fun s8 w2=>s8 = .bool (!vj n es)∧Below w1.heap.size w1 w2)
 case first=>
  go_wp2_with fail;refine (ZP n A cap es w1 HES.out).mono ?_;rintro e w2 ⟨rfl,hb2⟩;have HB2:=Lib.hid hb2;clear hb2;go_wp2_with fail
  go_meet
  exact ⟨rfl,HB2.out⟩
 obtain ⟨rfl,hb2⟩:=hcut;obtain ⟨w2,rfl⟩:∃x,x=wc:=⟨_,rfl⟩;refine (show ∀(a:Act) (w:World),Code.wp _ (Code.cond _ _ _) _ a w→_ from by assumption) _ _ ?_
 go_cut [] (fun wc=>∃(A':Option Addr) (c':Nat),wc.cell? ⟨w.heap.size,0,none⟩=some (.int .i64 (vN n es:Nat))∧wc.cell? ⟨w.heap.size,1,none⟩=some (.slice A' (vE n es).length c')∧jr wc wc.heap.size A' (jA (vE n es))∧Below w.heap.size w wc∧w.heap.size<wc.heap.size)
 case first=>
  have hz2:=hb2.size;have HBW2:=Lib.hid (HBW.out.trans (hb2.mono (Nat.le_of_lt l1)));have l2:w.heap.size<w2.heap.size:=by omega
  have hb0:=HB0.out.below hb2 l1
  cases hm:vj n es with
  | true=>
   have HES2:=Lib.hid ((HES.out.below hb2).more hz2);have HC0:=Lib.hid hb0;have HX:=Lib.hid (show vN n es=n.toNat∧vE n es=es by rw [vN,vE,if_pos hm,if_pos hm];exact ⟨rfl,rfl⟩);have HP:=Lib.hid (jP hm);clear g0 g1 hb2 hb0 hm;go_wp2_with fail
   go_meet
   refine ⟨A,cap,(HC0.out.cell 0).trans ?_,?_,?_,HBW2.out,l2⟩
   ·rw [HX.out.1];have:=HP.out.1;have e:((n.toNat:Nat):Int)=n:=by omega
    rw [e];rfl
   ·rw [HX.out.2];exact HC0.out.cell 1
   ·rw [HX.out.2];exact HES2.out
  | false=>
   have HX:=Lib.hid (show vN n es=0∧vE n es=[] by rw [vN,vE,if_neg (by rw [hm];simp),if_neg (by rw [hm];simp)];exact ⟨rfl,rfl⟩);have z0:w2.cell? ⟨w.heap.size,0,none⟩=some (.int .i64 n):=hb0.cell 0;have z1:w2.cell? ⟨w.heap.size,1,none⟩=some (.slice A es.length cap):=hb0.cell 1;have fz:=hb0.frozen 0;have fz1:=hb0.frozen 1;have HB2:=Lib.hid ((hb0.set_ 0 (.int .i64 0)).set_ 1 (.slice none 0 0));have HBW3:=Lib.hid ((HBW2.out.setCell (p:=⟨w.heap.size,0,none⟩) (Nat.le_refl _) (.int .i64 0)).setCell (p:=⟨w.heap.size,1,none⟩) (Nat.le_refl _) (.slice none 0 0));clear g0 g1 hb2 hb0 hm;go_wp2_with fail
   go_meet
   refine ⟨none,0,(HB2.out.cell 0).trans ?_,(HB2.out.cell 1).trans ?_,?_,HBW3.out,?_⟩
   ·rw [HX.out.1];rfl
   ·rw [HX.out.2];rfl
   ·rw [HX.out.2];exact jr.nil
   ·simpa using l2
 clear hb2;obtain ⟨A',c',d0,d1,hc,hbc,lc⟩:=hcut;obtain ⟨hi1,hi2,hi3⟩:=@pm n es;have HI3:=Lib.hid hi3;have HC:=Lib.hid hc;have HBC:=Lib.hid hbc;have hmk:=fun W=>yz KO rfl (vN n es) (by omega) (by omega) W;obtain ⟨w3,rfl⟩:∃x,x=wc:=⟨_,rfl⟩;clear HES HBW HB0 g0 g1 s1 l1 hi3 hc hbc
 go_upto_region 3 with fail
 go_cut [3] (fun s3 wc=>∃gv go gi:Nat,s3 = .pointer (some ⟨gv,0,none⟩)∧w3.heap.size≤go∧w3.heap.size≤gi∧go≠gi∧w3.heap.size≤gv∧Blk wc gv 91 #[.int .i64 (vN n es:Nat),.slice A' (vE n es).length c',.slice (some ⟨go,0,none⟩) (vN n es) (vN n es),.slice (some ⟨gi,0,none⟩) (vN n es) (vN n es)]∧Blk wc go 25 (Array.replicate (vN n es) (.slice none 0 0))∧Blk wc gi 25 (Array.replicate (vN n es) (.slice none 0 0))∧Below w3.heap.size w3 wc)
 case first=>
  go_region
  all_goals go_wp2
  all_goals go_meet
  ·exact ⟨_,w3.heap.size,w3.heap.size+1,rfl,by omega,by omega,by omega,by omega,(QM _ _ _ _ (by simp)).drew,(((Blk.new w3 _ _).alloc _).alloc _).drew,((QM _ _ _ _ (by simp)).alloc _).drew,Xa ((((Below.refl _ _).alloc (Nat.le_refl _) _).alloc (by simp) _).alloc (by simp;omega) _)⟩
  ·exact ⟨_,w3.heap.size+1,w3.heap.size,rfl,by omega,by omega,by omega,by omega,(QM _ _ _ _ (by simp)).drew,((QM _ _ _ _ (by simp)).alloc _).drew,(((Blk.new w3 _ _).alloc _).alloc _).drew,Xa ((((Below.refl _ _).alloc (Nat.le_refl _) _).alloc (by simp) _).alloc (by simp;omega) _)⟩
 obtain ⟨gv,go,gi,rfl,h1,h2,h3,h4,hv,ho,hi,hbd⟩:=hcut;have hz:=hbd.size;have hz3:=HBC.out.size
 go_upto_region 4 with fail
 exact ri (vN n es) A' c' w.heap.size gv go gi w3.heap.size (vE n es) w wc ((hbd.cell (p:=⟨w.heap.size,1,none⟩) lc).trans d1) lc (HC.out.keep (w':=wc) fun p hp=>hbd.cell hp) HI3.out hi1 hi2 (HBC.out.trans (hbd.mono hz3)) hz3 hz h4 h1 h2 h3 hv ho hi _ _ _ _ _ _ _ _ _ _ _ _ _ _ _ _ _ _ _ _ _ _ _ _ _ _ _ _ _ _ _ _ _ _ _ _ _ _ _ _ _ _ _ _ _ _ _ _ _ _ _ _ _ _ _ _ _ _ _ _ _ _ _ _ _ (by assumption)
end Go.Proofs.YtneeknlhlkpnpaaGreat
namespace Go.Proofs.YtneeknlhlkpnpaaGreat
open Go.RowKit
theorem Jo{w:World}{base n c:Nat}{A:Option Addr}{t:TypeId}{xs:List Value}(h:w.ownsRow base t 1 (.slice A n c) n xs)(hn:0<n) :
  ∃g R,A=some ⟨g,0,none⟩∧base≤g∧Blk w g t (xs.toArray++R)∧xs.length+R.size=c∧n≤c∧c≤maxLen∧xs.length=n:=by
 obtain ⟨g,cap,R,he,h1,h2,h3,h4,h5,h6⟩:=xO h hn;injection he with e1 e2 e3;subst e1 e3;exact ⟨g,R,rfl,h1,h2,by omega,h4,h5,by omega⟩
theorem bd{w:World}{base n c g:Nat}{t:TypeId}{xs:List Value}{R:Array Value}(hb:base≤g)(h:Blk w g t (xs.toArray++R))(h1:xs.length+R.size=c)(h2:n≤c)(h3:c≤maxLen)(h4:xs.length=n):w.ownsRow base t 1 (.slice (some ⟨g,0,none⟩) n c) n xs:=
 vl hb h (by omega) h2 h3 (by omega)
theorem uF{w:World}{base n size g:Nat}{v:Value}{e:TypeId}{xs:List Value}(h:w.ownsRow base e size v n xs)(hg:g<base):v.ownBlock=none∨v.ownBlock≠some g:=by
 cases hv:v.ownBlock with
 | none=>exact .inl rfl
 | some k=>
  have:=(h.lt k hv).1;exact .inr (by simp;omega)
theorem Kx{w:World}{base n size:Nat}{u v:Value}{e:TypeId}{xs:List Value}(h:w.ownsRow base e size u n xs)(hv:∀k,v.ownBlock=some k→k<base):v.ownBlock=none∨v.ownBlock≠u.ownBlock:=by
 cases hk:v.ownBlock with
 | none=>exact .inl rfl
 | some k=>
  refine .inr fun e=>?_;have:=(h.lt k e.symm).1;have:=hv k hk;omega
set_option maxRecDepth 20000 in
set_option maxHeartbeats 4000000 in
theorem nW(gv n:Nat)(es:List (Int×Int))(w:World)(hv:zC w gv n es)(hE:∀e∈es,0≤e.1∧e.1<(n:Int)∧0≤e.2∧e.2<(n:Int))(hn:n≤64)(hl:es.length≤1000) :
  Calls Tryz.prog 131 #[.pointer (some ⟨gv,0,none⟩)] w (fun e w'=>∃v1 v2,e = .returned (.tuple #[v1,v2])∧Below w.heap.size w w'∧w'.ownsRow w.heap.size 3 1 v1 (qO es n).length (jf (qO es n))):=by
 obtain ⟨A,c,go,gi,os,is,hbv,hes,hol,hil,hgo,hgi,hrw⟩:=hv;have HV:=Lib.hid hbv;have HES:=Lib.hid hes;have HGO:=Lib.hid hgo;have HGI:=Lib.hid hgi;have HRW:=Lib.hid hrw;have HE:=Lib.hid hE;have z2:w.cell? ⟨gv,2,none⟩=some (.slice (some ⟨go,0,none⟩) n n):=hbv.cell 2;have z3:w.cell? ⟨gv,3,none⟩=some (.slice (some ⟨gi,0,none⟩) n n):=hbv.cell 3;have lv:=hbv.lt;have lgo:=hgo.lt;have lgi:=hgi.lt;clear hbv hes hgo hgi hrw hE
 go_enter Tryz.func131,Tryz.ntmps131
 go_wp2_with fail
 go_loopg [3,14] n (fun k s3 s14 wr=>∃i:Nat,s14 = .int .i64 i∧i≤n∧k=n-i∧Below w.heap.size w wr∧wr.ownsRow w.heap.size 3 1 s3 i (jf ((qK n es []).take i)))
 case atStart=>exact ⟨0,rfl,Nat.zero_le _,rfl,Below.refl _ _,World.ownsRow_nil _ _ _ _⟩
 case round=>
  obtain ⟨i,rfl,hi,hk,hb,hown⟩:=hrel;have Hk:=Lib.hid hk;have HB:=Lib.hid hb;have HO:=Lib.hid hown;have hsz:=hb.size;have y3:=(hb.cell (p:=⟨gv,3,none⟩) lv).trans z3;clear hk hb hown;by_cases hlt:i<n
  ·have hlt':(i:Int)<n:=by omega
   have hix:n+i<(os++is).length:=by simp;omega
   have hro:=HRW.out.own (n+i) hix (by rw [←HRW.out.len];exact hix);rw [List.getElem_append_right (by omega),ug hlt] at hro;simp only [show n+i-os.length=i by omega] at hro;obtain ⟨Ai,ci,hiv⟩:=jv hro;have yi:wr.cell? ⟨gi,i,none⟩=some (.slice Ai (jK es Prod.snd i es.length).length ci):=(HB.out.cell (p:=⟨gi,i,none⟩) lgi).trans ((HGI.out.cell i).trans (by rw [←hiv];simp [List.getElem?_eq_getElem (show i<is.length by omega)]));obtain ⟨li,hli⟩:∃z,z=(jK es Prod.snd i es.length).length:=⟨_,rfl⟩;have hli2:li≤es.length:=by rw [hli];exact qd _ _ _ _
   rw [←hli] at yi
   have HW:=Lib.hid (show (qK n es []).take (i+1)=(qK n es []).take i++[(li:Int)] by
    rw [List.take_succ_eq_append_getElem (by rw [qf];exact hlt)];congr 2
    have:(qK n es [])[i]'(by rw [qf];exact hlt)=((List.range n).map fun h:Nat=>((jK es Prod.snd h es.length).length:Int))[i]'(by simpa using hlt):=by
     congr 1;exact XK n es
    rw [this,hli]
    simp)
   clear hro hiv hli;go_wp2_with (at_builtin;refine yC qz rfl _ _ rfl w.heap.size u3 _ _ rfl wr.heap.size [.int .i64 (li:Int)] rfl rfl HO.out rfl rfl ?h2 ?h3 ?h4 ?_)
   case h2=>omega
   case h3=>omega
   case h4=>omega
   intro v5 w5 ho5 hg5 _;have HB5:=Lib.hid (qb HB.out HO.out hg5 hsz (Nat.le_refl _));have HO5:=Lib.hid (show w5.ownsRow w.heap.size 3 1 v5 (i+1) (jf ((qK n es []).take (i+1))) by rw [HW.out];simpa [jf] using ho5);clear ho5 hg5 HO HB y3 yi;go_wp2_with fail
   go_roundg (n-(i+1))
   case measure=>rw [Hk.out];omega
   case rel=>exact ⟨i+1,by go_num,by omega,rfl,HB5.out,HO5.out⟩
  ·have hie:n=i:=by omega
   subst hie;have hlt':¬(n:Int)<n:=by omega
   obtain ⟨A3,c3,hs3⟩:=jv HO.out
   have HO1:=Lib.hid (show wr.ownsRow w.heap.size 3 1 (.slice A3 n c3) n (jf (qK n es [])) by
    have:=HO.out;rw [List.take_of_length_le (by rw [qf];exact Nat.le_refl _)] at this
    rw [←hs3];exact this)
   rw [hs3];have HA3:=Lib.hid (fun k hk=>(HO1.out.lt k hk).2);clear HO hs3 y3;go_wp2_with fail;obtain ⟨w1,rfl⟩:∃x,x=wr:=⟨_,rfl⟩
   go_loopg [2,3] n (fun k s2 s3 wr=>∃out:List Int,s3 = .slice A3 n c3∧Ord es n out∧qO es n=YR es n (n-out.length) out∧k=n-out.length∧Below w.heap.size w wr∧w1.heap.size≤wr.heap.size∧wr.ownsRow w1.heap.size 3 1 s2 out.length (jf out)∧wr.ownsRow w.heap.size 3 1 (.slice A3 n c3) n (jf (qK n es out)))
   case atStart=>exact ⟨[],rfl,Ord.nil es n,rfl,rfl,HB.out,Nat.le_refl _,World.ownsRow_nil _ _ _ _,HO1.out⟩
   case round=>
    obtain ⟨out,rfl,hord,hrun,hk,hb,hsw,hown,hwt⟩:=hrel;have Hk:=Lib.hid hk;have HRun:=Lib.hid hrun;have HOrd:=Lib.hid hord;have HB2:=Lib.hid hb;have HO2:=Lib.hid hown;have HW2:=Lib.hid hwt;have hidx:=Jg A3 c3 (qK n es out) 0 wr (jr.of_own hwt) (by rw [qf];omega);rw [qf] at hidx;clear hk hrun hord hb hown hwt;go_wp2_with fail;refine hidx.mono ?_;rintro e w2 ⟨rfl,rfl⟩;clear hidx
    cases hx:kC es n out with
    | none=>
     rw [YA hx];have HF:=Lib.hid (show qO es n=out by rw [HRun.out,UK hx]);clear hx;go_wp2_with fail;go_ret2;exact ⟨_,_,rfl,HB2.out,by rw [HF.out];exact qh HO2.out HB.out.size⟩
    | some x=>
     obtain ⟨hxn,hix⟩:=Yz hx;rw [hix];have HX:=Lib.hid hx;have hxn':(x:Int)<n:=by omega
     have hx0:¬(x:Int)<0:=by omega
     have hll:=(HOrd.out.push hx).le;simp only [List.length_append,List.length_singleton] at hll;clear hx hix;have hsz2:=HB2.out.size;go_wp2_with (at_builtin;refine yC qz rfl _ _ rfl w1.heap.size u2 _ _ rfl wr.heap.size [.int .i64 (x:Int)] rfl rfl HO2.out rfl rfl ?h2 ?h3 ?h4 ?_)
     case h2=>omega
     case h3=>omega
     case h4=>omega
     intro v5 w5 ho5 hg5 hat5;have hsz5:=hg5.size;have hwt5:=HW2.out.kept hg5 (Kx HO2.out HA3.out);have HB5:=Lib.hid (qb HB2.out HO2.out hg5 hsz2 HB.out.size);have HO5:=Lib.hid (show w5.ownsRow w1.heap.size 3 1 v5 (out++[(x:Int)]).length (jf (out++[(x:Int)])) by simpa [jf] using ho5);obtain ⟨g,R,hA3,hgb,hgB,hR,hnc,hcm,_⟩:=Jo hwt5 (by omega);have HRl:=Lib.hid hR;have hg1:g<w1.heap.size:=HA3.out g (by rw [hA3];rfl);have HGB:=Lib.hid hgB;have cx:=hgB.intR (k:=x) (by rw [qf];exact hxn);have fx:=hgB.frozen x;have hgs:g<w5.heap.size:=hgB.lt;have HG6:=Lib.hid (hgB.setIntR x (-1) (by rw [qf];exact hxn));have HB6:=Lib.hid (HB5.out.setCell (p:=⟨g,x,none⟩) hgb (.int .i64 (-1)));have HO6:=Lib.hid (HO5.out.kept (zP (World.grownBy.refl w5 (some g)) (p:=⟨g,x,none⟩) (.inl rfl) (.int .i64 (-1))) (uF HO5.out hg1));have y2:=(HB6.out.cell (p:=⟨gv,2,none⟩) lv).trans z2;have y1:=(HB6.out.cell (p:=⟨gv,1,none⟩) lv).trans (HV.out.cell 1);simp only [List.getElem?_toArray,List.getElem?_cons_zero,List.getElem?_cons_succ] at y1;have hix:x<(os++is).length:=by simp;omega
     have hro:=HRW.out.own x hix (by rw [←HRW.out.len];exact hix);rw [List.getElem_append_left (by omega),JE hxn] at hro;obtain ⟨Ax,cx2,hxv⟩:=jv hro;have yx:(w5.setCell ⟨g,x,none⟩ (.int .i64 (-1))).cell? ⟨go,x,none⟩=some (.slice Ax (jK es Prod.fst x es.length).length cx2):=(HB6.out.cell (p:=⟨go,x,none⟩) lgo).trans ((HGO.out.cell x).trans (by rw [←hxv];simp [List.getElem?_eq_getElem (show x<os.length by omega)]));rw [hxv] at hro;have HAx:=Lib.hid (jr.of_own hro);subst hA3;obtain ⟨lx,hlx⟩:∃z,z=(jK es Prod.fst x es.length).length:=⟨_,rfl⟩;have hlx2:lx≤es.length:=by rw [hlx];exact qd _ _ _ _
     rw [←hlx] at yx;have HLX:=Lib.hid hlx;have hss:(w5.setCell ⟨g,x,none⟩ (.int .i64 (-1))).heap.size=w5.heap.size:=by simp
     clear ho5 hg5 hat5 hwt5 HW2 HO2 HB2 HO5 HB5 hR hgB HGB hro hxv hlx;go_wp2_with fail;generalize w5.setCell ⟨g,x,none⟩ (.int .i64 (-1))=w6 at *;rw [VJ] at HG6;obtain ⟨w4,rfl⟩:∃y,y=wr:=⟨_,rfl⟩
     go_loopg [45] lx (fun k s45 wr=>∃j:Nat,s45 = .int .i64 j∧j≤lx∧k=lx-j∧w6.grownBy wr (some g)∧Blk wr g 3 ((jf (vf n es out x j)).toArray++R))
     case atStart=>exact ⟨0,rfl,Nat.zero_le _,rfl,World.grownBy.refl _ _,HG6.out⟩
     case round=>
      obtain ⟨j,rfl,hj,hk2,hgr,hbj⟩:=hrel;have Hk2:=Lib.hid hk2;have HGR:=Lib.hid hgr;have HBJ:=Lib.hid hbj;have HBW:=Lib.hid (HB6.out.trans ((Below.refl w.heap.size w6).grown hgr (by omega) (fun k hk=>by injection hk;omega)));have hszr:=hgr.size;clear hk2 hgr hbj;by_cases hjl:j<lx
      ·have hjl':(j:Int)<lx:=by omega
       have hjl2:j<(jK es Prod.fst x es.length).length:=by have:=HLX.out;omega
       obtain ⟨i,hei,hil,hi1⟩:=ZK hjl2;obtain ⟨bx,offx,hAxe,hbx,hcx⟩:=HAx.out.ints (by omega);obtain ⟨b,off,hAe,hbb,hcc⟩:=HES.out.edges (by omega);have c0:=(HBW.out.cell (p:=⟨bx,offx+j,none⟩) hbx).trans (hcx j hjl2);rw [hei] at c0;obtain ⟨_,c1⟩:=hcc i hil;have c1':=(HBW.out.cell (p:=⟨b,off+i*2+1,none⟩) hbb).trans c1;obtain ⟨q0,q1,q2,q3⟩:=HE.out es[i] (List.getElem_mem hil);obtain ⟨t,ht⟩:=Int.eq_ofNat_of_zero_le q2;have ht':es[i].2=(t:Int):=ht;rw [ht'] at c1';have htn:t<n:=by omega
       have htn':(t:Int)<n:=by omega
       have hil':(i:Int)<es.length:=by omega
       have HS:=Lib.hid (VK HOrd.out HX.out hjl2 hei hil ht' htn);obtain ⟨vb1,vb2⟩:=Zj (n:=n) (es:=es) (out:=out) (x:=(x:Int)) (j:=j) (t:=t) hl;have ct:=HBJ.out.intR (k:=t) (by rw [zR];exact htn);obtain ⟨v,hv⟩:∃v,v=(vf n es out x j).getD t 0:=⟨_,rfl⟩;rw [←hv] at ct vb1 vb2;have hwv:wrap64 (v-1)=v-1:=by unfold wrap64;omega
       have ft:=HBJ.out.frozen t;have y1r:=(HBW.out.cell (p:=⟨gv,1,none⟩) lv).trans (HV.out.cell 1);simp only [List.getElem?_toArray,List.getElem?_cons_zero,List.getElem?_cons_succ] at y1r
       have HBS:=Lib.hid (show Blk (wr.setCell ⟨g,t,none⟩ (.int .i64 (v-1))) g 3 ((jf (vf n es out x (j+1))).toArray++R) by
        rw [←HS.out,←hv]
        exact HBJ.out.setIntR t (v-1) (by rw [zR];exact htn))
       have HGS:=Lib.hid (zP HGR.out (p:=⟨g,t,none⟩) (.inl rfl) (.int .i64 (v-1)));subst hAxe hAe;clear hcx hcc c1 ht ht' q0 q1 q2 q3 hi1 hei hv HS y1 y2 yx;go_wp2_with fail
       go_roundg (lx-(j+1))
       case measure=>rw [Hk2.out];omega
       case rel=>exact ⟨j+1,by go_num,by omega,rfl,HGS.out,HBS.out⟩
      ·have hje:j=lx:=by omega
       have HBF:=Lib.hid (show Blk wr g 3 ((jf (qK n es (out++[(x:Int)]))).toArray++R) by
        rw [←XJ HX.out,←HLX.out,←hje];exact HBJ.out)
       have hjl':¬(j:Int)<lx:=by omega
       have HOF:=Lib.hid (HO6.out.kept HGR.out (uF HO6.out hg1));have HWF:=Lib.hid (bd (base:=w.heap.size) (n:=n) (c:=c3) hgb HBF.out (by have:=HRl.out;simp [jf,qf] at this ⊢;omega) hnc hcm (by simp [jf,qf]))
       have HRF:=Lib.hid (show qO es n=YR es n (n-(out++[(x:Int)]).length) (out++[(x:Int)]) by
        rw [HRun.out,List.length_append,List.length_singleton,←UL HX.out];congr 1;omega)
       have HOrF:=Lib.hid (HOrd.out.push HX.out);clear HBF HBJ hje y1 y2 yx;go_wp2_with fail
       go_roundg (n-(out.length+1))
       case measure=>rw [Hk.out];omega
       case rel=>exact ⟨out++[(x:Int)],rfl,HOrF.out,HRF.out,by simp,HBW.out,by omega,HOF.out,HWF.out⟩
end Go.Proofs.YtneeknlhlkpnpaaGreat
namespace Go.Proofs.YtneeknlhlkpnpaaGreat
open Go.RowKit
def kO(n:Nat)(es:List (Int×Int)):Bool:=decide ((qO es n).length=n)
set_option maxRecDepth 20000 in
theorem UY(gv n:Nat)(es:List (Int×Int))(w:World)(hv:zC w gv n es)(hE:∀e∈es,0≤e.1∧e.1<(n:Int)∧0≤e.2∧e.2<(n:Int))(hn:n≤64)(hl:es.length≤1000) :
  Calls Tryz.prog 105 #[.pointer (some ⟨gv,0,none⟩)] w (fun e w'=>∃v,e = .returned (.tuple #[v,.bool (kO n es)])∧Below w.heap.size w w'∧(kO n es=true→w'.ownsRow w.heap.size 3 1 v n (jf (qO es n)))):=by
 have HV:=Lib.hid hv;have HE:=Lib.hid hE;clear hv hE;have hle:=(uf es n).le
 go_enter Tryz.func105,Tryz.ntmps105
 go_wp2_with fail;refine (nW gv n es w HV.out HE.out hn hl).mono ?_;rintro e w2 ⟨v1,v2,rfl,hb,hown⟩;obtain ⟨A,c,rfl⟩:=jv hown;have HB:=Lib.hid hb;have HO:=Lib.hid hown;obtain ⟨A0,c0,go,gi,os,is,hbv,_⟩:=HV.out;have z0:w2.cell? ⟨gv,0,none⟩=some (.int .i64 n):=(hb.cell (p:=⟨gv,0,none⟩) hbv.lt).trans (hbv.cell 0);clear hb hown hbv;by_cases hlt:(qO es n).length<n
 ·have hlt':((qO es n).length:Int)<n:=by omega
  have HF:=Lib.hid (show kO n es=false by unfold kO;simp;omega);go_wp2_with fail;go_ret2;rw [HF.out];exact ⟨_,rfl,HB.out,fun h=>by cases h⟩
 ·have hlt':¬((qO es n).length:Int)<n:=by omega
  have HF:=Lib.hid (show kO n es=true by unfold kO;simp;omega);have HL:=Lib.hid (show (qO es n).length=n by omega);go_wp2_with fail;go_ret2;rw [HF.out];exact ⟨_,rfl,HB.out,fun _=>by have:=HO.out;rw [HL.out] at this;rw [HL.out];exact this⟩
set_option maxRecDepth 20000 in
theorem UE(gv n gl x c:Nat)(Ai:Option Addr)(l:List Int)(w:World)(z0:w.cell? ⟨gv,0,none⟩=some (.int .i64 n))(zi:w.cell? ⟨gl,x,none⟩=some (.slice Ai l.length c))(hx:x<n)(hc:jr w w.heap.size Ai (jf l))(hl:l.length≤1000) :
  Calls Tryz.prog 101 #[.pointer (some ⟨gv,0,none⟩),.slice (some ⟨gl,0,none⟩) n n,.int .i64 x] w (fun e w'=>∃v,e = .returned v∧Below w.heap.size w w'∧w'.ownsRow w.heap.size 3 1 v l.length (jf l)):=by
 have hxn:¬((n:Int)≤(x:Int)):=by omega
 have hxn':(x:Int)<n:=by omega
 have hx0:¬(x:Int)<0:=by omega
 have HC:=Lib.hid hc;clear hc
 go_enter Tryz.func101,Tryz.ntmps101
 go_wp2_with fail;refine (Wv Ai c l w HC.out hl).mono ?_;rintro e w2 ⟨v,rfl,hb,hown⟩;have HB:=Lib.hid hb;have HO:=Lib.hid hown;clear hb hown;go_wp2_with fail;go_ret;exact ⟨_,rfl,HB.out,HO.out⟩
end Go.Proofs.YtneeknlhlkpnpaaGreat
namespace Go.Proofs.YtneeknlhlkpnpaaGreat
def tl(es:List (Int×Int))(i:Int):Int:=(es.getD i.toNat (0,0)).1
def kn(es:List (Int×Int))(out:List Int)(i:Int):List Int:=out.set (hd es i).toNat (max (out.getD (hd es i).toNat 0) (out.getD (tl es i).toNat 0+1))
def kH(es:List (Int×Int))(out:List Int)(l:List Int):List Int:=l.foldl (kn es) out
theorem Yv(es:List (Int×Int))(out:List Int)(i:Int):(kn es out i).length=out.length:=by simp [kn]
theorem Ui(es:List (Int×Int))(l:List Int):∀out:List Int,(kH es out l).length=out.length:=by
 induction l with
 | nil=>exact fun _=>rfl
 | cons a r ih=>intro out;show (kH es (kn es out a) r).length=_;rw [ih,Yv]
def Bd(k:Nat)(out:List Int):Prop:=∀t,0≤out.getD t 0∧out.getD t 0≤k
theorem Uo{l:List Int}{i:Nat}(h:i<l.length)(v:Int):(l.set i v).getD i 0=v:=by
 rw [List.getD_eq_getElem?_getD,List.getElem?_set_self h];rfl
theorem av{l:List Int}{i j:Nat}(h:i≠j)(v:Int):(l.set i v).getD j 0=l.getD j 0:=by
 rw [List.getD_eq_getElem?_getD,List.getElem?_set_ne h,List.getD_eq_getElem?_getD]
theorem bG{l:List Int}{i:Nat}(h:l.length≤i):l.getD i 0=0:=by
 rw [List.getD_eq_getElem?_getD,List.getElem?_eq_none h];rfl
theorem Qn(es:List (Int×Int))(out:List Int)(i:Int)(t:Nat):(kn es out i).getD t 0=if (hd es i).toNat=t∧t<out.length then max (out.getD t 0) (out.getD (tl es i).toNat 0+1) else out.getD t 0:=by
 unfold kn;by_cases h:(hd es i).toNat=t
 ·subst h;by_cases h2:(hd es i).toNat<out.length
  ·rw [if_pos ⟨rfl,h2⟩,Uo h2]
  ·rw [if_neg (fun h=>h2 h.2),bG (by simp;omega),bG (by omega)]
 ·rw [if_neg (fun h'=>h h'.1),av h]
theorem Bd.zero(n:Nat):Bd 0 (List.replicate n 0):=fun t=>by
 rw [List.getD_eq_getElem?_getD];rcases Nat.lt_or_ge t n with h | h
 ·rw [List.getElem?_eq_getElem (by simpa using h)];simp
 ·rw [List.getElem?_eq_none (by simpa using h)];simp
theorem ag(es:List (Int×Int))(out:List Int)(i:Int)(t:Nat):out.getD t 0≤(kn es out i).getD t 0:=by
 rw [Qn];split<;>omega
theorem VR(es:List (Int×Int))(l:List Int):∀(out:List Int) (t:Nat),out.getD t 0≤(kH es out l).getD t 0:=by
 induction l with
 | nil=>exact fun _ _=>Int.le_refl _
 | cons a r ih=>exact fun out t=>Int.le_trans (ag es out a t) (ih (kn es out a) t)
def fD(es:List (Int×Int))(out:List Int)(order:List Int):List Int:=order.foldl (fun out x=>kH es out (jK es Prod.snd x es.length)) out
def re(n:Nat)(es:List (Int×Int)):List Int:=fD es (List.replicate n 0) (qO es n)
structure Lev(n:Nat)(es:List (Int×Int))(L:Nat→Int):Prop where
 nn:∀v,0≤L v
 up:∀e∈es,L e.1.toNat+1≤L e.2.toNat
 of:∀v,v<n→L v=0 ∨ ∃e∈es,e.2=(v:Int)∧L v=L e.1.toNat+1
def XE(n:Nat)(es:List (Int×Int)):Prop:=∀e∈es,0≤e.1∧e.1<(n:Int)∧0≤e.2∧e.2<(n:Int)
theorem Xz{es:List (Int×Int)}{n:Nat}{out:List Int}(h:Ord es n out)(hl:out.length=n){v:Nat}(hv:v<n):(v:Int)∈out:=by
 by_cases hm:(v:Int)∈out
 ·exact hm
 ·exfalso
  have hs:out++[(v:Int)]⊆(List.range n).map fun i:Nat=>(i:Int):=fun a ha=>by
   rcases List.mem_append.1 ha with ha | ha
   ·obtain ⟨h1,h2⟩:=h.lt a ha;exact List.mem_map.2 ⟨a.toNat,List.mem_range.2 (by omega),by omega⟩
   ·have:a=v:=by simpa using ha
    exact List.mem_map.2 ⟨v,List.mem_range.2 hv,this.symm⟩
  have hnd:(out++[(v:Int)]).Nodup:=by
   rw [List.nodup_append];refine ⟨h.nd,by simp,fun a ha b hb e=>?_⟩;have:b=v:=by simpa using hb
   subst this;rw [e] at ha;exact hm ha
  have:=List.Nodup.length_le_of_subset hnd hs;simp at this;omega
theorem eB{es:List (Int×Int)}{x:Nat}:∀(l:List Int) (out:List Int),x<out.length→(∀i∈l,(hd es i).toNat=x∧(tl es i).toNat≠x) →
  (∀t,t≠x→(kH es out l).getD t 0=out.getD t 0)∧(∀i∈l,out.getD (tl es i).toNat 0+1≤(kH es out l).getD x 0)∧((kH es out l).getD x 0=out.getD x 0 ∨ ∃i∈l,(kH es out l).getD x 0=out.getD (tl es i).toNat 0+1)
 | [],out,_,_=>⟨fun _ _=>rfl,by simp,.inl rfl⟩
 | i::r,out,hx,h=>by
  obtain ⟨h1,h2⟩:=h i (by simp);have ih:=eB r (kn es out i) (by rw [Yv];exact hx) fun j hj=>h j (by simp [hj]);have e0:kH es out (i::r)=kH es (kn es out i) r:=rfl;have eo:∀t,t≠x→(kn es out i).getD t 0=out.getD t 0:=fun t ht=>by rw [Qn,if_neg (fun h=>ht (by omega))]
  have ex:(kn es out i).getD x 0=max (out.getD x 0) (out.getD (tl es i).toNat 0+1):=by rw [Qn,if_pos ⟨h1,hx⟩]
  rw [e0];obtain ⟨a,b,c⟩:=ih;refine ⟨fun t ht=>(a t ht).trans (eo t ht),fun j hj=>?_,?_⟩
  ·rcases List.mem_cons.1 hj with rfl | hj
   ·have:=VR es r (kn es out j) x;omega
   ·have:=b j hj;rw [eo _ (h j (by simp [hj])).2] at this;exact this
  ·rcases c with c | ⟨j,hj,c⟩
   ·rw [c,ex];rcases Int.le_total (out.getD x 0) (out.getD (tl es i).toNat 0+1) with h3 | h3
    ·exact .inr ⟨i,by simp,by omega⟩
    ·exact .inl (by omega)
   ·refine .inr ⟨j,by simp [hj],?_⟩;rw [c,eo _ (h j (by simp [hj])).2]
structure LevP(n:Nat)(es:List (Int×Int))(done:List Int)(L:List Int):Prop where
 len:L.length=n
 rest:∀v:Nat,(v:Int)∉done→L.getD v 0=0
 up:∀e∈es,e.2∈done→L.getD e.1.toNat 0+1≤L.getD e.2.toNat 0
 of:∀v:Nat,(v:Int)∈done→L.getD v 0=0 ∨ ∃e∈es,e.2=(v:Int)∧L.getD v 0=L.getD e.1.toNat 0+1
theorem LevP.step{n:Nat}{es:List (Int×Int)}(hE:XE n es){done:List Int}{L:List Int}(h:LevP n es done L){x:Nat}(hxn:x<n)(hx:(x:Int)∉done)(hpre:∀e∈es,e.2=(x:Int)→e.1∈done)(hclo:∀e∈es,e.2∈done→e.1∈done) :
  LevP n es (done++[(x:Int)]) (kH es L (jK es Prod.snd x es.length)):=by
 have hin:∀i∈jK es Prod.snd x es.length,(hd es i).toNat=x∧(tl es i).toNat≠x:=by
  intro i hi;obtain ⟨k,rfl,hk,he⟩:=ql.1 hi;have hm:=uq hk;have h1:=hE _ hm;have h2:=hpre _ hm he;refine ⟨by unfold hd;simp only [Int.toNat_natCast];omega,fun e=>?_⟩;unfold tl at e;simp only [Int.toNat_natCast] at e;have:(es.getD k (0,0)).1=(x:Int):=by omega
  rw [this] at h2;exact hx h2
 obtain ⟨a,b,c⟩:=eB (jK es Prod.snd x es.length) L (by rw [h.len];exact hxn) hin
 have hne:∀e∈es,e.1∈done→e.1.toNat≠x:=fun e he hd he2=>by
  have:=hE e he;have h3:e.1=(x:Int):=by omega
  rw [h3] at hd;exact hx hd
 refine ⟨by rw [Ui,h.len],fun v hv=>?_,fun e he hd=>?_,fun v hv=>?_⟩
 ·have h1:(v:Int)∉done:=fun h'=>hv (by simp [h']);have h2:v≠x:=fun h'=>hv (by simp [h']);rw [a v h2,h.rest v h1]
 ·rcases List.mem_append.1 hd with hd | hd
  ·have h1:=h.up e he hd;have h2:=hclo e he hd
   have h3:e.2.toNat≠x:=fun e'=>by
    have:=hE e he;have h3:e.2=(x:Int):=by omega
    rw [h3] at hd;exact hx hd
   rw [a _ h3,a _ (hne e he h2)];exact h1
  ·have hd:e.2=(x:Int):=by simpa using hd
   obtain ⟨k,hk,rfl⟩:=QH he;have:=b (k:Int) (ql.2 ⟨k,rfl,hk,hd⟩);unfold tl at this;simp only [Int.toNat_natCast] at this;rw [a _ (hne _ he (hpre _ he hd)),hd];simpa using this
 ·rcases List.mem_append.1 hv with hv1 | hv
  ·have h2:v≠x:=fun e=>by subst e;exact hx hv1
   rw [a v h2];rcases h.of v hv1 with h3 | ⟨e,he,h4,h5⟩
   ·exact .inl h3
   ·refine .inr ⟨e,he,h4,?_⟩;rw [a _ (hne e he (hclo e he (by rw [h4];exact hv1)))];exact h5
  ·have:v=x:=by
    have:(v:Int)=x:=by simpa using hv
    omega
   subst this;rcases c with c | ⟨i,hi,c⟩
   ·rw [c];exact .inl (h.rest v hx)
   ·obtain ⟨k,rfl,hk,he⟩:=ql.1 hi;refine .inr ⟨_,uq hk,he,?_⟩;rw [c,a _ (hne _ (uq hk) (hpre _ (uq hk) he))];unfold tl;simp
theorem oD{es:List (Int×Int)}{n:Nat}{out:List Int}(h:Ord es n out)(k:Nat){e:Int×Int}(he:e∈es)(hm:e.2∈out.take k):e.1∈out.take k:=by
 obtain ⟨i,hi,e1⟩:=List.getElem_of_mem hm;rw [List.getElem_take] at e1;have hi':i<out.length:=by simp at hi;omega
 have:=h.pre i hi' e he e1.symm;have hik:i≤k:=by simp at hi;omega
 have:e.1∈(out.take k).take i:=by rw [List.take_take,Nat.min_eq_left hik];exact this
 exact List.mem_of_mem_take this
theorem Wc{n:Nat}{es:List (Int×Int)}(hE:XE n es){order:List Int}(ho:Ord es n order):∀k,k≤order.length→LevP n es (order.take k) (fD es (List.replicate n 0) (order.take k))
 | 0,_=>⟨by simp [fD],fun v _=>by
   rw [List.take_zero]
   show (List.replicate n (0:Int)).getD v 0=0
   have:=Bd.zero n v
   omega,by simp,by simp⟩
 | k+1,hk=>by
  have ih:=Wc hE ho k (by omega);have hlt:k<order.length:=by omega
  have hm:=ho.lt _ (List.getElem_mem hlt);obtain ⟨x,hx⟩:∃x:Nat,order[k]=(x:Int):=⟨order[k].toNat,by omega⟩;rw [List.take_succ_eq_append_getElem hlt,hx]
  have e0:fD es (List.replicate n 0) (order.take k++[(x:Int)])=kH es (fD es (List.replicate n 0) (order.take k)) (jK es Prod.snd x es.length):=by
   unfold fD;rw [List.foldl_append];rfl
  rw [e0];refine ih.step hE (by omega) ?_ (fun e he h2=>ho.pre k hlt e he (by rw [hx];exact h2)) (fun e he h2=>oD ho k he h2);intro hmem;obtain ⟨i,hi,e1⟩:=List.getElem_of_mem hmem;rw [List.getElem_take] at e1;have hik:i<k:=by simp at hi;omega
  have:=(List.getElem_inj (h₀ :=(by omega:i<order.length)) (h₁ :=hlt) ho.nd).1 (e1.trans hx.symm);omega
theorem mm{n:Nat}{es:List (Int×Int)}(hE:XE n es)(hl:(qO es n).length=n):Lev n es fun v=>(re n es).getD v 0:=by
 have ho:=uf es n;have h:=Wc hE ho (qO es n).length (Nat.le_refl _);rw [List.take_length] at h
 have hz:∀v,0≤(re n es).getD v 0:=fun v=>by
  have h1:∀(o:List Int) (t:Nat) (L:List Int),0≤L.getD t 0→0≤(fD es L o).getD t 0:=by
   intro o t
   induction o with
   | nil=>exact fun L h=>h
   | cons a r ih=>exact fun L h=>ih _ (Int.le_trans h (VR es _ L t))
  exact h1 _ v _ (by have:=Bd.zero n v;omega)
 refine ⟨hz,fun e he=>h.up e he ?_,fun v hv=>h.of v (Xz ho hl hv)⟩;have h1:=hE e he;have:=Xz ho hl (v:=e.2.toNat) (by omega);rw [show ((e.2.toNat:Nat):Int)=e.2 by omega] at this;exact this
end Go.Proofs.YtneeknlhlkpnpaaGreat
namespace Go.Proofs.YtneeknlhlkpnpaaGreat
open Go.RowKit
set_option maxRecDepth 20000 in
set_option maxHeartbeats 1000000 in
theorem eY(A:Option Addr)(c:Nat)(l:List Int)(v:Int)(w:World)(h:jr w w.heap.size A (jf l))(hl:l.length≤100000) :
  Calls Tryz.prog 159 #[.slice A l.length c,.int .i64 v] w (fun e w'=>e = .returned (.int .i64 (xX l v))∧w=w'):=by
 have H:=Lib.hid h;clear h
 go_enter Tryz.func159,Tryz.ntmps159
 go_wp2_with fail
 go_loopg [5] l.length (fun k s5 wr=>∃i:Nat,s5 = .int .i64 i∧i≤l.length∧k=l.length-i∧w=wr ∧ ∀j (hj:j<l.length),j<i→v≠l[j])
 case atStart=>exact ⟨0,rfl,Nat.zero_le _,rfl,rfl,fun j _ hj=>absurd hj (Nat.not_lt_zero j)⟩
 case round=>
  obtain ⟨i,rfl,hi,hk,rfl,hn⟩:=hrel;have Hk:=Lib.hid hk;have Hn:=Lib.hid hn;clear hk hn;by_cases hlt:i<l.length
  ·have hlt':(i:Int)<l.length:=by omega
   obtain ⟨b,off,rfl,hb,hc⟩:=H.out.ints (by omega);have e0:=hc i hlt
   have HS:=Lib.hid (fun (hv:v≠l[i]) (j:Nat) (hj:j<l.length) (hji:j<i+1)=>(by
    by_cases e:j=i
    ·subst e;exact hv
    ·exact Hn.out j hj (by omega):v≠l[j]))
   have HF:=Lib.hid (fun (hv:v=l[i])=>KT hlt hv fun j hj=>Hn.out j (by omega) hj);clear hc;generalize l[i]=u at *;by_cases hv:v=u
   ·have hv':(u==v)=true:=by rw [beq_iff_eq];exact hv.symm
    have HR:=Lib.hid (HF.out hv);clear hv;go_wp2_with fail;go_ret;exact ⟨vP HR.out.symm,rfl⟩
   ·have hv':(u==v)=false:=by rw [beq_eq_false_iff_ne];exact fun e=>hv e.symm
    have HR:=Lib.hid (HS.out hv);clear hv;go_wp2_with fail
    go_roundg (l.length-(i+1))
    case measure=>rw [Hk.out];omega
    case rel=>exact ⟨i+1,by go_num,by omega,rfl,rfl,HR.out⟩
  ·have hlt':¬(i:Int)<l.length:=by omega
   have HR:=Lib.hid (QI (l:=l) (v:=v) fun j hj=>Hn.out j hj (by omega));go_wp2_with fail;go_ret;exact ⟨vP HR.out.symm,rfl⟩
theorem ZC{l:List Int}{v:Int}:(0≤xX l v↔v∈l) ∧ -1≤xX l v∧xX l v≤l.length:=by
 unfold xX
 cases h:l.findIdx? (fun a=>decide (v=a)) with
 | none=>
  rw [List.findIdx?_eq_none_iff] at h;refine ⟨⟨fun h'=>absurd h' (show ¬(0:Int) ≤ -1 by omega),fun hm=>?_⟩,Int.le_refl _,show (-1:Int)≤_ by omega⟩;have:=h v hm;simp at this
 | some i=>
  rw [List.findIdx?_eq_some_iff_getElem] at h;obtain ⟨hi,h1,_⟩:=h;have h1:v=l[i]:=by simpa using h1
  exact ⟨⟨fun _=>by rw [h1];exact List.getElem_mem hi,fun _=>by show (0:Int)≤(i:Int);omega⟩,by show (-1:Int)≤(i:Int);omega,by show (i:Int)≤_;omega⟩
end Go.Proofs.YtneeknlhlkpnpaaGreat
