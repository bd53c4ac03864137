import Derived.Test.YtneeknlhlkpnpaaGreatZWeb
import Derived.Laws.OwnMore
import Derived.Maps.OwnOps
import Derived.Maps.OwnSet
import Derived.Maps.Views
/-
 The parts in memory: two rows and a number each. Written by an AI agent.
-/
namespace Go.Proofs.YtneeknlhlkpnpaaGreat
open Go.RowKit
/-- the cells of m parts: rows 2 k and 2 k + 1, and a number -/
def tri(m:Nat)(rv:Nat→Value)(an:Nat→Nat):List Value:=(List.range (3*m)).map fun i=>if i%3=2 then .int .i64 (an (i/3):Nat) else rv (2*(i/3)+i%3)
section
variable {m:Nat}{rv:Nat→Value}{an:Nat→Nat}
theorem gT{k j:Nat}(hk:k<m)(hj:j<2):(tri m rv an)[3*k+j]? = some (rv (2*k+j)):=by
 unfold tri;rw [List.getElem?_map,List.getElem?_range (by omega),Option.map_some,if_neg (by omega),show (3*k+j)/3=k by omega,show (3*k+j)%3=j by omega]
theorem pT{k:Nat}(hk:k<m):(tri m rv an)[3*k+2]? = some (.int .i64 (an k:Nat)):=by
 unfold tri;rw [List.getElem?_map,List.getElem?_range (by omega),Option.map_some,if_pos (by omega),show (3*k+2)/3=k by omega]
theorem pS{k j:Nat}(_hk:k<m)(hj:j<2)(v:Value):(tri m rv an).set (3*k+j) v=tri m (fun i=>if i=2*k+j then v else rv i) an:=by
 unfold tri;refine zA _ _ _ _ _ ?_ fun x hx=>?_
 ·show (if (3*k+j)%3=2 then _ else _)=_
  rw [if_neg (by omega)];exact if_pos (by omega)
 ·show (if x%3=2 then _ else _)=_
  by_cases h:x%3=2
  ·rw [if_pos h,if_pos h]
  ·rw [if_neg h,if_neg h];exact if_neg (by omega)
theorem nf{k:Nat}(_hk:k<m)(c:Nat):(tri m rv an).set (3*k+2) (.int .i64 (c:Nat))=tri m rv (fun i=>if i=k then c else an i):=by
 unfold tri;refine zA _ _ _ _ _ ?_ fun x hx=>?_
 ·show (if (3*k+2)%3=2 then _ else _)=_
  rw [if_pos (by omega)];exact congrArg (fun z:Nat=>Value.int .i64 z) (if_pos (by omega))
 ·show (if x%3=2 then _ else _)=_
  by_cases h:x%3=2
  ·rw [if_pos h,if_pos h];exact congrArg (fun z:Nat=>Value.int .i64 z) (if_neg (by omega))
  ·rw [if_neg h,if_neg h]
theorem nc:tri (m+1) rv an=tri m rv an++[rv (2*m),rv (2*m+1),.int .i64 (an m:Nat)]:=by
 unfold tri;rw [show 3*(m+1)=3*m+1+1+1 by omega,List.range_succ,List.range_succ,List.range_succ];simp only [List.map_append,List.map_cons,List.map_nil,List.append_assoc,List.cons_append,List.nil_append];rw [if_neg (by omega),if_neg (by omega),if_pos (by omega),show 3*m/3=m by omega,show 3*m%3=0 by omega,show (3*m+1)/3=m by omega,show (3*m+1)%3=1 by omega,show (3*m+1+1)/3=m by omega];rfl
end
theorem vD{w w':World}{base size n:Nat}{e:TypeId}{v:Value}{xs:List Value}{S:List Nat}(h:w.ownsRow base e size v n xs)(hb:But S w w')(hS:∀g∈S,g<base):w'.ownsRow base e size v n xs:=by
 obtain ⟨h1,h2⟩:=h;refine ⟨h1,?_⟩;rcases h2 with h2 | ⟨g,cap,cur,hv,hg,hh,r⟩
 ·exact .inl h2
 ·refine .inr ⟨g,cap,cur,hv,hg,?_,r⟩;rw [hb.block g (by rcases Nat.lt_or_ge g w.heap.size with h | h;exact h;rw [Array.getElem?_eq_none h] at hh;cases hh) (fun hm=>by have:=hS g hm;omega)];exact hh
theorem RowsW.but{w w':World}{base:Nat}{vs:List Value}{ls:List (List Int)}{S:List Nat}(h:RowsW w base vs ls)(hb:But S w w')(hS:∀g∈S,g<base):RowsW w' base vs ls:=
 ⟨h.len,fun k h1 h2=>vD (h.own k h1 h2) hb hS,h.apart⟩
theorem RowsW.snoc_nil{w:World}{base:Nat}{vs:List Value}{ls:List (List Int)}(h:RowsW w base vs ls):RowsW w base (vs++[.slice none 0 0]) (ls++[[]]):=by
 have hl:=h.len;refine ⟨by simp [hl],fun k h1 h2=>?_,fun i j hi hj hij=>?_⟩
 ·simp only [List.length_append,List.length_cons,List.length_nil] at h1 h2;by_cases hk:k<vs.length
  ·rw [List.getElem_append_left hk,List.getElem_append_left (show k<ls.length by omega)];exact h.own k hk (by omega)
  ·have e:(vs++[Value.slice none 0 0])[k] = .slice none 0 0:=by rw [List.getElem_append_right (by omega)];simp
   have e2:(ls++[[]])[k]'(by simp;omega)=[]:=by rw [List.getElem_append_right (by omega)];simp
   simp only [e,e2];exact World.ownsRow_nil _ _ _ _
 ·simp only [List.length_append,List.length_cons,List.length_nil] at hi hj;by_cases hki:i<vs.length
  ·by_cases hkj:j<vs.length
   ·rw [List.getElem_append_left hki,List.getElem_append_left hkj];exact h.apart i j hki hkj hij
   ·have e:(vs++[Value.slice none 0 0])[j] = .slice none 0 0:=by rw [List.getElem_append_right (by omega)];simp
    rw [List.getElem_append_left hki,e]
    cases hb:vs[i].ownBlock with
    | none=>exact .inl rfl
    | some b=>exact .inr (by intro h;cases h)
  ·have e:(vs++[Value.slice none 0 0])[i] = .slice none 0 0:=by rw [List.getElem_append_right (by omega)];simp
   rw [e];exact .inl rfl
/-- v holds m parts: their rows' values, rows, and numbers -/
structure PartM(w:World)(B:Nat)(v:Value)(m:Nat)(rl:Nat→List Int)(an:Nat→Nat)(rv:Nat→Value):Prop where
 own:w.ownsRow B 70 3 v m (tri m rv an)
 rows:RowsW w B ((List.range (2*m)).map rv) ((List.range (2*m)).map rl)
section
variable {w w':World}{B m:Nat}{v:Value}{rl:Nat→List Int}{an:Nat→Nat}{rv:Nat→Value}
theorem PartM.but{S:List Nat}(h:PartM w B v m rl an rv)(hb:But S w w')(hS:∀g∈S,g<B):PartM w' B v m rl an rv:=⟨vD h.own hb hS,h.rows.but hb hS⟩
theorem PartM.below{B':Nat}(h:PartM w B v m rl an rv)(hb:Below B' w w')(hB:w.heap.size≤B'):PartM w' B v m rl an rv:=⟨qP h.own hb hB,h.rows.below hb hB⟩
theorem PartM.drew(h:PartM w B v m rl an rv):PartM w.drew B v m rl an rv:=⟨h.own,h.rows.drew⟩
theorem PartM.zero(w:World)(B:Nat)(rl:Nat→List Int)(an:Nat→Nat)(rv:Nat→Value):PartM w B (.slice none 0 0) 0 rl an rv:=⟨World.ownsRow_nil _ _ _ _,⟨rfl,fun _ h=>absurd h (by simp),fun _ _ h=>absurd h (by simp)⟩⟩
/-- a part more, without anything -/
theorem PartM.snoc(h:PartM w B v m rl an rv){v':Value}(ho:w'.ownsRow B 70 3 v' (m+1) (tri m rv an++[.slice none 0 0,.slice none 0 0,.int .i64 0]))(hg:w.grownBy w' v.ownBlock) :
  PartM w' B v' (m+1) (fun i=>if i<2*m then rl i else []) (fun k=>if k<m then an k else 0) (fun i=>if i<2*m then rv i else .slice none 0 0):=by
 have e1:∀(α : Type) (f:Nat → α) (d : α),(List.range (2*m)).map (fun i=>if i<2*m then f i else d)=(List.range (2*m)).map f:=fun α f d=>List.map_congr_left fun i hi=>by rw [if_pos (List.mem_range.1 hi)]
 refine ⟨?_,?_⟩
 ·rw [nc]
  have:tri m (fun i=>if i<2*m then rv i else .slice none 0 0) (fun k=>if k<m then an k else 0)=tri m rv an:=by
   unfold tri;refine List.map_congr_left fun i hi=>?_;have:=List.mem_range.1 hi;by_cases h2:i%3=2
   ·rw [if_pos h2,if_pos h2];exact congrArg (fun z:Nat=>Value.int .i64 z) (if_pos (by omega))
   ·rw [if_neg h2,if_neg h2];exact if_pos (by omega)
  rw [this];simp only [Nat.lt_irrefl,if_false,show ¬2*m+1<2*m by omega];exact ho
 ·have hr:=(h.rows.evo (Evo.of_grown (T:=[70]) (B:=B) h.own hg (by simp) (Nat.le_refl _)) (by decide)).snoc_nil.snoc_nil;rw [show 2*(m+1)=2*m+1+1 by omega,List.range_succ,List.range_succ];simp only [List.map_append,List.map_cons,List.map_nil,Nat.lt_irrefl,if_false,show ¬2*m+1<2*m by omega,e1];exact hr
end
theorem RowsW.app2{base:Nat}{w w':World}{vs:List Value}{ls:List (List Int)}(h:RowsW w base vs ls){x k0:Nat}(hx:x<vs.length)(_hx':x<ls.length){v':Value}{l':List Int}
  (ho:w'.ownsRow base 3 1 v' l'.length (jf l')) (hg:w.grownBy w' vs[x].ownBlock) (hb:v'.ownBlock=vs[x].ownBlock∨v'.ownBlock=some k0) (hk0:w.heap.size≤k0) :
  RowsW w' base (vs.set x v') (ls.set x l'):=by
 refine ⟨by simp [h.len],fun k h1 h2=>?_,fun i j hi hj hij=>?_⟩
 ·simp only [List.length_set] at h1 h2;by_cases hk:x=k
  ·subst hk;simp only [List.getElem_set_self];exact ho
  ·simp only [List.getElem_set_ne hk];exact (h.own k h1 h2).kept hg (h.apart k x h1 hx (fun e=>hk e.symm))
 ·simp only [List.length_set] at hi hj
  have hlt:∀t (ht:t<vs.length),vs[t].ownBlock≠some k0:=fun t ht e=>by
   have:=XU (h.own t ht (by rw [←h.len];exact ht)) e;omega
  by_cases h1:x=i
  ·subst h1;simp only [List.getElem_set_self,List.getElem_set_ne hij];rcases hb with hb | hb
   ·rw [hb];exact h.apart x j hx hj hij
   ·rw [hb];exact .inr (fun e=>hlt j hj e.symm)
  ·by_cases h2:x=j
   ·subst h2;simp only [List.getElem_set_self,List.getElem_set_ne h1];rcases hb with hb | hb
    ·rw [hb];exact h.apart i x hi hx hij
    ·rw [hb];exact .inr (hlt i hi)
   ·simp only [List.getElem_set_ne h1,List.getElem_set_ne h2];exact h.apart i j hi hj hij
section
variable {w w':World}{B m g cap:Nat}{v':Value}{rl:Nat→List Int}{an:Nat→Nat}{rv:Nat→Value}
theorem PartM.row{v:Value}(h:PartM w B v m rl an rv){i:Nat}(hi:i<2*m):w.ownsRow B 3 1 (rv i) (rl i).length (jf (rl i)):=by
 have:=h.rows.own i (by simpa using hi) (by simpa using hi);simpa using this
/-- one thing more in row 2 k + j -/
theorem PartM.app(h:PartM w B (.slice (some ⟨g,0,none⟩) m cap) m rl an rv){k j k0:Nat}{x:Int}(hk:k<m)(hj:j<2)
  (ho:w'.ownsRow B 3 1 v' ((rl (2*k+j)).length+1) (jf (rl (2*k+j))++[.int .i64 x])) (hg:w.grownBy w' (rv (2*k+j)).ownBlock) (hb:v'.ownBlock=(rv (2*k+j)).ownBlock∨v'.ownBlock=some k0) (hk0:w.heap.size≤k0) :
  PartM (w'.setCell ⟨g,3*k+j,none⟩ v') B (.slice (some ⟨g,0,none⟩) m cap) m (fun i=>if i=2*k+j then rl (2*k+j)++[x] else rl i) an (fun i=>if i=2*k+j then v' else rv i):=by
 have hi:2*k+j<2*m:=by omega
 have ho':w'.ownsRow B 3 1 v' (rl (2*k+j)++[x]).length (jf (rl (2*k+j)++[x])):=by simpa [jf] using ho
 have own1:=yC h.own (Evo.of_grown (T:=[3]) (B:=B) (h.row hi) hg (by simp) (Nat.le_refl _)) (by decide);obtain ⟨own2,hg2⟩:=own1.stored (3*k+j) v';rw [pS hk hj] at own2;refine ⟨own2,?_⟩;have r1:=h.rows.app2 (x:=2*k+j) (by simpa using hi) (by simpa using hi) ho' (by simpa using hg) (by simpa using hb) hk0;rw [zA _ _ _ (fun i=>if i=2*k+j then v' else rv i) _ (if_pos rfl) (fun x hx=>if_neg hx),zA _ _ _ (fun i=>if i=2*k+j then rl (2*k+j)++[x] else rl i) _ (if_pos rfl) (fun x hx=>if_neg hx)] at r1;exact r1.evo (Evo.of_grown (T:=[70]) (B:=B) own1 hg2 (by simp) (Nat.le_refl _)) (by decide)
/-- another number for part k -/
theorem PartM.num(h:PartM w B (.slice (some ⟨g,0,none⟩) m cap) m rl an rv){k c:Nat}(hk:k<m):PartM (w.setCell ⟨g,3*k+2,none⟩ (.int .i64 (c:Nat))) B (.slice (some ⟨g,0,none⟩) m cap) m rl (fun i=>if i=k then c else an i) rv:=by
 obtain ⟨own2,hg2⟩:=h.own.stored (3*k+2) (.int .i64 (c:Nat));rw [nf hk] at own2;exact ⟨own2,h.rows.evo (Evo.of_grown (T:=[70]) (B:=B) h.own hg2 (by simp) (Nat.le_refl _)) (by decide)⟩
theorem PartM.cell(h:PartM w B (.slice (some ⟨g,0,none⟩) m cap) m rl an rv){k j:Nat}(hk:k<m)(hj:j<2):w.cell? ⟨g,3*k+j,none⟩=some (rv (2*k+j)):=(h.own.cellAt _ (by omega)).trans (gT hk hj)
theorem PartM.cellN(h:PartM w B (.slice (some ⟨g,0,none⟩) m cap) m rl an rv){k:Nat}(hk:k<m):w.cell? ⟨g,3*k+2,none⟩=some (.int .i64 (an k:Nat)):=(h.own.cellAt _ (by omega)).trans (pT hk)
theorem PartM.frozen(h:PartM w B (.slice (some ⟨g,0,none⟩) m cap) m rl an rv)(j:Nat):w.frozen? ⟨g,j,none⟩=false:=h.own.frozenAt j
theorem PartM.congr{v:Value}{rl':Nat→List Int}{an':Nat→Nat}(h:PartM w B v m rl an rv)(h1:∀i,i<2*m→rl i=rl' i)(h2:∀k,k<m→an k=an' k):PartM w B v m rl' an' rv:=by
 refine ⟨?_,?_⟩
 ·have:tri m rv an'=tri m rv an:=by
   unfold tri;refine List.map_congr_left fun i hi=>?_;have:=List.mem_range.1 hi;by_cases h3:i%3=2
   ·rw [if_pos h3,if_pos h3,h2 _ (by omega)]
   ·rw [if_neg h3,if_neg h3]
  rw [this];exact h.own
 ·have:(List.range (2*m)).map rl'=(List.range (2*m)).map rl:=List.map_congr_left fun i hi=>(h1 i (List.mem_range.1 hi)).symm;rw [this];exact h.rows
theorem PartM.form{v:Value}(h:PartM w B v m rl an rv)(hm:0<m):∃g cap,v = .slice (some ⟨g,0,none⟩) m cap∧B≤g:=by
 obtain ⟨g,cap,R,hv,hg,_⟩:=vT h.own hm;exact ⟨g,cap,hv,hg⟩
end
end Go.Proofs.YtneeknlhlkpnpaaGreat
/-
 Parts by their leaders: at which place which one (plain law); what the map of places holds. Written by an AI agent.
-/
namespace Go.Proofs.YtneeknlhlkpnpaaGreat
open Go.RowKit Go.Maps
def pos(ro:Nat→Nat)(c:Nat):Nat:=(Qp ro c).length
section
variable {ro:Nat→Nat}
theorem Zp(f:Nat):Qp ro (f+1)=Qp ro f++if ro f=f then [f] else []:=by
 unfold Qp;rw [List.range_succ,List.filter_append];by_cases h:ro f=f<;>simp [h]
theorem dl(f:Nat):pos ro (f+1)=pos ro f+if ro f=f then 1 else 0:=by
 unfold pos;rw [Zp,List.length_append];by_cases h:ro f=f<;>simp [h]
theorem KE{c:Nat}(hc:ro c=c):∀ {F:Nat},c<F→(Qp ro F)[pos ro c]? = some c
 | F+1,h=>by
  rw [Zp];by_cases hF:c<F
  ·have ih:=KE hc hF;rw [List.getElem?_append_left (List.getElem?_eq_some_iff.1 ih).1];exact ih
  ·have:c=F:=by omega
   subst this;rw [if_pos hc,List.getElem?_append_right (show (Qp ro c).length≤pos ro c from Nat.le_refl _)];simp [pos]
theorem iz{k c:Nat}:∀ {F:Nat},(Qp ro F)[k]? = some c→k=pos ro c∧ro c=c∧c<F
 | 0,h=>by simp [Qp] at h
 | F+1,h=>by
  rw [Zp] at h;by_cases hk:k<(Qp ro F).length
  ·rw [List.getElem?_append_left hk] at h;have:=iz h;exact ⟨this.1,this.2.1,by omega⟩
  ·rw [List.getElem?_append_right (by omega)] at h;by_cases hF:ro F=F
   ·rw [if_pos hF] at h
    have h0:k-(Qp ro F).length=0:=by
     rcases Nat.eq_zero_or_pos (k-(Qp ro F).length) with h2 | h2
     ·exact h2
     ·rw [List.getElem?_eq_none (by simp;omega)] at h
      cases h
    rw [h0] at h;have:F=c:=by simpa using h
    subst this;exact ⟨by unfold pos;omega,hF,by omega⟩
   ·rw [if_neg hF] at h;simp at h
theorem QA{c F:Nat}(hc:ro c=c)(h:c<F):pos ro c<pos ro F:=(List.getElem?_eq_some_iff.1 (KE hc h)).1
theorem pc(F:Nat):pos ro F≤F:=by
 unfold pos Qp;exact Nat.le_trans (List.length_filter_le _ _) (by simp)
end
theorem Qt{ro:Nat→Nat}{F c f:Nat}(hc:ro c=c)(hf:ro f=f)(h1:c<F)(h2:f<F):pos ro c=pos ro f↔c=f:=by
 constructor
 ·intro e;have a:=KE hc h1;have b:=KE hf h2;rw [e,b] at a;injection a with a;exact a.symm
 ·intro e;rw [e]
/-- the faces of the first f whose leader stands at place k -/
def rlF(ro:Nat→Nat)(f k:Nat):List Int:=((List.range f).filter fun y=>decide (pos ro (ro y)=k)).map Int.ofNat
/-- the vertices of the first x whose leader stands at place k -/
def rlV(ro:Nat→Nat)(F x k:Nat):List Int:=((List.range x).filter fun y=>decide (ro (F+y)<F∧pos ro (ro (F+y))=k)).map Int.ofNat
def rlA(ro:Nat→Nat)(f:Nat)(i:Nat):List Int:=if i%2=0 then rlF ro f (i/2) else []
def rlB(ro:Nat→Nat)(F x:Nat)(i:Nat):List Int:=if i%2=0 then rlF ro F (i/2) else rlV ro F x (i/2)
section
variable {ro:Nat→Nat}
theorem Vm(f k:Nat):rlF ro (f+1) k=rlF ro f k++if pos ro (ro f)=k then [(f:Int)] else []:=by
 unfold rlF;rw [List.range_succ,List.filter_append,List.map_append];by_cases h:pos ro (ro f)=k<;>simp [h]
theorem UH(F x k:Nat):rlV ro F (x+1) k=rlV ro F x k++if ro (F+x)<F∧pos ro (ro (F+x))=k then [(x:Int)] else []:=by
 unfold rlV;rw [List.range_succ,List.filter_append,List.map_append];by_cases h:ro (F+x)<F∧pos ro (ro (F+x))=k<;>simp [h]
theorem Qe(f k:Nat):(rlF ro f k).length≤f:=by
 unfold rlF;rw [List.length_map];exact Nat.le_trans (List.length_filter_le _ _) (by simp)
theorem KV(F x k:Nat):(rlV ro F x k).length≤x:=by
 unfold rlV;rw [List.length_map];exact Nat.le_trans (List.length_filter_le _ _) (by simp)
/-- a part that is new has no face yet -/
theorem rh{f k:Nat}(hle:∀y,y<f→ro y≤y)(hfix:∀y,y<f→ro (ro y)=ro y)(hk:pos ro f≤k):rlF ro f k=[]:=by
 unfold rlF;rw [List.filter_eq_nil_iff.2,List.map_nil];intro y hy;have hy:=List.mem_range.1 hy;have:=QA (hfix y hy) (show ro y<f by have:=hle y hy;omega);simp;omega
end
/-- the map of places behind the first f faces -/
structure PlaceD(ro:Nat→Nat)(f:Nat)(D:DataW Unit):Prop where
 map:IsMap D
 hit:∀c,ro c=c→c<f → ∀z,D.atKey (.int .i64 (c:Nat)) z = .lit (.int .i64 (pos ro c:Nat))
 miss:∀c,¬(ro c=c∧c<f)→has D (.int .i64 (c:Nat))=false
theorem PlaceD.zero(ro:Nat→Nat):PlaceD ro 0 (.map []):=⟨isMap_empty,fun _ _ h=>absurd h (Nat.not_lt_zero _),fun _ _=>by simp [has]⟩
theorem PlaceD.same{ro:Nat→Nat}{f:Nat}{D:DataW Unit}(h:PlaceD ro f D)(hf:ro f≠f):PlaceD ro (f+1) D:=
 ⟨h.map,fun c hc hl=>h.hit c hc (by rcases Nat.lt_or_eq_of_le (Nat.le_of_lt_succ hl) with h | h;exact h;subst h;exact absurd hc hf),fun c hn=>h.miss c fun ⟨a,b⟩=>hn ⟨a,by omega⟩⟩
theorem PlaceD.put{ro:Nat→Nat}{f:Nat}{D:DataW Unit}(h:PlaceD ro f D)(hf:ro f=f){v:Int}(hv:v=(pos ro f:Nat)):PlaceD ro (f+1) (D.put (.int .i64 (f:Nat)) (.lit (.int .i64 v))):=by
 refine ⟨h.map.put _ _,fun c hc hl z=>?_,fun c hn=>?_⟩
 ·by_cases hcf:c=f
  ·subst hcf;rw [atKey_put_same h.map (show WideAt.IsKeyLit (Lit.int .i64 _) from trivial),hv]
  ·rw [atKey_put_other (by intro e;injection e with _ e;omega)];exact h.hit c hc (by omega) z
 ·have hcf:c≠f:=fun e=>hn ⟨e▸hf,by omega⟩;rw [has_put_other (by intro e;injection e with _ e;omega)];exact h.miss c fun ⟨a,b⟩=>hn ⟨a,by omega⟩
end Go.Proofs.YtneeknlhlkpnpaaGreat
