import Derived.Test.YtneeknlhlkpnpaaGreatZEul
import Derived.Test.YtneeknlhlkpnpaaGreatZVw
import Derived.Lib.AppendZerosOnto
import Derived.Test.YtneeknlhlkpnpaaGreatZFits
import Derived.Test.YtneeknlhlkpnpaaGreatZChks
import Derived.Test.YtneeknlhlkpnpaaGreatZReg
import Derived.Test.YtneeknlhlkpnpaaGreatZWeb
import Derived.Test.YtneeknlhlkpnpaaGreatZGol
/-
 Rows of items in memory: clone, concat, look for one. Written by an AI agent.
-/
namespace Go.Proofs.YtneeknlhlkpnpaaGreat
open Go.RowKit
abbrev Itm:=Int×Int×Int
def ju(r:List Itm):List Value:=r.flatMap fun e=>[.int .i64 e.1,.int .i64 e.2.1,.int .i64 e.2.2]
theorem jV(r:List Itm):(ju r).length=r.length*3:=by
 unfold ju;induction r with
 | nil=>rfl
 | cons e r ih=>simp only [List.flatMap_cons,List.length_append,List.length_cons,List.length_nil,ih];omega
theorem yh(a b:List Itm):ju (a++b)=ju a++ju b:=by simp [ju]
theorem yg(l:List Itm):(ju l).all (fun u=>u.oneCell')=true:=by
 unfold ju;induction l with
 | nil=>rfl
 | cons e r ih=>
  simp only [List.flatMap_cons,List.all_append,ih,Bool.and_true];rfl
theorem Qi(r:List Itm):∀k,(ju r).drop (k*3)=ju (r.drop k):=by
 induction r with
 | nil=>intro k;simp [ju]
 | cons e r ih=>
  intro k
  cases k with
  | zero=>simp
  | succ k=>
   have e0:ju (e::r) = .int .i64 e.1 :: .int .i64 e.2.1 :: .int .i64 e.2.2::ju r:=rfl;rw [e0,show (k+1)*3=k*3+1+1+1 by omega];simp only [List.drop_succ_cons];exact ih k
theorem XF(r:List Itm):∀k,(ju r).take (k*3)=ju (r.take k):=by
 induction r with
 | nil=>intro k;simp [ju]
 | cons e r ih=>
  intro k
  cases k with
  | zero=>simp [ju]
  | succ k=>
   have e0:∀r,ju (e::r) = .int .i64 e.1 :: .int .i64 e.2.1 :: .int .i64 e.2.2::ju r:=fun _=>rfl;rw [e0,show (k+1)*3=k*3+1+1+1 by omega];simp only [List.take_succ_cons];rw [ih k,e0]
theorem WS(r:List Itm)(k:Nat)(h:k<r.length) :
  (ju r)[k*3]? = some (.int .i64 r[k].1)∧(ju r)[k*3+1]? = some (.int .i64 r[k].2.1)∧(ju r)[k*3+2]? = some (.int .i64 r[k].2.2):=by
 have hd:=Qi r k;rw [List.drop_eq_getElem_cons h] at hd;have e0:ju (r[k]::r.drop (k+1)) = .int .i64 r[k].1 :: .int .i64 r[k].2.1 :: .int .i64 r[k].2.2::ju (r.drop (k+1)):=rfl;rw [e0] at hd;have h0:∀j,(ju r)[k*3+j]? = ((ju r).drop (k*3))[j]? :=fun j=>by rw [List.getElem?_drop]
 exact ⟨by rw [←Nat.add_zero (k*3),h0,hd];rfl,by rw [h0,hd];rfl,by rw [h0,hd];rfl⟩
section
variable {w:World}{B:Nat}{A:Option Addr}{r:List Itm}
theorem jr.items(h:jr w B A (ju r))(hn:0<r.length) :
  ∃b off,A=some ⟨b,off,none⟩∧b<B ∧ ∀k (hk:k<r.length),w.cell? ⟨b,off+k*3,none⟩=some (.int .i64 r[k].1)∧w.cell? ⟨b,off+k*3+1,none⟩=some (.int .i64 r[k].2.1)∧w.cell? ⟨b,off+k*3+2,none⟩=some (.int .i64 r[k].2.2):=by
 obtain ⟨b,off,e,hb,hc⟩:=h (by rw [jV];omega);refine ⟨b,off,e,hb,fun k hk=>?_⟩;obtain ⟨h1,h2,h3⟩:=WS r k hk;exact ⟨hc _ _ h1,by have:=hc _ _ h2;rwa [←Nat.add_assoc] at this,by have:=hc _ _ h3;rwa [←Nat.add_assoc] at this⟩
theorem jr.itemsDrop{b off:Nat}(h:jr w B (some ⟨b,off,none⟩) (ju r))(k:Nat):jr w B (some ⟨b,off+k*3,none⟩) (ju (r.drop k)):=fun hn=>by
 obtain ⟨b',off',e,hb,hc⟩:=h (by
  rw [jV] at hn ⊢;rw [List.length_drop] at hn
  omega)
 injection e with e;injection e with e1 e2;subst e1 e2;refine ⟨b,off+k*3,rfl,hb,fun j u hu=>?_⟩;rw [←Qi,List.getElem?_drop] at hu;have:=hc _ _ hu
 rwa [←Nat.add_assoc] at this
theorem jr.itemsTake(h:jr w B A (ju r))(k:Nat):jr w B A (ju (r.take k)):=fun hn=>by
 obtain ⟨b',off',e,hb,hc⟩:=h (by
  rw [jV] at hn ⊢;rw [List.length_take] at hn
  omega)
 refine ⟨b',off',e,hb,fun j u hu=>hc j u ?_⟩;rw [←XF] at hu;obtain ⟨h1,h2⟩:=List.getElem?_eq_some_iff.1 hu;rw [List.length_take] at h1;rw [List.getElem?_eq_getElem (by omega)];rw [List.getElem_take] at h2;rw [h2]
end
theorem zB:kP Tryz.prog 41 81 (.agg #[.int .i64 0,.int .i64 0,.int .i64 0]) 3 24:=kP.mk' Tryz.underlying41 (by kernel_rfl) rfl (by omega)
theorem bP(w:World)(a:Option Addr)(n c:Nat):(binOp .eql 41 (.slice a n c) (.slice none 0 0)).run Tryz.prog w = .ok (.bool a.isNone) w:=by
 simp only [binOp];simp [Op.equal,Op.maxDepth,Lib.run_equalIn_slice_nil w 9999 41 81 a n c 0 0 Tryz.underlying41]
set_option maxRecDepth 20000 in
theorem VZ(A:Option Addr)(c:Nat)(l:List Itm)(w:World)(h:jr w w.heap.size A (ju l))(hl:l.length≤50000) :
  Calls Tryz.prog 102 #[.slice A l.length c] w (fun e w'=>∃v,e = .returned v∧Below w.heap.size w w'∧w'.ownsRow w.heap.size 81 3 v l.length (ju l)):=by
 cases A with
 | none=>
  have hl0:l=[]:=by
   cases l with
   | nil=>rfl
   | cons a r=>
    obtain ⟨b,off,e,_⟩:=h (by simp [ju])
    cases e
  subst hl0;have heq:=fun (wx:World)=>bP wx none 0 c
  go_enter Tryz.func102,Tryz.ntmps102
  go_wp2_with fail;go_ret;exact ⟨_,rfl,Below.refl _ _,World.ownsRow_nil _ _ _ _⟩
 | some ad=>
  have H:=Lib.hid h
  have ho0:(w.alloc (.cells #[] 81)).ownsRow w.heap.size 81 3 (.slice (some ⟨w.heap.size,0,none⟩) 0 0) 0 []:=
   vl (R:=#[]) (Nat.le_refl _) (by simpa using Blk.new w 81 #[]) (by simp) (Nat.le_refl _) (by unfold maxLen;omega) (by simp)
  have hba:=(Below.refl w.heap.size w).alloc (Nat.le_refl _) (.cells #[] 81);have hCa:=h.below hba;have hsa:w.heap.size≤(w.alloc (.cells #[] 81)).heap.size:=by simp
  clear h;have heq:=fun (wx:World)=>bP wx (some ad) l.length c
  go_enter Tryz.func102,Tryz.ntmps102
  go_wp2_with (at_builtin;refine yU zB rfl _ _ rfl rfl ho0 rfl hCa (jV l) (yg l) ?h2 ?h3 ?h4 ?_)
  case h2=>omega
  case h3=>omega
  try (case h4=>omega)
  intro v5 w5 ho5 hg5 _;have hb5:Below w.heap.size w w5:=qb hba ho0 hg5 hsa (Nat.le_refl _);have HX:=Lib.hid (And.intro hb5 (show w5.ownsRow w.heap.size 81 3 v5 l.length (ju l) by simpa using ho5));clear ho5 hg5 hb5 ho0 hba hCa;go_wp2_with fail;go_ret;exact ⟨_,rfl,HX.out.1,HX.out.2⟩
set_option maxHeartbeats 1000000 in
set_option maxRecDepth 20000 in
theorem WT(k:Nat)(hk:k≤1000000)(w:World) :
  Calls Tryz.prog 137 #[.slice none 0 0,.int .i64 k] w fun e w'=>∃A c,e = .returned (.slice A 0 c)∧Below w.heap.size w w'∧w'.ownsRow w.heap.size 81 3 (.slice A 0 c) 0 []:=by
 rcases Nat.eq_zero_or_pos k with h0 | h0
 ·subst h0
  go_enter Tryz.func137,Tryz.ntmps137
  go_wp2
  go_ret;exact ⟨none,0,rfl,Below.refl _ _,World.ownsRow_nil _ _ _ _⟩
 ·obtain ⟨i,ht,hi,hz,hsize,hby,hzs,hsz⟩:=zB
  have hrz:∀ty,(Builtin.append_ #[41,3] ty #[.slice none 0 0,.int .i64 (k:Int)]).run Tryz.prog w =
    .ok (.slice (some ⟨w.heap.size,0,none⟩) k (grownCap w k 0 81)) (w.drew.alloc (.cells (#[]++Builtin.zeroCells (Value.agg #[.int .i64 0,.int .i64 0,.int .i64 0]).cells k++Builtin.zeroCells (Value.agg #[.int .i64 0,.int .i64 0,.int .i64 0]).cells (grownCap w k 0 81-k)) 81)):=fun ty=>by
   have h:=Lib.run_append_grow_zeros (P:=Tryz.prog) w 41 3 ty 81 i (.agg #[.int .i64 0,.int .i64 0,.int .i64 0]) .i64 .i64 ht Tryz.underlying3 hi hz none 0 0 [] (run_firstCells_none w.drew i.size 0 0 0) k h0 (by rw [hsize];exact hsz) (by omega) (by omega) (by rw [hby];omega)
    (by rw [Nat.zero_add];exact growslice_fits h0 (by rw [hby];omega))
   simpa only [Nat.zero_add] using h
  have hGn:k≤grownCap w k 0 81:=grownCap_ge w _ _ _;have hGm:=grownCap_le_maxLen w k 0 81 (by unfold maxLen;omega)
  have hsz2:(#[]++Builtin.zeroCells (Value.agg #[.int .i64 0,.int .i64 0,.int .i64 0]).cells k++Builtin.zeroCells (Value.agg #[.int .i64 0,.int .i64 0,.int .i64 0]).cells (grownCap w k 0 81-k)).size=grownCap w k 0 81*3:=by
   simp only [Array.size_append,size_zeroCells,hzs];simp;omega
  generalize grownCap w k 0 81=G at *;generalize #[]++Builtin.zeroCells (Value.agg #[.int .i64 0,.int .i64 0,.int .i64 0]).cells k++Builtin.zeroCells (Value.agg #[.int .i64 0,.int .i64 0,.int .i64 0]).cells (G-k)=cs at *;have hG0:¬G=0:=by omega
  have hk1:(k:Int)>0:=by omega
  have hm:maxLen=9223372036854775807:=rfl;have hb:=((Below.refl w.heap.size w).drew).alloc (Nat.le_refl _) (.cells cs 81)
  have ho:(w.drew.alloc (.cells cs 81)).ownsRow w.heap.size 81 3 (.slice (some ⟨w.heap.size,0,none⟩) 0 G) 0 []:=
   ⟨by simp,.inr ⟨w.heap.size,G,cs,rfl,Nat.le_refl _,heap_alloc_new w.drew _,Nat.zero_le _,hGm,hsz2,by simp⟩⟩
  go_enter Tryz.func137,Tryz.ntmps137
  go_wp2_with (at_builtin;refine Lib.wpList_append_run _ rfl _ _ _ _ rfl _ _ rfl rfl _ _ (hrz _) ?_);go_ret;exact ⟨_,_,rfl,hb,ho⟩
def yO(w:World)(B:Nat)(A:Option Addr)(rs:List (List Itm)):Prop:=
 0<rs.length → ∃b off,A=some ⟨b,off,none⟩∧b<B ∧ ∀i (h:i<rs.length),∃Ai ci,w.cell? ⟨b,off+i,none⟩=some (.slice Ai rs[i].length ci)∧jr w B Ai (ju rs[i])
section
variable {w w':World}{B B':Nat}{A:Option Addr}{rs:List (List Itm)}
theorem yO.keep(h:yO w B A rs)(hk:∀p:Addr,p.block<B→w'.cell? p=w.cell? p):yO w' B A rs:=fun hn=>by
 obtain ⟨b,off,e,hb,hc⟩:=h hn;refine ⟨b,off,e,hb,fun i hi=>?_⟩;obtain ⟨Ai,ci,h1,h2⟩:=hc i hi;exact ⟨Ai,ci,(hk _ (by exact hb)).trans h1,h2.keep hk⟩
theorem yO.more(h:yO w B A rs)(hB:B≤B'):yO w B' A rs:=fun hn=>by
 obtain ⟨b,off,e,hb,hc⟩:=h hn;refine ⟨b,off,e,by omega,fun i hi=>?_⟩;obtain ⟨Ai,ci,h1,h2⟩:=hc i hi;exact ⟨Ai,ci,h1,h2.more hB⟩
theorem yO.below(h:yO w B A rs)(hb:Below B w w'):yO w' B A rs:=h.keep fun _ hp=>hb.cell hp
end
theorem JH{α : Type}{rs:List (List α)}{i:Nat}(h:i<rs.length):(rs.take (i+1)).flatten=(rs.take i).flatten++rs[i]:=by
 rw [List.take_succ_eq_append_getElem h,List.flatten_append];simp
theorem ZF{α : Type}(rs:List (List α))(i:Nat):(rs.take i).flatten.length≤rs.flatten.length:=by
 conv=>rhs;rw [←List.take_append_drop i rs,List.flatten_append,List.length_append]
 omega
set_option maxHeartbeats 1000000 in
theorem WZ(C:Option Addr)(cap:Nat)(rs:List (List Itm))(w:World)(hrs:yO w w.heap.size C rs)(h1:rs.length≤1000)(h2:rs.flatten.length≤100000) :
  Calls Tryz.prog 103 #[.slice C rs.length cap] w fun e w'=>∃v,e = .returned v∧Below w.heap.size w w'∧w'.ownsRow w.heap.size 81 3 v rs.flatten.length (ju rs.flatten):=by
 go_enter Tryz.func103,Tryz.ntmps103
 go_wp2_with fail
 go_loopg [3,11] rs.length (fun k s3 s11 wr=>∃i:Nat,s11 = .int .i64 i∧i≤rs.length∧k=rs.length-i∧wr=w∧s3 = .int .i64 ((rs.take i).flatten.length:Nat))
 case atStart=>exact ⟨0,rfl,Nat.zero_le _,rfl,rfl,rfl⟩
 case round=>
  obtain ⟨i,rfl,hi,hk,hwr,rfl⟩:=hrel;have Hk:=Lib.hid hk;clear hk;have hfl:=ZF rs i;by_cases hlt:i<rs.length
  ·have hlt':(i:Int)<rs.length:=by omega
   obtain ⟨b,off,rfl,hbb,hc⟩:=hrs (by omega);obtain ⟨Ai,ci,e0,_⟩:=hc i hlt;have e0:wr.cell? ⟨b,off+i,none⟩=some (.slice Ai rs[i].length ci):=by rw [hwr];exact e0
   have HL:=Lib.hid (show ((rs.take (i+1)).flatten.length:Int)=(rs.take i).flatten.length+rs[i].length by rw [JH hlt,List.length_append];omega);have hfl2:=ZF rs (i+1);rw [JH hlt,List.length_append] at hfl2;have Hwr:=Lib.hid hwr;clear hc hwr;generalize (rs.take i).flatten.length=t at *;generalize rs[i]=l at *;go_wp2_with fail
   go_roundg (rs.length-(i+1))
   case measure=>rw [Hk.out];omega
   case rel=>exact ⟨i+1,by go_num,by omega,rfl,Hwr.out,by rw [HL.out]⟩
  ·have hie:i=rs.length:=by omega
   subst hie;subst hwr;rw [List.take_length];obtain ⟨t,ht⟩:∃t,t=rs.flatten.length:=⟨_,rfl⟩;rw [←ht];have ht2:t≤100000:=by omega
   have Ht:=Lib.hid ht;clear ht hfl h2;have Hh2:=Lib.hid (show rs.flatten.length≤100000 by rw [←Ht.out];exact ht2);go_wp2_with fail;refine (WT t (by omega) wr).mono ?_;rintro e w1 ⟨A1,c1,rfl,hb1,ho1⟩;have Hrs:=Lib.hid hrs;clear hrs hlt hi;obtain ⟨w,rfl⟩:∃x,x=wr:=⟨_,rfl⟩;go_wp2_with fail
   go_loopg [6,27] rs.length (fun k s6 s27 wr=>∃(i:Nat) (A:Option Addr) (c:Nat),s27 = .int .i64 i∧i≤rs.length∧k=rs.length-i∧s6 = .slice A (rs.take i).flatten.length c∧Below w.heap.size w wr∧wr.ownsRow w.heap.size 81 3 (.slice A (rs.take i).flatten.length c) (rs.take i).flatten.length (ju (rs.take i).flatten))
   case atStart=>exact ⟨0,A1,c1,rfl,Nat.zero_le _,rfl,rfl,hb1,ho1⟩
   case round=>
    clear hb1 ho1;obtain ⟨i,A,c,rfl,hi,hk,rfl,hb,hown⟩:=hrel;have Hk:=Lib.hid hk;clear hk;have hfl:=Nat.le_trans (ZF rs i) Hh2.out;by_cases hlt:i<rs.length
    ·have hlt':(i:Int)<rs.length:=by omega
     obtain ⟨b,off,rfl,hbb,hc⟩:=Hrs.out (by omega);obtain ⟨Ai,ci,e0,hCi⟩:=hc i hlt;have e0:=(hb.cell (p:=⟨b,off+i,none⟩) hbb).trans e0;have hCi:=hCi.below hb;have HL:=Lib.hid (JH hlt);have hfl2:=Nat.le_trans (ZF rs (i+1)) Hh2.out;rw [JH hlt,List.length_append] at hfl2;have hs:=hb.size;clear hc;generalize (rs.take i).flatten=t at *;generalize rs[i]=l at *;go_wp2_with (at_builtin;refine yU zB rfl _ _ rfl rfl hown rfl hCi (jV l) (yg l) ?h2 ?h3 ?h4 ?_)
     case h2=>omega
     case h3=>omega
     case h4=>omega
     intro v' w' hown' hg' _;have hb':=qb hb hown hg' hs (Nat.le_refl _);obtain ⟨A',c',rfl⟩:=jv hown';clear hown hg' hb hCi;go_wp2_with fail
     go_roundg (rs.length-(i+1))
     case measure=>rw [Hk.out];omega
     case rel=>exact ⟨i+1,A',c',by go_num,by omega,rfl,by rw [HL.out,List.length_append],hb',by rw [HL.out,List.length_append,yh];exact hown'⟩
    ·have hie:i=rs.length:=by omega
     subst hie;rw [List.take_length] at hown ⊢;have HC:=Lib.hid hown;rw [←Ht.out];clear hown hfl;go_wp2_with fail;go_ret;refine ⟨.slice A t c,rfl,hb,?_⟩;have:=HC.out;rw [←Ht.out] at this ⊢;exact this
end Go.Proofs.YtneeknlhlkpnpaaGreat
namespace Go.Proofs.YtneeknlhlkpnpaaGreat
open Go.RowKit
def GA(x:Int)(e:Itm):Bool:=(e.2.2 != x)&&(e.2.2 != -1)
theorem iM(x a b c:Int)(g:Nat)(w:World)(hg:w.cell? ⟨g,0,none⟩=some (.int .i64 x)) :
  Calls Tryz.prog 135 #[.agg #[.int .i64 a,.int .i64 b,.int .i64 c],.pointer (some ⟨g,0,none⟩)] w fun e w'=>e = .returned (.bool (GA x (a,b,c)))∧Below w.heap.size w w':=by
 have hl:=World.block_lt_of_cell? w _ hg;simp only at hl;have hb:=(Below.refl w.heap.size w).alloc (Nat.le_refl _) (.cells #[.int .i64 a,.int .i64 b,.int .i64 c] 81);by_cases h1:c=x
 ·have HR:=Lib.hid (show GA x (a,b,c)=false by simp [GA,h1]);have h1':(c != x)=false:=by simp [h1]
  clear h1
  go_enter Tryz.func135,Tryz.ntmps135
  go_wp2_with fail;go_ret;exact ⟨jx HR.out.symm,hb⟩
 ·have h1':(c != x)=true:=by simp [h1]
  have HR:=Lib.hid (show GA x (a,b,c)=(c != -1) by simp [GA,h1]);clear h1
  go_enter Tryz.func135,Tryz.ntmps135
  go_wp2_with fail;go_ret;exact ⟨jx HR.out.symm,hb⟩
set_option maxHeartbeats 400000 in
theorem Uk(A:Option Addr)(cap:Nat)(r:List Itm)(fid:FuncId)(caps:Array Value)(p:Nat→Bool)(w:World)(hlen:r.length≤50000)
  (hes:jr w w.heap.size A (ju r))
  (hcf:∀(u:World) (args:Array Value),(callFunc fid args).run Tryz.prog u = .ok (.enter fid args) u)
  (hcl:∀(i:Nat) (hi:i<r.length) (w':World),Below w.heap.size w w'→Calls Tryz.prog fid (#[.agg #[.int .i64 r[i].1,.int .i64 r[i].2.1,.int .i64 r[i].2.2]]++caps) w' fun e w''=>e = .returned (.bool (p i))∧Below w'.heap.size w' w'') :
  Calls Tryz.prog 160 #[.slice A r.length cap,.func (.func fid) #[] caps] w (fj p r.length w):=by
 have Hcl:=Lib.hid hcl;clear hcl
 go_enter Tryz.func160,Tryz.ntmps160
 go_wp2
 go_loopg [8] (r.length) (fun k s8 wr=>∃i:Nat,s8 = .int .i64 i∧i≤r.length∧k=r.length-i∧Below w.heap.size w wr ∧ ∀j,j<i→p j=false)
 case atStart=>exact ⟨0,rfl,Nat.zero_le _,rfl,Below.refl _ _,fun j hj=>absurd hj (by omega)⟩
 case round=>
  obtain ⟨i,rfl,hi,hk,hb,hf⟩:=hrel;have Hk:=Lib.hid hk;clear hk;have Hf:=Lib.hid hf;clear hf;by_cases hlt:i<r.length
  ·obtain ⟨b,off,rfl,hbb,hc⟩:=hes.items (by omega);obtain ⟨c0,c1,c2⟩:=hc i hlt;clear hc;have c0':=(hb.cell (p:=⟨b,off+i*3,none⟩) hbb).trans c0;have c1':=(hb.cell (p:=⟨b,off+i*3+1,none⟩) hbb).trans c1;have c2':=(hb.cell (p:=⟨b,off+i*3+1+1,none⟩) hbb).trans c2;clear c0 c1 c2;go_wp2_with fail;refine (Hcl.out i hlt _ hb).mono ?_;rintro e w' ⟨rfl,hb2⟩;have hb3:=hb.trans (hb2.mono hb.size);clear c0' c1' c2'
   cases hp:p i with
   | true=>
    have Hp:=Lib.hid hp;clear hp;go_wp2_with fail;go_ret;exact ⟨_,rfl,hb3,.inr ⟨i,rfl,hlt,Hp.out,Hf.out⟩⟩
   | false=>
    have Hp:=Lib.hid hp;clear hp;go_wp2_with fail
    go_roundg (r.length-(i+1))
    case measure=>rw [Hk.out];omega
    case rel=>exact ⟨i+1,by go_num,by omega,rfl,hb3,fun j hj=>by
     by_cases h:j=i
     ·rw [h];exact Hp.out
     ·exact Hf.out j (by omega)⟩
  ·go_wp2_with fail;go_ret;exact ⟨_,rfl,hb,.inl ⟨rfl,fun j hj=>Hf.out j (by omega)⟩⟩
theorem ZV(A:Option Addr)(cap:Nat)(r:List Itm)(fid:FuncId)(caps:Array Value)(p:Nat→Bool)(w:World)(hlen:r.length≤50000)
  (hes:jr w w.heap.size A (ju r))
  (hcf:∀(u:World) (args:Array Value),(callFunc fid args).run Tryz.prog u = .ok (.enter fid args) u)
  (hcl:∀(i:Nat) (hi:i<r.length) (w':World),Below w.heap.size w w'→Calls Tryz.prog fid (#[.agg #[.int .i64 r[i].1,.int .i64 r[i].2.1,.int .i64 r[i].2.2]]++caps) w' fun e w''=>e = .returned (.bool (p i))∧Below w'.heap.size w' w'') :
  Calls Tryz.prog 134 #[.slice A r.length cap,.func (.func fid) #[] caps] w fun e w'=>e = .returned (.bool (Xt p r.length))∧Below w.heap.size w w':=by
 have Hc:=Lib.hid (Uk A cap r fid caps p w hlen hes hcf hcl);clear hes hcf hcl
 go_enter Tryz.func134,Tryz.ntmps134
 go_wp2_with fail;refine Hc.out.mono ?_;rintro e w' ⟨r,rfl,hb,hr⟩;have Hr:=Lib.hid hr;clear hr;go_wp2_with fail;go_ret;refine ⟨jx ?_,hb⟩;unfold Xt;rcases Hr.out with ⟨rfl,h⟩ | ⟨k,rfl,hk,hp,_⟩
 ·rw [show decide ((0:Int) ≤ -1)=false from rfl,eq_comm,List.any_eq_false];intro i hi;rw [h i (List.mem_range.1 hi)];simp
 ·rw [decide_eq_true (by omega),eq_comm,List.any_eq_true];exact ⟨k,List.mem_range.2 hk,hp⟩
theorem XI(u:World)(args:Array Value):(callFunc 135 args).run Tryz.prog u = .ok (.enter 135 args) u:=by
 go_simp
def qx(x:Int)(r:List Itm):Nat→Int×Int×Int
 | 0=>(-1,0,0)
 | k+1=>if (r.getD k (0,0,0)).2.2=x then (if (qx x r k).1 = -1 then (k:Int) else (qx x r k).1,(k:Int)+1,(qx x r k).2.2+1) else qx x r k
theorem aO(x:Int)(r:List Itm):∀k,0≤(qx x r k).2.2∧(qx x r k).2.2≤k
 | 0=>⟨Int.le_refl _,Int.le_refl _⟩
 | k+1=>by
  have h:=aO x r k;rw [qx]
  split
  ·constructor<;>simp only<;>omega
  ·omega
set_option maxHeartbeats 1000000 in
theorem aP(g:Nat)(A:Option Addr)(c:Nat)(r:List Itm)(x:Int)(w:World)(hg:w.cell? ⟨g,0,none⟩=some (.slice A r.length c))(hr:jr w w.heap.size A (ju r))(hl:r.length≤50000) :
  Calls Tryz.prog 45 #[.pointer (some ⟨g,0,none⟩),.int .i64 x] w fun e w'=>e = .returned (.tuple #[.int .i64 (qx x r r.length).1,.int .i64 (qx x r r.length).2.1,.int .i64 (qx x r r.length).2.2])∧Below w.heap.size w w':=by
 have H:=Lib.hid hr;clear hr
 go_enter Tryz.func45,Tryz.ntmps45
 go_wp2_with fail
 go_loopg [4,5,6,14] r.length (fun k s4 s5 s6 s14 wr=>∃i:Nat,s14 = .int .i64 i∧i≤r.length∧k=r.length-i∧Below w.heap.size w wr∧s4 = .int .i64 (qx x r i).1∧s5 = .int .i64 (qx x r i).2.1∧s6 = .int .i64 (qx x r i).2.2)
 case atStart=>exact ⟨0,rfl,Nat.zero_le _,rfl,Below.refl _ _,rfl,rfl,rfl⟩
 case round=>
  obtain ⟨i,rfl,hi,hk,hb,rfl,rfl,rfl⟩:=hrel;have Hk:=Lib.hid hk;clear hk;have hct:=aO x r i;by_cases hlt:i<r.length
  ·obtain ⟨b,off,rfl,hbb,hc⟩:=H.out.items (by omega);obtain ⟨c0,c1,c2⟩:=hc i hlt;have c0':=(hb.cell (p:=⟨b,off+i*3,none⟩) hbb).trans c0;have c1':=(hb.cell (p:=⟨b,off+i*3+1,none⟩) hbb).trans c1;have c2':=(hb.cell (p:=⟨b,off+i*3+1+1,none⟩) hbb).trans c2;have hlt':(i:Int)<r.length:=by omega
   have HS:=Lib.hid (show qx x r (i+1)=if r[i].2.2=x then (if (qx x r i).1 = -1 then (i:Int) else (qx x r i).1,(i:Int)+1,(qx x r i).2.2+1) else qx x r i by
    rw [qx,List.getD_eq_getElem?_getD,List.getElem?_eq_getElem hlt,Option.getD_some])
   clear hc c0 c1 c2 hg;generalize qx x r i=S at *;generalize r[i].1=e1 at *;generalize r[i].2.1=e2 at *;generalize r[i].2.2=e3 at *;obtain ⟨S1,S2,S3⟩:=S;simp only at hct HS ⊢;have HB:=Lib.hid (hb.alloc hb.size (.cells #[.int .i64 e1,.int .i64 e2,.int .i64 e3] 81));by_cases h1:e3=x
   ·have h1':(e3 != x)=false:=by simp [h1]
    rw [if_pos h1] at HS;clear h1;by_cases h2:S1 = -1
    ·have h2':(S1 == -1)=true:=by simp [h2]
     rw [if_pos h2] at HS;clear h2;go_wp2_with fail
     go_roundg (r.length-(i+1))
     case measure=>rw [Hk.out];omega
     case rel=>exact ⟨i+1,by go_num,by omega,rfl,HB.out,by rw [HS.out],by rw [HS.out],by rw [HS.out]⟩
    ·have h2':(S1 == -1)=false:=by simp [h2]
     rw [if_neg h2] at HS;clear h2;go_wp2_with fail
     go_roundg (r.length-(i+1))
     case measure=>rw [Hk.out];omega
     case rel=>exact ⟨i+1,by go_num,by omega,rfl,HB.out,by rw [HS.out],by rw [HS.out],by rw [HS.out]⟩
   ·have h1':(e3 != x)=true:=by simp [h1]
    rw [if_neg h1] at HS;clear h1;go_wp2_with fail
    go_roundg (r.length-(i+1))
    case measure=>rw [Hk.out];omega
    case rel=>exact ⟨i+1,by go_num,by omega,rfl,HB.out,by rw [HS.out],by rw [HS.out],by rw [HS.out]⟩
  ·have hie:i=r.length:=by omega
   subst hie;go_wp2_with fail;go_ret3;exact ⟨rfl,hb⟩
def Xn(x:Int)(r:List Itm):Bool:=!Xt (fun i=>GA x (r.getD i (0,0,0))) r.length
set_option maxHeartbeats 1000000 in
theorem gH(g:Nat)(A:Option Addr)(c:Nat)(r:List Itm)(x:Int)(f t:Nat)(w:World)(hg:w.cell? ⟨g,0,none⟩=some (.slice A r.length c))(hr:jr w w.heap.size A (ju r))(hl:r.length≤50000)(hft:f≤t)(htl:t≤r.length)(hc:r.length≤c)(hpos:0<r.length) :
  Calls Tryz.prog 98 #[.pointer (some ⟨g,0,none⟩),.int .i64 x,.int .i64 f,.int .i64 t] w fun e w'=>e = .returned (.bool (Xn x ((r.take t).drop f)))∧Below w.heap.size w w':=by
 have hgl:=World.block_lt_of_cell? w _ hg;simp only at hgl;obtain ⟨b,off,rfl,hbb,_⟩:=hr.items hpos;have HB:=Lib.hid ((Below.refl w.heap.size w).alloc (Nat.le_refl _) (.cells #[.int .i64 x] 3));have HN:=Lib.hid (show ((r.take t).drop f).length=t-f by rw [List.length_drop,List.length_take];omega);obtain ⟨bv,hbv⟩:∃bv,bv=Xt (fun i=>GA x (((r.take t).drop f).getD i (0,0,0))) (t-f):=⟨_,rfl⟩;have HBV:=Lib.hid hbv;clear hbv;have HX:=Lib.hid (by simp:(w.alloc (.cells #[.int .i64 x] 3)).cell? ⟨w.heap.size,0,none⟩=some (.int .i64 x))
 have HK:=Lib.hid (fun (A:Option Addr) (cp:Nat) (h:jr (w.alloc (.cells #[.int .i64 x] 3)) (w.alloc (.cells #[.int .i64 x] 3)).heap.size A (ju ((r.take t).drop f)))=>(by
  have:=ZV A cp ((r.take t).drop f) 135 #[.pointer (some ⟨w.heap.size,0,none⟩)] (fun i=>GA x (((r.take t).drop f).getD i (0,0,0))) _ (by rw [HN.out];omega) h XI (fun i hi w' hb=>by
   rw [List.getD_eq_getElem?_getD,List.getElem?_eq_getElem hi,Option.getD_some]
   exact iM x _ _ _ w.heap.size w' ((hb.cell (by simp)).trans HX.out))
  rw [HN.out,←HBV.out] at this
  exact this:Calls Tryz.prog 134 #[.slice A (t-f) cp,.func (.func 135) #[] #[.pointer (some ⟨w.heap.size,0,none⟩)]] (w.alloc (.cells #[.int .i64 x] 3)) fun e w'=>e = .returned (.bool bv)∧Below (w.alloc (.cells #[.int .i64 x] 3)).heap.size (w.alloc (.cells #[.int .i64 x] 3)) w'))
 have HC:=Lib.hid ((hr.below HB.out).more HB.out.size);have HR:=Lib.hid (show Xn x ((r.take t).drop f) = !bv by unfold Xn;rw [HN.out,HBV.out]);have HL:=Lib.hid hl;clear hr hl
 go_enter Tryz.func98,Tryz.ntmps98
 go_wp2_with fail
 ·refine (HK.out _ _ (fun hn=>absurd hn (by rw [jV,HN.out];omega))).mono ?_;rintro e w2 ⟨rfl,hb2⟩;have HB2:=Lib.hid (HB.out.trans (hb2.mono HB.out.size));clear hb2;go_wp2_with fail;go_ret;exact ⟨jx HR.out.symm,HB2.out⟩
 ·refine (HK.out _ _ ((HC.out.itemsTake t).itemsDrop f)).mono ?_;rintro e w2 ⟨rfl,hb2⟩;have HB2:=Lib.hid (HB.out.trans (hb2.mono HB.out.size));clear hb2;go_wp2_with fail;go_ret;exact ⟨jx HR.out.symm,HB2.out⟩
end Go.Proofs.YtneeknlhlkpnpaaGreat
namespace Go.Proofs.YtneeknlhlkpnpaaGreat
open Go.RowKit
section
set_option maxRecDepth 20000
theorem Vg(gv n x:Nat)(es:List (Int×Int))(w:World)(hv:zC w gv n es)(hx:x<n)(hl:es.length≤1000) :
  Calls Tryz.prog 44 #[.pointer (some ⟨gv,0,none⟩),.int .i64 (x:Nat)] w (fun e w'=>∃v,e = .returned v∧Below w.heap.size w w'∧w'.ownsRow w.heap.size 3 1 v (jK es Prod.fst (x:Nat) es.length).length (jf (jK es Prod.fst (x:Nat) es.length))):=by
 obtain ⟨A,c,go,gi,h1,h2,_⟩:=hv.tabs;obtain ⟨b,off,e,hb,hcc⟩:=h2 (by rw [yX];omega);injection e with e;injection e with e1 e2 _;subst e1 e2;obtain ⟨Ai,ci,zi,hCi⟩:=hcc x (by rw [yX];exact hx);have hrow:(zJ n es Prod.fst)[x]'(by rw [yX];exact hx)=jK es Prod.fst (x:Nat) es.length:=by simp [zJ]
 rw [hrow] at zi hCi;rw [Nat.zero_add] at zi;have hle:=qd es Prod.fst (x:Nat) es.length;have z0:=h1.cell 0;have z2:=h1.cell 2;simp only [List.getElem?_toArray,List.getElem?_cons_zero,List.getElem?_cons_succ] at z0 z2;have HT:=Lib.hid (UE gv n go x ci Ai (jK es Prod.fst (x:Nat) es.length) w z0 zi hx hCi (by omega));clear hrow h2 hcc hCi zi h1
 go_enter Tryz.func44,Tryz.ntmps44
 go_wp2_with fail;refine HT.out.mono ?_;rintro e w2 ⟨v,rfl,hb2,ho2⟩;have HB:=Lib.hid hb2;have HO:=Lib.hid ho2;clear hb2 ho2;go_wp2_with fail;go_ret;exact ⟨_,rfl,HB.out,HO.out⟩
theorem aJ(gv n x:Nat)(es:List (Int×Int))(w:World)(hv:zC w gv n es)(hx:x<n)(hl:es.length≤1000) :
  Calls Tryz.prog 97 #[.pointer (some ⟨gv,0,none⟩),.int .i64 (x:Nat)] w (fun e w'=>∃v,e = .returned v∧Below w.heap.size w w'∧w'.ownsRow w.heap.size 3 1 v (jK es Prod.snd (x:Nat) es.length).length (jf (jK es Prod.snd (x:Nat) es.length))):=by
 obtain ⟨A,c,go,gi,h1,_,h2⟩:=hv.tabs;obtain ⟨b,off,e,hb,hcc⟩:=h2 (by rw [yX];omega);injection e with e;injection e with e1 e2 _;subst e1 e2;obtain ⟨Ai,ci,zi,hCi⟩:=hcc x (by rw [yX];exact hx);have hrow:(zJ n es Prod.snd)[x]'(by rw [yX];exact hx)=jK es Prod.snd (x:Nat) es.length:=by simp [zJ]
 rw [hrow] at zi hCi;rw [Nat.zero_add] at zi;have hle:=qd es Prod.snd (x:Nat) es.length;have z0:=h1.cell 0;have z2:=h1.cell 3;simp only [List.getElem?_toArray,List.getElem?_cons_zero,List.getElem?_cons_succ] at z0 z2;have HT:=Lib.hid (UE gv n gi x ci Ai (jK es Prod.snd (x:Nat) es.length) w z0 zi hx hCi (by omega));clear hrow h2 hcc hCi zi h1
 go_enter Tryz.func97,Tryz.ntmps97
 go_wp2_with fail;refine HT.out.mono ?_;rintro e w2 ⟨v,rfl,hb2,ho2⟩;have HB:=Lib.hid hb2;have HO:=Lib.hid ho2;clear hb2 ho2;go_wp2_with fail;go_ret;exact ⟨_,rfl,HB.out,HO.out⟩
end
structure FrontW(w0 w:World)(g gv n:Nat)(es:List (Int×Int))(r:List Itm)(pl:List Int):Prop where
 vw:zC w0 gv n es
 bel:Below w0.heap.size w0 w
 hg:w0.heap.size≤g
 st:∃vi vp,Blk w g 89 #[vi,.pointer (some ⟨gv,0,none⟩),vp]∧w.ownsRow w0.heap.size 81 3 vi r.length (ju r)∧w.ownsRow w0.heap.size 3 1 vp pl.length (jf pl)
section
variable {w0 w w':World}{g gv n:Nat}{es:List (Int×Int)}{r:List Itm}{pl:List Int}
theorem FrontW.evo{B:Nat}{T:List TypeId}(h:FrontW w0 w g gv n es r pl)(he:Evo B T w w')(hB:w0.heap.size≤B)(hBw:B≤w.heap.size)(h1:89∉T)(h2:81∉T)(h3:3∉T):FrontW w0 w' g gv n es r pl:=by
 obtain ⟨vi,vp,hb,hi,hp⟩:=h.st;exact ⟨h.vw,h.bel.trans ((he.below hBw).mono hB),h.hg,vi,vp,hb.evo he (.inr h1),qA hi he h2,qA hp he h3⟩
theorem FrontW.next(h:FrontW w0 w g gv n es r pl)(hb:Below w.heap.size w w'):FrontW w0 w' g gv n es r pl:=
 h.evo (B:=w.heap.size) (T:=[]) (Evo.of_below hb) h.bel.size (Nat.le_refl _) (by simp) (by simp) (by simp)
theorem FrontW.view(h:FrontW w0 w g gv n es r pl):zC w gv n es:=h.vw.below h.bel (Nat.le_refl _)
end
theorem kX(x:Int)(r:List Itm):∀k,(qx x r k).2.2=0∧qx x r k=(-1,0,0) ∨ ∃f t:Nat,(qx x r k).1=f∧(qx x r k).2.1=t∧f<t∧t≤k∧0<(qx x r k).2.2
 | 0=>.inl ⟨rfl,rfl⟩
 | k+1=>by
  have h:=kX x r k;rw [qx]
  split
  ·right
   rcases h with ⟨_,h⟩ | ⟨f,t,h1,h2,h3,h4,h5⟩
   ·rw [h];exact ⟨k,k+1,rfl,by simp only;omega,by omega,by omega,by simp⟩
   ·rw [if_neg (by omega)];exact ⟨f,k+1,h1,by simp only;omega,by omega,by omega,by simp only;omega⟩
  ·rcases h with h | ⟨f,t,h1,h2,h3,h4,h5⟩
   ·exact .inl h
   ·exact .inr ⟨f,t,h1,h2,h3,by omega,h5⟩
def qT(es:List (Int×Int))(r:List Itm)(pl:List Int)(x:Nat):Bool:=
 !decide (xX pl x≥0)&&decide ((qx x r r.length).2.2=(jK es Prod.snd x es.length).length)&&(decide ((jK es Prod.snd (x:Nat) es.length).length=0)||Xn x ((r.take (qx x r r.length).2.1.toNat).drop (qx x r r.length).1.toNat))
set_option maxRecDepth 20000 in
set_option maxHeartbeats 2000000 in
theorem Vj(w0 w:World)(g gv n:Nat)(es:List (Int×Int))(r:List Itm)(pl:List Int)(x:Nat)(h:FrontW w0 w g gv n es r pl)(hx:x<n)(hl:es.length≤1000)(hr:r.length≤50000)(hp:pl.length≤1000) :
  Calls Tryz.prog 40 #[.pointer (some ⟨g,0,none⟩),.int .i64 (x:Nat)] w (fun e w'=>e = .returned (.bool (qT es r pl x))∧Below w.heap.size w w'):=by
 have H:=Lib.hid h;obtain ⟨vi,vp,hb,hi,hpl⟩:=h.st;obtain ⟨Ai,ci,rfl⟩:=jv hi;obtain ⟨Ap,cp,rfl⟩:=jv hpl;have HI:=Lib.hid hi;have HG:=Lib.hid hb;have hgl:=hb.lt;have z0:=hb.cell 0;have z1:=hb.cell 1;have z2:=hb.cell 2;simp only [List.getElem?_toArray,List.getElem?_cons_zero,List.getElem?_cons_succ] at z0 z1 z2;obtain ⟨_,_,_,_,hv1,_,_⟩:=h.view.tabs;have y0:=hv1.cell 0;simp only [List.getElem?_toArray,List.getElem?_cons_zero] at y0;have HPC:=Lib.hid (YD Ap cp pl (x:Nat) w (jr.of_own hpl) (by omega));have hx0:¬(x:Int)<0:=by omega
 have hxn:¬(n:Int)≤(x:Int):=by omega
 have hxn':((x:Int)≥(n:Int))=False:=by simp;omega
 clear h hb hi hpl hv1
 cases hc:decide (xX pl (x:Nat)≥0) with
 | true=>
  have HR:=Lib.hid (show qT es r pl x=false by unfold qT;rw [hc];rfl);rw [hc] at HPC;clear hc
  go_enter Tryz.func40,Tryz.ntmps40
  go_wp2_with fail;refine HPC.out.mono ?_;rintro e w2 ⟨rfl,rfl⟩;go_wp2_with fail;go_ret;exact ⟨jx HR.out.symm,Below.refl _ _⟩
 | false=>
  rw [hc] at HPC;have HR1:=Lib.hid (show qT es r pl x=(decide ((qx x r r.length).2.2=(jK es Prod.snd x es.length).length)&&(decide ((jK es Prod.snd (x:Nat) es.length).length=0)||Xn x ((r.take (qx x r r.length).2.1.toNat).drop (qx x r r.length).1.toNat))) by unfold qT;rw [hc];rfl);clear hc
  go_enter Tryz.func40,Tryz.ntmps40
  go_wp2_with fail;refine HPC.out.mono ?_;rintro e w2 ⟨rfl,rfl⟩;go_wp2_with fail;refine (aJ gv n x es w H.out.view hx hl).mono ?_;rintro e w2 ⟨v2,rfl,hb2,ho2⟩;obtain ⟨A2,c2,rfl⟩:=jv ho2;have hH2:=H.out.next hb2
  have hG2:=HG.out.below hb2 hgl;have z0:=hG2.cell 0;have z1:=hG2.cell 1;simp only [List.getElem?_toArray,List.getElem?_cons_zero,List.getElem?_cons_succ] at z0 z1;have HI2:=Lib.hid (jT HI.out hb2 (Nat.le_refl _));have HB2:=Lib.hid hb2;have HG2:=Lib.hid hG2;obtain ⟨nd,hnd⟩:∃nd,nd=(jK es Prod.snd (x:Nat) es.length).length:=⟨_,rfl⟩;have hndl:nd≤1000:=by have:=qd es Prod.snd (x:Nat) es.length;omega
  rw [←hnd] at HR1 ⊢;clear hnd hb2 ho2 hH2 hG2 z2 y0;go_wp2_with fail;refine (aP g Ai ci r (x:Nat) w2 z0 (jr.of_own HI2.out) hr).mono ?_;rintro e w3 ⟨rfl,hb3⟩;have HG3:=Lib.hid (HG2.out.below hb3 HG2.out.lt);have HI3:=Lib.hid (jT HI2.out hb3 (Nat.le_refl _));have HB3:=Lib.hid (HB2.out.trans (hb3.mono HB2.out.size));have hsf:=kX (x:Nat) r r.length;have z0:=HG3.out.cell 0;simp only [List.getElem?_toArray,List.getElem?_cons_zero] at z0;clear hb3;generalize qx (x:Nat) r r.length=S at *;obtain ⟨S1,S2,S3⟩:=S;simp only at hsf HR1 ⊢;by_cases he:S3=(nd:Int)
  ·rw [decide_eq_true he,Bool.true_and] at HR1;have he':(S3==(nd:Int))=true:=by simp [he]
   by_cases h0:nd=0
   ·have h0':((nd:Int)==0)=true:=by simp [h0]
    rw [decide_eq_true h0,Bool.true_or] at HR1;clear he h0 hsf;go_wp2_with fail;go_ret;exact ⟨jx HR1.out.symm,HB3.out⟩
   ·have h0':((nd:Int)==0)=false:=by simp [h0]
    rw [decide_eq_false h0,Bool.false_or] at HR1;rcases hsf with ⟨h1,_⟩ | ⟨f,t,rfl,rfl,h3,h4,_⟩
    ·omega
    ·rw [Int.toNat_natCast,Int.toNat_natCast] at HR1;obtain ⟨gi,cap,R,e1,_,_,_,hcap,_,_⟩:=xO HI3.out (by omega);injection e1 with e1 _ e2;subst e1 e2;have HBR:=Lib.hid (gH g _ _ r (x:Nat) f t w3 z0 (jr.of_own HI3.out) hr (by omega) h4 hcap (by omega));clear he h0 hcap;go_wp2_with fail;refine HBR.out.mono ?_;rintro e w4 ⟨rfl,hb4⟩;have HB4:=Lib.hid (HB3.out.trans (hb4.mono HB3.out.size));rw [←HR1.out];clear hb4;go_wp2_with fail;go_ret;exact ⟨rfl,HB4.out⟩
  ·rw [decide_eq_false he,Bool.false_and] at HR1;have he':(S3==(nd:Int))=false:=by simp [he]
   clear he hsf;go_wp2_with fail;go_ret;exact ⟨jx HR1.out.symm,HB3.out⟩
end Go.Proofs.YtneeknlhlkpnpaaGreat
namespace Go.Proofs.YtneeknlhlkpnpaaGreat
open Go.RowKit
def yj(es:List (Int×Int))(x:Nat)(outs:List Int):List Itm:=
 if outs.length=0 then [(-1,(x:Int),-1)] else outs.map fun i=>(i,(x:Int),(es.getD i.toNat (0,0)).2)
theorem kh{es:List (Int×Int)}{x:Nat}{outs:List Int}:(yj es x outs).length≤outs.length+1:=by
 unfold yj
 split
 ·simp
 ·simp
set_option maxRecDepth 20000 in
set_option maxHeartbeats 2000000 in
theorem iS(w0 w:World)(g gv n:Nat)(es:List (Int×Int))(r:List Itm)(pl:List Int)(x:Nat)(X:Option Addr)(cx:Nat)(outs:List Int)(h:FrontW w0 w g gv n es r pl)(hX:jr w w.heap.size X (jf outs))(hol:outs.length≤1000)(hl:es.length≤1000)(ho:∀i∈outs,0≤i∧i<(es.length:Int)) :
  Calls Tryz.prog 47 #[.pointer (some ⟨g,0,none⟩),.int .i64 (x:Nat),.slice X outs.length cx] w (fun e w'=>∃v,e = .returned v∧Below w.heap.size w w'∧w'.ownsRow w.heap.size 81 3 v (yj es x outs).length (ju (yj es x outs))):=by
 have HX:=Lib.hid hX;have HO:=Lib.hid ho;obtain ⟨vi,vp,hb,_,_⟩:=h.st;have HG:=Lib.hid hb;have hgl:=hb.lt;obtain ⟨_,_,_,_,_,_,hv1,hve,_⟩:=h.view;have HV:=Lib.hid hv1;have HVE:=Lib.hid hve;have hvl:=hv1.lt;clear h hX ho hb hv1 hve;by_cases h0:outs.length=0
 ·have h0':((outs.length:Int)==0)=true:=by rw [h0];rfl
  have HR:=Lib.hid (show yj es x outs=[(-1,(x:Int),-1)] by unfold yj;rw [if_pos h0])
  have HW:=Lib.hid (show (w.alloc (.cells #[.int .i64 (-1),.int .i64 (x:Nat),.int .i64 (-1)] 81)).ownsRow w.heap.size 81 3 (.slice (some ⟨w.heap.size,0,none⟩) 1 1) 1 (ju [(-1,(x:Int),-1)]) from
   vl (R:=#[]) (Nat.le_refl _) (by simpa [ju] using Blk.new w 81 #[.int .i64 (-1),.int .i64 (x:Nat),.int .i64 (-1)]) (by simp [ju]) (Nat.le_refl _) (by unfold maxLen;omega) (by simp [ju]))
  clear h0
  go_enter Tryz.func47,Tryz.ntmps47
  go_wp2_with fail;go_ret;exact ⟨_,rfl,(Below.refl _ _).alloc (Nat.le_refl _) _,by rw [HR.out];exact HW.out⟩
 ·have h0':((outs.length:Int)==0)=false:=by rw [beq_eq_false_iff_ne];omega
  have HR:=Lib.hid (show yj es x outs=outs.map (fun i=>(i,(x:Int),(es.getD i.toNat (0,0)).2)) by unfold yj;rw [if_neg h0]);rw [HR.out];obtain ⟨F,hF⟩:∃F:Int→Itm,F=fun i=>(i,(x:Int),(es.getD i.toNat (0,0)).2):=⟨_,rfl⟩;have HF:=Lib.hid hF;rw [←hF];clear hF h0 HR
  go_enter Tryz.func47,Tryz.ntmps47
  go_wp2_with fail
  go_loopg [6,17] outs.length (fun k s6 s17 wr=>∃(i:Nat) (A:Option Addr) (c:Nat),s17 = .int .i64 i∧i≤outs.length∧k=outs.length-i∧s6 = .slice A i c∧Below w.heap.size w wr∧wr.ownsRow w.heap.size 81 3 (.slice A i c) i (ju ((outs.map F).take i)))
  case atStart=>exact ⟨0,none,0,rfl,Nat.zero_le _,rfl,rfl,Below.refl _ _,World.ownsRow_nil _ _ _ _⟩
  case round=>
   obtain ⟨i,A,c,rfl,hi,hk,rfl,hbw,how⟩:=hrel;have Hk:=Lib.hid hk;have HW:=Lib.hid how;have HB:=Lib.hid hbw;by_cases hlt:i<outs.length
   ·have hlt':(i:Int)<outs.length:=by omega
    obtain ⟨b,off,rfl,hbb,hc⟩:=HX.out.ints (by omega);have c0:=(hbw.cell (p:=⟨b,off+i,none⟩) hbb).trans (hc i hlt);obtain ⟨j,hj⟩:∃j:Nat,outs[i]=j:=⟨outs[i].toNat,by have:=HO.out outs[i] (List.getElem_mem hlt);omega⟩;have hjl:j<es.length:=by have:=HO.out outs[i] (List.getElem_mem hlt);omega
    have hjl':(j:Int)<es.length:=by omega
    obtain ⟨be,oe,rfl,hbe,hce⟩:=HVE.out.edges (by omega);obtain ⟨_,d1⟩:=hce j hjl;have d1:=(hbw.cell (p:=⟨be,oe+j*2+1,none⟩) hbe).trans d1;have hG2:=HG.out.below hbw hgl;have hV2:=HV.out.below hbw hvl;have z1:=hG2.cell 1;have y1:=hV2.cell 1;simp only [List.getElem?_toArray,List.getElem?_cons_zero,List.getElem?_cons_succ] at z1 y1
    have HS:=Lib.hid (show (outs.map F).take (i+1)=(outs.map F).take i++[((j:Int),(x:Int),es[j].2)] by
     rw [List.take_succ_eq_append_getElem (by simpa using hlt),List.getElem_map,hj,HF.out]
     simp [hjl])
    have HIL:=Lib.hid (show i+1≤1000 by omega);rw [hj] at c0;generalize es[j].2=hd at *;have hsz:=hbw.size;clear hc hce hG2 hV2 hj how hbw hk;go_wp2_with (at_builtin;refine yC zB rfl _ _ rfl w.heap.size (.slice A i c) i _ ?hx wr.heap.size [.int .i64 (j:Nat),.int .i64 (x:Nat),.int .i64 hd] ?hy rfl HW.out rfl rfl ?m2 ?m3 ?m4 ?_)
    case hx=>simp only [Act.eval];simp
    case hy=>simp only [Act.eval];simp
    case m2=>omega
    case m3=>omega
    case m4=>omega
    intro v4 w4 ho4 hg4 _;have hb4:=qb HB.out HW.out hg4 hsz (Nat.le_refl _);obtain ⟨A4,c4,rfl⟩:=jv ho4;have HO4:=Lib.hid ho4;clear ho4 hg4;go_wp2_with fail
    go_roundg (outs.length-(i+1))
    case measure=>rw [Hk.out];omega
    case rel=>exact ⟨i+1,A4,c4,by go_num,by omega,rfl,rfl,hb4,by rw [HS.out,yh];exact HO4.out⟩
   ·have hlt':¬(i:Int)<outs.length:=by omega
    have hie:i=outs.length:=by omega
    have HE:=Lib.hid (show (outs.map F).take i=outs.map F by rw [hie,←List.length_map F,List.take_length]);have HN:=Lib.hid hie;clear hie how hbw hk;go_wp2_with fail;go_ret;refine ⟨.slice A i c,rfl,HB.out,?_⟩;have:=HW.out;rw [HE.out] at this;rw [←HN.out];exact this
end Go.Proofs.YtneeknlhlkpnpaaGreat
namespace Go.Proofs.YtneeknlhlkpnpaaGreat
open Go.RowKit
theorem dZ{w:World}{q:Nat}{t:TypeId}{A1 A2 A3:Option Addr}{n1 n2 n3 c1 c2 c3:Nat}{l1 l2 l3:List Itm}(hq:Blk w q t #[.slice A1 n1 c1,.slice A2 n2 c2,.slice A3 n3 c3])(h1:jr w w.heap.size A1 (ju l1))(e1:l1.length=n1)(h2:jr w w.heap.size A2 (ju l2))(e2:l2.length=n2)(h3:jr w w.heap.size A3 (ju l3))(e3:l3.length=n3):yO w w.heap.size (some ⟨q,0,none⟩) [l1,l2,l3]:=fun _=>by
 subst e1 e2 e3;refine ⟨q,0,rfl,hq.lt,fun i hi=>?_⟩;rcases i with _ | _ | _ | i
 ·exact ⟨A1,c1,by simpa using hq.cell 0,h1⟩
 ·exact ⟨A2,c2,by simpa using hq.cell 1,h2⟩
 ·exact ⟨A3,c3,by simpa using hq.cell 2,h3⟩
 ·simp at hi;omega
def R5.BFact.own{Ss:List (List Nat)}(base:Nat)(t:TypeId)(size n:Nat)(xs:List Value)(hS:∀c,∀k∈Ss.getD c [],k<base):R5.BFact Ss:=⟨[],fun v w=>w.ownsRow base t size v n xs,fun c _ _ _ _ hb h=>yF h hb (hS c)⟩
def R5.BFact.frontRow{Ss:List (List Nat)}(g base:Nat)(pv vp:Value)(n:Nat)(xs:List Value)(hS:∀c,∀k∈Ss.getD c [],k<base)(h1:∀c,c≠1→g∉Ss.getD c []):R5.BFact Ss:=
 ⟨[1],fun _ w=>∃v,Blk w g 89 #[v,pv,vp]∧w.ownsRow base 81 3 v n xs,fun c hc _ _ _ hb ⟨v,h2,h3⟩=>⟨v,hb.blk h2 (h1 c fun e=>by subst e;simp at hc),yF h3 hb (hS c)⟩⟩
def xI(r:List Itm)(f t:Nat)(ab:List Itm):List Itm:=r.take f++ab++r.drop t
set_option maxRecDepth 20000 in
set_option maxHeartbeats 8000000 in
theorem lB(w:World)(g:Nat)(pv vp:Value)(A X:Option Addr)(c m cx f t:Nat)(r ab:List Itm)(hG:Blk w g 89 #[.slice A r.length c,pv,vp])(hr:jr w w.heap.size A (ju r))(hab:jr w w.heap.size X (ju ab))(hm:ab.length=m)(hc:r.length≤c)(hft:f≤t)(htr:t≤r.length)(hl:r.length≤50000)(hml:m≤1000)(hA:A=none∧c=0 ∨ ∃b off,A=some ⟨b,off,none⟩) :
  Calls Tryz.prog 46 #[.pointer (some ⟨g,0,none⟩),.int .i64 f,.int .i64 t,.slice X m cx] w (fun e w'=>∃v,e = .returned v∧But [g] w w'∧w'.ownsRow w.heap.size 81 3 v ((r.take t).drop f).length (ju ((r.take t).drop f)) ∧ ∃v',Blk w' g 89 #[v',pv,vp]∧w'.ownsRow w.heap.size 81 3 v' (xI r f t ab).length (ju (xI r f t ab))):=by
 have HR:=Lib.hid hr;have HAB:=Lib.hid hab;have HG:=Lib.hid hG;have hgl:=hG.lt;have z0:=hG.cell 0;simp only [List.getElem?_toArray,List.getElem?_cons_zero] at z0;have hfc:(f:Int)≤c:=by omega
 have htc:(t:Int)≤r.length:=by omega
 have HNL:=Lib.hid (show ((r.take t).drop f).length=t-f by rw [List.length_drop,List.length_take];omega)
 have HCT:=Lib.hid (fun (Y:Option Addr) (cp:Nat) (h:jr w w.heap.size Y (ju ((r.take t).drop f)))=>(by
  have:=VZ Y cp ((r.take t).drop f) w h (by rw [HNL.out];omega);rw [HNL.out] at this
  exact this:Calls Tryz.prog 102 #[.slice Y (t-f) cp] w (fun e w'=>∃v,e = .returned v∧Below w.heap.size w w'∧w'.ownsRow w.heap.size 81 3 v (t-f) (ju ((r.take t).drop f)))))
 rw [HNL.out];obtain ⟨NL,hNL⟩:∃n,n=(xI r f t ab).length:=⟨_,rfl⟩;obtain ⟨CL,hCL⟩:∃n,n=ju (xI r f t ab):=⟨_,rfl⟩;rw [←hNL,←hCL]
 have HCC:=Lib.hid (fun (W:World) (C:Option Addr) (h:yO W W.heap.size C [r.take f,ab,r.drop t])=>(by
  have:=WZ C 3 [r.take f,ab,r.drop t] W h (by simp) (by simp;omega);have e:[r.take f,ab,r.drop t].flatten=xI r f t ab:=by simp [xI]
  rw [e,←hNL,←hCL] at this
  exact this:Calls Tryz.prog 103 #[.slice C 3 3] W fun e w'=>∃v,e = .returned v∧Below W.heap.size W w'∧w'.ownsRow W.heap.size 81 3 v NL CL))
 obtain ⟨D,hD⟩:∃D,D=ju ((r.take t).drop f):=⟨_,rfl⟩;have HD:=Lib.hid hD;rw [←hD];clear hr hab hG hNL hCL hD;rcases hA with ⟨rfl,hc0⟩ | ⟨b,off,rfl⟩
 ·have HC0:=Lib.hid hc0;clear hc0
  go_enter Tryz.func46,Tryz.ntmps46
  go_wp2_with fail;refine (HCT.out _ _ (fun hn=>absurd hn (by rw [jV,HNL.out];have:=HC0.out;omega))).mono ?_;rintro e w2 ⟨v2,rfl,hb2,ho2⟩;have HB2:=Lib.hid hb2;have HO2:=Lib.hid ho2;have HG2:=Lib.hid (HG.out.below hb2 hgl);clear hb2 ho2
  have HIR:=Lib.hid (fun (wv:World) (q:Nat) (hbv:Below w2.heap.size w2 wv) (hq:Blk wv q 41 #[.slice none f c,.slice X m cx,.slice none (r.length-t) (c-t)])=>(by
   have hz:=hbv.size;have hR2:=((HR.out.below HB2.out).more HB2.out.size).below hbv |>.more hz;have hA2:=((HAB.out.below HB2.out).more HB2.out.size).below hbv |>.more hz
   exact dZ hq (fun hn=>absurd hn (by rw [jV,List.length_take];have:=HC0.out;omega)) (by simp;omega) hA2 hm (fun hn=>absurd hn (by rw [jV,List.length_drop];have:=HC0.out;omega)) (by simp):yO wv wv.heap.size (some ⟨q,0,none⟩) [r.take f,ab,r.drop t]))
  have hgS:∀c,∀k∈([[],[g]]:List (List Nat)).getD c [],k<w2.heap.size:=fun c k hk=>by
   have hg2:=HG2.out.lt;rcases c with _ | _ | c
   ·cases hk
   ·have:k=g:=by simpa using hk
    omega
   ·cases hk
  have hg1:∀c,c≠1→g∉([[],[g]]:List (List Nat)).getD c []:=fun c hc1 hk=>by
   rcases c with _ | _ | c
   ·cases hk
   ·exact hc1 rfl
   ·cases hk
  go_upto_region 2 with fail
  refine R5.wp_region_b [[],[g]] [0,0,0,0,0,0,0,0,0,0,0,0,0,0,0,0,0,0,1]
   [([],.val (.pointer (some ⟨g,0,none⟩))),([],.val (.pointer (some ⟨g,0,none⟩))),([1],.val (.pointer (some ⟨g,0,none⟩))),([2],.val (.pointer (some ⟨g,0,none⟩))),([3],.val (.slice none r.length c)),([],.val (.int .i64 f)),([4,5],.val (.slice none f c)),([],.val (.slice X m cx)),([],.val (.pointer (some ⟨g,0,none⟩))),([8],.val (.pointer (some ⟨g,0,none⟩))),([9],.val (.pointer (some ⟨g,0,none⟩))),([10],.val (.slice none r.length c)),([],.val (.int .i64 t)),([11,12],.val (.slice none (r.length-t) (c-t))),([6,7,13],.row 41 #[.slice none f c,.slice X m cx,.slice none (r.length-t) (c-t)] 3 3),([14],.own w2.heap.size 81 3 NL CL hgS),([0],.val (.pointer (some ⟨g,0,none⟩))),([16],.val (.pointer (some ⟨g,0,none⟩))),([17,15],.frontRow g w2.heap.size pv vp NL CL hgS hg1)] [18] (by kernel_rfl) (by kernel_rfl) (fun us=>?_) ?_
  ·refine R5.pgo_pure _ rfl rfl (fun wv hw hu=>⟨.pointer (some ⟨g,0,none⟩),?_,rfl⟩) ?_
   ·have tok:=True.intro;clear hw hu;go_simp
   refine R5.pgo_pure _ rfl rfl (fun wv hw hu=>⟨.pointer (some ⟨g,0,none⟩),?_,rfl⟩) ?_
   ·have tok:=True.intro;clear hw hu;go_simp
   refine R5.pgo_pure _ rfl rfl (fun wv hw hu=>⟨.pointer (some ⟨g,0,none⟩),?_,rfl⟩) ?_
   ·have tok:=True.intro;have h1:us 1 = .pointer (some ⟨g,0,none⟩):=hu.1;clear hw hu;go_simp
   refine R5.pgo_pure _ rfl rfl (fun wv hw hu=>⟨.pointer (some ⟨g,0,none⟩),?_,rfl⟩) ?_
   ·have tok:=True.intro;have h2:us 2 = .pointer (some ⟨g,0,none⟩):=hu.1;clear hw hu;go_simp
   refine R5.pgo_pure _ rfl rfl (fun wv hw hu=>⟨.slice none r.length c,?_,rfl⟩) ?_
   ·have tok:=True.intro;have h3:us 3 = .pointer (some ⟨g,0,none⟩):=hu.1;have zy0:wv.cell? ⟨g,0,none⟩=some (.slice none r.length c):=(((R5.BW.in_ hw [] rfl (by kernel_rfl):But [] w2.drew wv)).blk HG2.out.drew (by simp)).cell 0;clear hw hu;go_simp
   refine R5.pgo_pure _ rfl rfl (fun wv hw hu=>⟨.int .i64 f,?_,rfl⟩) ?_
   ·have tok:=True.intro;clear hw hu;go_simp
   refine R5.pgo_pure _ rfl rfl (fun wv hw hu=>⟨.slice none f c,?_,rfl⟩) ?_
   ·have tok:=True.intro;have h4:us 4 = .slice none r.length c:=hu.1;have h5:us 5 = .int .i64 f:=hu.2.1;clear hw hu;go_simp
   refine R5.pgo_pure _ rfl rfl (fun wv hw hu=>⟨.slice X m cx,?_,rfl⟩) ?_
   ·have tok:=True.intro;clear hw hu;go_simp
   refine R5.pgo_pure _ rfl rfl (fun wv hw hu=>⟨.pointer (some ⟨g,0,none⟩),?_,rfl⟩) ?_
   ·have tok:=True.intro;clear hw hu;go_simp
   refine R5.pgo_pure _ rfl rfl (fun wv hw hu=>⟨.pointer (some ⟨g,0,none⟩),?_,rfl⟩) ?_
   ·have tok:=True.intro;have h8:us 8 = .pointer (some ⟨g,0,none⟩):=hu.1;clear hw hu;go_simp
   refine R5.pgo_pure _ rfl rfl (fun wv hw hu=>⟨.pointer (some ⟨g,0,none⟩),?_,rfl⟩) ?_
   ·have tok:=True.intro;have h9:us 9 = .pointer (some ⟨g,0,none⟩):=hu.1;clear hw hu;go_simp
   refine R5.pgo_pure _ rfl rfl (fun wv hw hu=>⟨.slice none r.length c,?_,rfl⟩) ?_
   ·have tok:=True.intro;have h10:us 10 = .pointer (some ⟨g,0,none⟩):=hu.1;have zy0:wv.cell? ⟨g,0,none⟩=some (.slice none r.length c):=(((R5.BW.in_ hw [] rfl (by kernel_rfl):But [] w2.drew wv)).blk HG2.out.drew (by simp)).cell 0;clear hw hu;go_simp
   refine R5.pgo_pure _ rfl rfl (fun wv hw hu=>⟨.int .i64 t,?_,rfl⟩) ?_
   ·have tok:=True.intro;clear hw hu;go_simp
   refine R5.pgo_pure _ rfl rfl (fun wv hw hu=>⟨.slice none (r.length-t) (c-t),?_,rfl⟩) ?_
   ·have tok:=True.intro;have h11:us 11 = .slice none r.length c:=hu.1;have h12:us 12 = .int .i64 t:=hu.2.1;clear hw hu;go_simp
   refine R3.pgo_val _ rfl rfl (fun wv hw hu=>?_) ?_
   ·have tok:=True.intro;have h6:us 6 = .slice none f c:=hu.1;have h7:us 7 = .slice X m cx:=hu.2.1;have h13:us 13 = .slice none (r.length-t) (c-t):=hu.2.2.1;refine ⟨.slice (some ⟨wv.heap.size,0,none⟩) 3 3,wv.alloc (.cells #[.slice none f c,.slice X m cx,.slice none (r.length-t) (c-t)] 41),?_,But.of_below _ ((Below.refl _ _).alloc (Nat.le_refl _) _) (Nat.le_refl _),wv.heap.size,rfl,?_,Blk.new _ _ _⟩
    ·clear hw hu;go_simp
    ·have hz:=(R5.BW.in_ hw [] rfl (by kernel_rfl):But [] w2.drew wv).undrew.size;have hgl:=HG2.out.lt;simp;omega
   refine R3.pgo_op _ rfl rfl (fun K wv hw hu hK=>?_) ?_
   ·have tok:=True.intro;obtain ⟨q,h14,_,hq⟩:=hu.1;have hbv:=(R5.BW.in_ hw [] rfl (by kernel_rfl):But [] w2.drew wv).undrew.below (Nat.le_refl _) (by simp);have hir:yO wv wv.heap.size (some ⟨q,0,none⟩) [r.take f,ab,r.drop t]:=HIR.out wv q hbv hq;refine yI (f:=103) (args:=#[.slice (some ⟨q,0,none⟩) 3 3]) ?_ ((HCC.out wv (some ⟨q,0,none⟩) hir).mono ?_)
    ·clear hK hw hu hbv hir hq;go_simp
    rintro e z ⟨v,rfl,hzb,hzo⟩;exact ⟨v,rfl,hK _ _ (But.of_below _ hzb (Nat.le_refl _)) (qh hzo hbv.size)⟩
   refine R5.pgo_pure _ rfl rfl (fun wv hw hu=>⟨.pointer (some ⟨g,0,none⟩),?_,rfl⟩) ?_
   ·have tok:=True.intro;have h0:us 0 = .pointer (some ⟨g,0,none⟩):=hu.1;clear hw hu;go_simp
   refine R5.pgo_pure _ rfl rfl (fun wv hw hu=>⟨.pointer (some ⟨g,0,none⟩),?_,rfl⟩) ?_
   ·have tok:=True.intro;have h16:us 16 = .pointer (some ⟨g,0,none⟩):=hu.1;clear hw hu;go_simp
   refine R3.pgo_skip _ rfl rfl (fun wv hw hu=>?_) ?_
   ·have tok:=True.intro;have h17:us 17 = .pointer (some ⟨g,0,none⟩):=hu.1;have h15:wv.ownsRow w2.heap.size 81 3 (us 15) NL CL:=hu.2.1;obtain ⟨A15,c15,e15⟩:=jv h15;have hbv:=(R5.BW.in_ hw [] rfl (by kernel_rfl):But [] w2.drew wv).blk HG2.out.drew (by simp);have fy:=hbv.frozen 0;have zy:wv.cell? ⟨g,0,none⟩=some (.slice none r.length c):=hbv.cell 0;refine ⟨wv.setCell ⟨g,0,none⟩ (.slice A15 NL c15),?_,But.set_ wv (by simp) 0 _,.slice A15 NL c15,?_,?_⟩
    ·clear hw hu h15 hbv;go_simp
    ·have:=hbv.set_ 0 (.slice A15 NL c15);simpa using this
    ·rw [e15] at h15;exact yF h15 (But.set_ (S:=[g]) wv (by simp) 0 _) (fun k hk=>by have:=HG2.out.lt;simp only [List.mem_singleton] at hk;omega)
   trivial
  ·intro us w3 hw hu;obtain ⟨v',hv1,hv2⟩:∃v,Blk w3 g 89 #[v,pv,vp]∧w3.ownsRow w2.heap.size 81 3 v NL CL:=hu.1
   have hbt:But [g] w2 w3:=(But.mono hw (fun k hk=>by
    have:R3.allC 19 [0,0,0,0,0,0,0,0,0,0,0,0,0,0,0,0,0,0,1]=[0,0,0,0,0,0,0,0,0,0,0,0,0,0,0,0,0,0,1]:=by decide
    simpa [this,R3.allC,List.range_succ] using hk)).undrew
   have HGO:=Lib.hid (yF HO2.out hbt (fun k hk=>by have:=hgl;simp only [List.mem_singleton] at hk;omega));rw [←HD.out] at HGO;have HFV:=Lib.hid (And.intro hv1 (qh hv2 HB2.out.size));have HBT:=Lib.hid ((But.of_below [g] HB2.out (Nat.le_refl _)).trans hbt);clear hw hu hv1 hv2 hbt;simp only [kx];go_simp;go_wp2_with fail;go_ret;exact ⟨_,rfl,HBT.out,HGO.out,v',HFV.out.1,HFV.out.2⟩
 ·go_enter Tryz.func46,Tryz.ntmps46
  go_wp2_with fail
  ·refine (HCT.out _ _ (fun hn=>absurd hn (by rw [jV,HNL.out];omega))).mono ?_;rintro e w2 ⟨v2,rfl,hb2,ho2⟩;have HB2:=Lib.hid hb2;have HO2:=Lib.hid ho2;have HG2:=Lib.hid (HG.out.below hb2 hgl);clear hb2 ho2
   have HIR:=Lib.hid (fun (wv:World) (q:Nat) (hbv:Below w2.heap.size w2 wv) (hq:Blk wv q 41 #[.slice (some ⟨b,off,none⟩) f c,.slice X m cx,.slice (if c=t then some ⟨b,off,none⟩ else some ⟨b,off+t*3,none⟩) (r.length-t) (c-t)])=>(by
    have hz:=hbv.size;have hR2:=((HR.out.below HB2.out).more HB2.out.size).below hbv |>.more hz;have hA2:=((HAB.out.below HB2.out).more HB2.out.size).below hbv |>.more hz
    exact dZ hq (hR2.itemsTake f) (by simp;omega) hA2 hm (by split;exact (fun hn=>absurd hn (by rw [jV,List.length_drop];omega));exact hR2.itemsDrop t) (by simp):yO wv wv.heap.size (some ⟨q,0,none⟩) [r.take f,ab,r.drop t]))
   have hgS:∀c,∀k∈([[],[g]]:List (List Nat)).getD c [],k<w2.heap.size:=fun c k hk=>by
    have hg2:=HG2.out.lt;rcases c with _ | _ | c
    ·cases hk
    ·have:k=g:=by simpa using hk
     omega
    ·cases hk
   have hg1:∀c,c≠1→g∉([[],[g]]:List (List Nat)).getD c []:=fun c hc1 hk=>by
    rcases c with _ | _ | c
    ·cases hk
    ·exact hc1 rfl
    ·cases hk
   go_upto_region 2 with fail
   refine R5.wp_region_b [[],[g]] [0,0,0,0,0,0,0,0,0,0,0,0,0,0,0,0,0,0,1]
    [([],.val (.pointer (some ⟨g,0,none⟩))),([],.val (.pointer (some ⟨g,0,none⟩))),([1],.val (.pointer (some ⟨g,0,none⟩))),([2],.val (.pointer (some ⟨g,0,none⟩))),([3],.val (.slice (some ⟨b,off,none⟩) r.length c)),([],.val (.int .i64 f)),([4,5],.val (.slice (some ⟨b,off,none⟩) f c)),([],.val (.slice X m cx)),([],.val (.pointer (some ⟨g,0,none⟩))),([8],.val (.pointer (some ⟨g,0,none⟩))),([9],.val (.pointer (some ⟨g,0,none⟩))),([10],.val (.slice (some ⟨b,off,none⟩) r.length c)),([],.val (.int .i64 t)),([11,12],.val (.slice (if c=t then some ⟨b,off,none⟩ else some ⟨b,off+t*3,none⟩) (r.length-t) (c-t))),([6,7,13],.row 41 #[.slice (some ⟨b,off,none⟩) f c,.slice X m cx,.slice (if c=t then some ⟨b,off,none⟩ else some ⟨b,off+t*3,none⟩) (r.length-t) (c-t)] 3 3),([14],.own w2.heap.size 81 3 NL CL hgS),([0],.val (.pointer (some ⟨g,0,none⟩))),([16],.val (.pointer (some ⟨g,0,none⟩))),([17,15],.frontRow g w2.heap.size pv vp NL CL hgS hg1)] [18] (by kernel_rfl) (by kernel_rfl) (fun us=>?_) ?_
   ·refine R5.pgo_pure _ rfl rfl (fun wv hw hu=>⟨.pointer (some ⟨g,0,none⟩),?_,rfl⟩) ?_
    ·have tok:=True.intro;clear hw hu;go_simp
    refine R5.pgo_pure _ rfl rfl (fun wv hw hu=>⟨.pointer (some ⟨g,0,none⟩),?_,rfl⟩) ?_
    ·have tok:=True.intro;clear hw hu;go_simp
    refine R5.pgo_pure _ rfl rfl (fun wv hw hu=>⟨.pointer (some ⟨g,0,none⟩),?_,rfl⟩) ?_
    ·have tok:=True.intro;have h1:us 1 = .pointer (some ⟨g,0,none⟩):=hu.1;clear hw hu;go_simp
    refine R5.pgo_pure _ rfl rfl (fun wv hw hu=>⟨.pointer (some ⟨g,0,none⟩),?_,rfl⟩) ?_
    ·have tok:=True.intro;have h2:us 2 = .pointer (some ⟨g,0,none⟩):=hu.1;clear hw hu;go_simp
    refine R5.pgo_pure _ rfl rfl (fun wv hw hu=>⟨.slice (some ⟨b,off,none⟩) r.length c,?_,rfl⟩) ?_
    ·have tok:=True.intro;have h3:us 3 = .pointer (some ⟨g,0,none⟩):=hu.1;have zy0:wv.cell? ⟨g,0,none⟩=some (.slice (some ⟨b,off,none⟩) r.length c):=(((R5.BW.in_ hw [] rfl (by kernel_rfl):But [] w2.drew wv)).blk HG2.out.drew (by simp)).cell 0;clear hw hu;go_simp
    refine R5.pgo_pure _ rfl rfl (fun wv hw hu=>⟨.int .i64 f,?_,rfl⟩) ?_
    ·have tok:=True.intro;clear hw hu;go_simp
    refine R5.pgo_pure _ rfl rfl (fun wv hw hu=>⟨.slice (some ⟨b,off,none⟩) f c,?_,rfl⟩) ?_
    ·have tok:=True.intro;have h4:us 4 = .slice (some ⟨b,off,none⟩) r.length c:=hu.1;have h5:us 5 = .int .i64 f:=hu.2.1;clear hw hu;go_simp
    refine R5.pgo_pure _ rfl rfl (fun wv hw hu=>⟨.slice X m cx,?_,rfl⟩) ?_
    ·have tok:=True.intro;clear hw hu;go_simp
    refine R5.pgo_pure _ rfl rfl (fun wv hw hu=>⟨.pointer (some ⟨g,0,none⟩),?_,rfl⟩) ?_
    ·have tok:=True.intro;clear hw hu;go_simp
    refine R5.pgo_pure _ rfl rfl (fun wv hw hu=>⟨.pointer (some ⟨g,0,none⟩),?_,rfl⟩) ?_
    ·have tok:=True.intro;have h8:us 8 = .pointer (some ⟨g,0,none⟩):=hu.1;clear hw hu;go_simp
    refine R5.pgo_pure _ rfl rfl (fun wv hw hu=>⟨.pointer (some ⟨g,0,none⟩),?_,rfl⟩) ?_
    ·have tok:=True.intro;have h9:us 9 = .pointer (some ⟨g,0,none⟩):=hu.1;clear hw hu;go_simp
    refine R5.pgo_pure _ rfl rfl (fun wv hw hu=>⟨.slice (some ⟨b,off,none⟩) r.length c,?_,rfl⟩) ?_
    ·have tok:=True.intro;have h10:us 10 = .pointer (some ⟨g,0,none⟩):=hu.1;have zy0:wv.cell? ⟨g,0,none⟩=some (.slice (some ⟨b,off,none⟩) r.length c):=(((R5.BW.in_ hw [] rfl (by kernel_rfl):But [] w2.drew wv)).blk HG2.out.drew (by simp)).cell 0;clear hw hu;go_simp
    refine R5.pgo_pure _ rfl rfl (fun wv hw hu=>⟨.int .i64 t,?_,rfl⟩) ?_
    ·have tok:=True.intro;clear hw hu;go_simp
    refine R5.pgo_pure _ rfl rfl (fun wv hw hu=>⟨.slice (if c=t then some ⟨b,off,none⟩ else some ⟨b,off+t*3,none⟩) (r.length-t) (c-t),?_,rfl⟩) ?_
    ·have tok:=True.intro;have h11:us 11 = .slice (some ⟨b,off,none⟩) r.length c:=hu.1;have h12:us 12 = .int .i64 t:=hu.2.1;clear hw hu;go_simp
    refine R3.pgo_val _ rfl rfl (fun wv hw hu=>?_) ?_
    ·have tok:=True.intro;have h6:us 6 = .slice (some ⟨b,off,none⟩) f c:=hu.1;have h7:us 7 = .slice X m cx:=hu.2.1;have h13:us 13 = .slice (if c=t then some ⟨b,off,none⟩ else some ⟨b,off+t*3,none⟩) (r.length-t) (c-t):=hu.2.2.1;refine ⟨.slice (some ⟨wv.heap.size,0,none⟩) 3 3,wv.alloc (.cells #[.slice (some ⟨b,off,none⟩) f c,.slice X m cx,.slice (if c=t then some ⟨b,off,none⟩ else some ⟨b,off+t*3,none⟩) (r.length-t) (c-t)] 41),?_,But.of_below _ ((Below.refl _ _).alloc (Nat.le_refl _) _) (Nat.le_refl _),wv.heap.size,rfl,?_,Blk.new _ _ _⟩
     ·clear hw hu;go_simp
     ·have hz:=(R5.BW.in_ hw [] rfl (by kernel_rfl):But [] w2.drew wv).undrew.size;have hgl:=HG2.out.lt;simp;omega
    refine R3.pgo_op _ rfl rfl (fun K wv hw hu hK=>?_) ?_
    ·have tok:=True.intro;obtain ⟨q,h14,_,hq⟩:=hu.1;have hbv:=(R5.BW.in_ hw [] rfl (by kernel_rfl):But [] w2.drew wv).undrew.below (Nat.le_refl _) (by simp);have hir:yO wv wv.heap.size (some ⟨q,0,none⟩) [r.take f,ab,r.drop t]:=HIR.out wv q hbv hq;refine yI (f:=103) (args:=#[.slice (some ⟨q,0,none⟩) 3 3]) ?_ ((HCC.out wv (some ⟨q,0,none⟩) hir).mono ?_)
     ·clear hK hw hu hbv hir hq;go_simp
     rintro e z ⟨v,rfl,hzb,hzo⟩;exact ⟨v,rfl,hK _ _ (But.of_below _ hzb (Nat.le_refl _)) (qh hzo hbv.size)⟩
    refine R5.pgo_pure _ rfl rfl (fun wv hw hu=>⟨.pointer (some ⟨g,0,none⟩),?_,rfl⟩) ?_
    ·have tok:=True.intro;have h0:us 0 = .pointer (some ⟨g,0,none⟩):=hu.1;clear hw hu;go_simp
    refine R5.pgo_pure _ rfl rfl (fun wv hw hu=>⟨.pointer (some ⟨g,0,none⟩),?_,rfl⟩) ?_
    ·have tok:=True.intro;have h16:us 16 = .pointer (some ⟨g,0,none⟩):=hu.1;clear hw hu;go_simp
    refine R3.pgo_skip _ rfl rfl (fun wv hw hu=>?_) ?_
    ·have tok:=True.intro;have h17:us 17 = .pointer (some ⟨g,0,none⟩):=hu.1;have h15:wv.ownsRow w2.heap.size 81 3 (us 15) NL CL:=hu.2.1;obtain ⟨A15,c15,e15⟩:=jv h15;have hbv:=(R5.BW.in_ hw [] rfl (by kernel_rfl):But [] w2.drew wv).blk HG2.out.drew (by simp);have fy:=hbv.frozen 0;have zy:wv.cell? ⟨g,0,none⟩=some (.slice (some ⟨b,off,none⟩) r.length c):=hbv.cell 0;refine ⟨wv.setCell ⟨g,0,none⟩ (.slice A15 NL c15),?_,But.set_ wv (by simp) 0 _,.slice A15 NL c15,?_,?_⟩
     ·clear hw hu h15 hbv;go_simp
     ·have:=hbv.set_ 0 (.slice A15 NL c15);simpa using this
     ·rw [e15] at h15;exact yF h15 (But.set_ (S:=[g]) wv (by simp) 0 _) (fun k hk=>by have:=HG2.out.lt;simp only [List.mem_singleton] at hk;omega)
    trivial
   ·intro us w3 hw hu;obtain ⟨v',hv1,hv2⟩:∃v,Blk w3 g 89 #[v,pv,vp]∧w3.ownsRow w2.heap.size 81 3 v NL CL:=hu.1
    have hbt:But [g] w2 w3:=(But.mono hw (fun k hk=>by
     have:R3.allC 19 [0,0,0,0,0,0,0,0,0,0,0,0,0,0,0,0,0,0,1]=[0,0,0,0,0,0,0,0,0,0,0,0,0,0,0,0,0,0,1]:=by decide
     simpa [this,R3.allC,List.range_succ] using hk)).undrew
    have HGO:=Lib.hid (yF HO2.out hbt (fun k hk=>by have:=hgl;simp only [List.mem_singleton] at hk;omega));rw [←HD.out] at HGO;have HFV:=Lib.hid (And.intro hv1 (qh hv2 HB2.out.size));have HBT:=Lib.hid ((But.of_below [g] HB2.out (Nat.le_refl _)).trans hbt);clear hw hu hv1 hv2 hbt;simp only [kx];go_simp;go_wp2_with fail;go_ret;exact ⟨_,rfl,HBT.out,HGO.out,v',HFV.out.1,HFV.out.2⟩
  ·refine (HCT.out _ _ ((HR.out.itemsTake t).itemsDrop f)).mono ?_;rintro e w2 ⟨v2,rfl,hb2,ho2⟩;have HB2:=Lib.hid hb2;have HO2:=Lib.hid ho2;have HG2:=Lib.hid (HG.out.below hb2 hgl);clear hb2 ho2
   have HIR:=Lib.hid (fun (wv:World) (q:Nat) (hbv:Below w2.heap.size w2 wv) (hq:Blk wv q 41 #[.slice (some ⟨b,off,none⟩) f c,.slice X m cx,.slice (if c=t then some ⟨b,off,none⟩ else some ⟨b,off+t*3,none⟩) (r.length-t) (c-t)])=>(by
    have hz:=hbv.size;have hR2:=((HR.out.below HB2.out).more HB2.out.size).below hbv |>.more hz;have hA2:=((HAB.out.below HB2.out).more HB2.out.size).below hbv |>.more hz
    exact dZ hq (hR2.itemsTake f) (by simp;omega) hA2 hm (by split;exact (fun hn=>absurd hn (by rw [jV,List.length_drop];omega));exact hR2.itemsDrop t) (by simp):yO wv wv.heap.size (some ⟨q,0,none⟩) [r.take f,ab,r.drop t]))
   have hgS:∀c,∀k∈([[],[g]]:List (List Nat)).getD c [],k<w2.heap.size:=fun c k hk=>by
    have hg2:=HG2.out.lt;rcases c with _ | _ | c
    ·cases hk
    ·have:k=g:=by simpa using hk
     omega
    ·cases hk
   have hg1:∀c,c≠1→g∉([[],[g]]:List (List Nat)).getD c []:=fun c hc1 hk=>by
    rcases c with _ | _ | c
    ·cases hk
    ·exact hc1 rfl
    ·cases hk
   go_upto_region 2 with fail
   refine R5.wp_region_b [[],[g]] [0,0,0,0,0,0,0,0,0,0,0,0,0,0,0,0,0,0,1]
    [([],.val (.pointer (some ⟨g,0,none⟩))),([],.val (.pointer (some ⟨g,0,none⟩))),([1],.val (.pointer (some ⟨g,0,none⟩))),([2],.val (.pointer (some ⟨g,0,none⟩))),([3],.val (.slice (some ⟨b,off,none⟩) r.length c)),([],.val (.int .i64 f)),([4,5],.val (.slice (some ⟨b,off,none⟩) f c)),([],.val (.slice X m cx)),([],.val (.pointer (some ⟨g,0,none⟩))),([8],.val (.pointer (some ⟨g,0,none⟩))),([9],.val (.pointer (some ⟨g,0,none⟩))),([10],.val (.slice (some ⟨b,off,none⟩) r.length c)),([],.val (.int .i64 t)),([11,12],.val (.slice (if c=t then some ⟨b,off,none⟩ else some ⟨b,off+t*3,none⟩) (r.length-t) (c-t))),([6,7,13],.row 41 #[.slice (some ⟨b,off,none⟩) f c,.slice X m cx,.slice (if c=t then some ⟨b,off,none⟩ else some ⟨b,off+t*3,none⟩) (r.length-t) (c-t)] 3 3),([14],.own w2.heap.size 81 3 NL CL hgS),([0],.val (.pointer (some ⟨g,0,none⟩))),([16],.val (.pointer (some ⟨g,0,none⟩))),([17,15],.frontRow g w2.heap.size pv vp NL CL hgS hg1)] [18] (by kernel_rfl) (by kernel_rfl) (fun us=>?_) ?_
   ·refine R5.pgo_pure _ rfl rfl (fun wv hw hu=>⟨.pointer (some ⟨g,0,none⟩),?_,rfl⟩) ?_
    ·have tok:=True.intro;clear hw hu;go_simp
    refine R5.pgo_pure _ rfl rfl (fun wv hw hu=>⟨.pointer (some ⟨g,0,none⟩),?_,rfl⟩) ?_
    ·have tok:=True.intro;clear hw hu;go_simp
    refine R5.pgo_pure _ rfl rfl (fun wv hw hu=>⟨.pointer (some ⟨g,0,none⟩),?_,rfl⟩) ?_
    ·have tok:=True.intro;have h1:us 1 = .pointer (some ⟨g,0,none⟩):=hu.1;clear hw hu;go_simp
    refine R5.pgo_pure _ rfl rfl (fun wv hw hu=>⟨.pointer (some ⟨g,0,none⟩),?_,rfl⟩) ?_
    ·have tok:=True.intro;have h2:us 2 = .pointer (some ⟨g,0,none⟩):=hu.1;clear hw hu;go_simp
    refine R5.pgo_pure _ rfl rfl (fun wv hw hu=>⟨.slice (some ⟨b,off,none⟩) r.length c,?_,rfl⟩) ?_
    ·have tok:=True.intro;have h3:us 3 = .pointer (some ⟨g,0,none⟩):=hu.1;have zy0:wv.cell? ⟨g,0,none⟩=some (.slice (some ⟨b,off,none⟩) r.length c):=(((R5.BW.in_ hw [] rfl (by kernel_rfl):But [] w2.drew wv)).blk HG2.out.drew (by simp)).cell 0;clear hw hu;go_simp
    refine R5.pgo_pure _ rfl rfl (fun wv hw hu=>⟨.int .i64 f,?_,rfl⟩) ?_
    ·have tok:=True.intro;clear hw hu;go_simp
    refine R5.pgo_pure _ rfl rfl (fun wv hw hu=>⟨.slice (some ⟨b,off,none⟩) f c,?_,rfl⟩) ?_
    ·have tok:=True.intro;have h4:us 4 = .slice (some ⟨b,off,none⟩) r.length c:=hu.1;have h5:us 5 = .int .i64 f:=hu.2.1;clear hw hu;go_simp
    refine R5.pgo_pure _ rfl rfl (fun wv hw hu=>⟨.slice X m cx,?_,rfl⟩) ?_
    ·have tok:=True.intro;clear hw hu;go_simp
    refine R5.pgo_pure _ rfl rfl (fun wv hw hu=>⟨.pointer (some ⟨g,0,none⟩),?_,rfl⟩) ?_
    ·have tok:=True.intro;clear hw hu;go_simp
    refine R5.pgo_pure _ rfl rfl (fun wv hw hu=>⟨.pointer (some ⟨g,0,none⟩),?_,rfl⟩) ?_
    ·have tok:=True.intro;have h8:us 8 = .pointer (some ⟨g,0,none⟩):=hu.1;clear hw hu;go_simp
    refine R5.pgo_pure _ rfl rfl (fun wv hw hu=>⟨.pointer (some ⟨g,0,none⟩),?_,rfl⟩) ?_
    ·have tok:=True.intro;have h9:us 9 = .pointer (some ⟨g,0,none⟩):=hu.1;clear hw hu;go_simp
    refine R5.pgo_pure _ rfl rfl (fun wv hw hu=>⟨.slice (some ⟨b,off,none⟩) r.length c,?_,rfl⟩) ?_
    ·have tok:=True.intro;have h10:us 10 = .pointer (some ⟨g,0,none⟩):=hu.1;have zy0:wv.cell? ⟨g,0,none⟩=some (.slice (some ⟨b,off,none⟩) r.length c):=(((R5.BW.in_ hw [] rfl (by kernel_rfl):But [] w2.drew wv)).blk HG2.out.drew (by simp)).cell 0;clear hw hu;go_simp
    refine R5.pgo_pure _ rfl rfl (fun wv hw hu=>⟨.int .i64 t,?_,rfl⟩) ?_
    ·have tok:=True.intro;clear hw hu;go_simp
    refine R5.pgo_pure _ rfl rfl (fun wv hw hu=>⟨.slice (if c=t then some ⟨b,off,none⟩ else some ⟨b,off+t*3,none⟩) (r.length-t) (c-t),?_,rfl⟩) ?_
    ·have tok:=True.intro;have h11:us 11 = .slice (some ⟨b,off,none⟩) r.length c:=hu.1;have h12:us 12 = .int .i64 t:=hu.2.1;clear hw hu;go_simp
    refine R3.pgo_val _ rfl rfl (fun wv hw hu=>?_) ?_
    ·have tok:=True.intro;have h6:us 6 = .slice (some ⟨b,off,none⟩) f c:=hu.1;have h7:us 7 = .slice X m cx:=hu.2.1;have h13:us 13 = .slice (if c=t then some ⟨b,off,none⟩ else some ⟨b,off+t*3,none⟩) (r.length-t) (c-t):=hu.2.2.1;refine ⟨.slice (some ⟨wv.heap.size,0,none⟩) 3 3,wv.alloc (.cells #[.slice (some ⟨b,off,none⟩) f c,.slice X m cx,.slice (if c=t then some ⟨b,off,none⟩ else some ⟨b,off+t*3,none⟩) (r.length-t) (c-t)] 41),?_,But.of_below _ ((Below.refl _ _).alloc (Nat.le_refl _) _) (Nat.le_refl _),wv.heap.size,rfl,?_,Blk.new _ _ _⟩
     ·clear hw hu;go_simp
     ·have hz:=(R5.BW.in_ hw [] rfl (by kernel_rfl):But [] w2.drew wv).undrew.size;have hgl:=HG2.out.lt;simp;omega
    refine R3.pgo_op _ rfl rfl (fun K wv hw hu hK=>?_) ?_
    ·have tok:=True.intro;obtain ⟨q,h14,_,hq⟩:=hu.1;have hbv:=(R5.BW.in_ hw [] rfl (by kernel_rfl):But [] w2.drew wv).undrew.below (Nat.le_refl _) (by simp);have hir:yO wv wv.heap.size (some ⟨q,0,none⟩) [r.take f,ab,r.drop t]:=HIR.out wv q hbv hq;refine yI (f:=103) (args:=#[.slice (some ⟨q,0,none⟩) 3 3]) ?_ ((HCC.out wv (some ⟨q,0,none⟩) hir).mono ?_)
     ·clear hK hw hu hbv hir hq;go_simp
     rintro e z ⟨v,rfl,hzb,hzo⟩;exact ⟨v,rfl,hK _ _ (But.of_below _ hzb (Nat.le_refl _)) (qh hzo hbv.size)⟩
    refine R5.pgo_pure _ rfl rfl (fun wv hw hu=>⟨.pointer (some ⟨g,0,none⟩),?_,rfl⟩) ?_
    ·have tok:=True.intro;have h0:us 0 = .pointer (some ⟨g,0,none⟩):=hu.1;clear hw hu;go_simp
    refine R5.pgo_pure _ rfl rfl (fun wv hw hu=>⟨.pointer (some ⟨g,0,none⟩),?_,rfl⟩) ?_
    ·have tok:=True.intro;have h16:us 16 = .pointer (some ⟨g,0,none⟩):=hu.1;clear hw hu;go_simp
    refine R3.pgo_skip _ rfl rfl (fun wv hw hu=>?_) ?_
    ·have tok:=True.intro;have h17:us 17 = .pointer (some ⟨g,0,none⟩):=hu.1;have h15:wv.ownsRow w2.heap.size 81 3 (us 15) NL CL:=hu.2.1;obtain ⟨A15,c15,e15⟩:=jv h15;have hbv:=(R5.BW.in_ hw [] rfl (by kernel_rfl):But [] w2.drew wv).blk HG2.out.drew (by simp);have fy:=hbv.frozen 0;have zy:wv.cell? ⟨g,0,none⟩=some (.slice (some ⟨b,off,none⟩) r.length c):=hbv.cell 0;refine ⟨wv.setCell ⟨g,0,none⟩ (.slice A15 NL c15),?_,But.set_ wv (by simp) 0 _,.slice A15 NL c15,?_,?_⟩
     ·clear hw hu h15 hbv;go_simp
     ·have:=hbv.set_ 0 (.slice A15 NL c15);simpa using this
     ·rw [e15] at h15;exact yF h15 (But.set_ (S:=[g]) wv (by simp) 0 _) (fun k hk=>by have:=HG2.out.lt;simp only [List.mem_singleton] at hk;omega)
    trivial
   ·intro us w3 hw hu;obtain ⟨v',hv1,hv2⟩:∃v,Blk w3 g 89 #[v,pv,vp]∧w3.ownsRow w2.heap.size 81 3 v NL CL:=hu.1
    have hbt:But [g] w2 w3:=(But.mono hw (fun k hk=>by
     have:R3.allC 19 [0,0,0,0,0,0,0,0,0,0,0,0,0,0,0,0,0,0,1]=[0,0,0,0,0,0,0,0,0,0,0,0,0,0,0,0,0,0,1]:=by decide
     simpa [this,R3.allC,List.range_succ] using hk)).undrew
    have HGO:=Lib.hid (yF HO2.out hbt (fun k hk=>by have:=hgl;simp only [List.mem_singleton] at hk;omega));rw [←HD.out] at HGO;have HFV:=Lib.hid (And.intro hv1 (qh hv2 HB2.out.size));have HBT:=Lib.hid ((But.of_below [g] HB2.out (Nat.le_refl _)).trans hbt);clear hw hu hv1 hv2 hbt;simp only [kx];go_simp;go_wp2_with fail;go_ret;exact ⟨_,rfl,HBT.out,HGO.out,v',HFV.out.1,HFV.out.2⟩
end Go.Proofs.YtneeknlhlkpnpaaGreat
namespace Go.Proofs.YtneeknlhlkpnpaaGreat
open Go.RowKit
set_option maxHeartbeats 400000 in
theorem VD(A B:Option Addr)(c d:Nat)(a b:List Int)(w:World)(N:Nat)(ha:jr w N A (jf a))(hb:jr w N B (jf b))(hla:a.length≤100000)(hlb:b.length≤100000) :
  Calls Tryz.prog 41 #[.slice A a.length c,.slice B b.length d] w (KU (decide (a=b)) w):=by
 by_cases hl:a.length=b.length
 ·have H1:((a.length:Int) != (b.length:Int))=false:=by rw [xd];simp [hl]
  have HL:=Lib.hid hl;have hl1:a.length≤b.length:=by omega
  clear hl
  go_enter Tryz.func41,Tryz.ntmps41
  go_wp2
  go_loopg [13] a.length (fun k s13 wr=>∃i m:Nat,s13 = .int .i64 i∧i≤a.length∧k=a.length-i∧wr=w.drewN m∧a.take i=b.take i)
  case atStart=>exact ⟨0,0,rfl,Nat.zero_le _,rfl,rfl,by simp⟩
  case round=>
   obtain ⟨i,m,rfl,hi,hk,rfl,ht⟩:=hrel;have Hk:=Lib.hid hk;clear hk;have Ht:=Lib.hid ht;clear ht;by_cases hlt:i<a.length
   ·obtain ⟨b1,o1,rfl,_,hc1⟩:=ha.ints (by omega);obtain ⟨b2,o2,rfl,_,hc2⟩:=hb.ints (by omega);have c1:=hc1 i hlt;have c2:=hc2 i (by omega);have h2:(i:Int)<b.length:=by omega
    have h1:(i:Int)<a.length:=by omega
    clear hc1 hc2 ha hb;have T1:=Lib.hid (UF hlt (show i<b.length by omega) Ht.out);have T2:=Lib.hid (show a=b→a[i]=b[i]'(by omega) by intro h;subst h;rfl);generalize a[i]=x at *;generalize b[i]'(by omega)=y at *;go_wp2_with fail;by_cases hxy:x=y
    ·have hd:(x != y)=false:=by simp [hxy]
     have Hxy:=Lib.hid hxy;clear hxy
     go_quiet (fail)
     go_wp2_with fail
     go_roundg (a.length-(i+1))
     case measure=>rw [Hk.out];omega
     case rel=>exact ⟨i+1,_,by go_num,by omega,rfl,rfl,T1.out.2 Hxy.out⟩
    ·have hd:(x != y)=true:=by simp [hxy]
     have Hxy:=Lib.hid hxy;clear hxy
     go_quiet (fail)
     go_wp2_with fail;go_ret;exact ⟨jx (by rw [eq_comm,decide_eq_false_iff_not];exact fun h=>Hxy.out (T2.out h)),_,World.drewN_drewN _ _ _⟩
   ·go_wp2_with fail;go_ret;refine ⟨jx ?_,_,rfl⟩;have e:=Ht.out;rw [List.take_of_length_le (by omega),List.take_of_length_le (by have:=HL.out;omega)] at e;simp [e]
 ·have H1:((a.length:Int) != (b.length:Int))=true:=by rw [xd];simp [hl]
  have HL:=Lib.hid hl;clear hl
  go_enter Tryz.func41,Tryz.ntmps41
  go_wp2
  go_ret;exact ⟨jx (by rw [eq_comm,decide_eq_false_iff_not];intro h;exact HL.out (by rw [h])),0,rfl⟩
end Go.Proofs.YtneeknlhlkpnpaaGreat
namespace Go.Proofs.YtneeknlhlkpnpaaGreat
open Go.RowKit
theorem ng{P:Program}{ops:Array Oper}{E:Nat→World→World→Prop}{W:List Nat→World→World→Prop}{b:Array Nat}{cls:List Nat}{Fs:List PSpec}{w0:World}{us:Nat→Value}{o:Oper}{rest:List Oper}{i:Nat}{a:Act}(s:PSpec)(j d:Nat)(want:Bool)
  (hg:o.guard=some (j,want)) (hd:(ops[j]?).bind (·.dst)=some d) (hs:Fs[i]? = some s) (hsz:d<a.tmps.size) (he:∀w,vA Fs us w s.uses→a.eval (.tmp d) = .bool want)
  (h:∀(K:Act→World→Prop) (w:World),W (R3.ahead ops.size cls b i) w0 w→vA Fs us w s.uses→(∀v w',E (cls.getD i 0) w w'→s.F us v w'→K (a.put o.dst v) w')→o.wp P a w K (fun _ _ _=>False))
  (hr:R3.PGo P ops E W b cls Fs w0 us rest (i+1) (a.put o.dst (us i))):R3.PGo P ops E W b cls Fs w0 us (o::rest) i a:=by
 refine ⟨?_,hr⟩;unfold R3.PStep;rw [hs];intro w hw hu
 have hy:yielded ops a.tmps j=some want:=by
  have h1:a.tmps.getD d undef = .bool want:=he w hu
  have h2:a.tmps[d]? = some (.bool want):=by
   rw [Array.getElem?_eq_getElem hsz];rw [Array.getD_eq_getD_getElem?,Array.getElem?_eq_getElem hsz] at h1;exact congrArg some h1
  unfold yielded;rw [hd];simp only [Option.bind_some,h2]
 rw [if_pos (by unfold Region.wanted;rw [hg];simp only [hy,BEq.rfl])];exact h _ w hw hu fun v w' hE hF=>⟨v,rfl,hE,hF⟩
theorem Vm{P:Program}{ops:Array Oper}{E:Nat→World→World→Prop}{W:List Nat→World→World→Prop}{b:Array Nat}{cls:List Nat}{Fs:List PSpec}{w0:World}{us:Nat→Value}{o:Oper}{rest:List Oper}{i:Nat}{a:Act}(s:PSpec)(j d:Nat)(want:Bool)
  (hg:o.guard=some (j,want)) (hd:(ops[j]?).bind (·.dst)=some d) (hs:Fs[i]? = some s) (hsz:d<a.tmps.size) (he:∀w,vA Fs us w s.uses→a.eval (.tmp d) = .bool want)
  (h:∀(w:World),W (R3.ahead ops.size cls b i) w0 w→vA Fs us w s.uses → ∃v w',(execOp a.eval o).run P w = .ok (.value v) w'∧E (cls.getD i 0) w w'∧s.F us v w')
  (hr:R3.PGo P ops E W b cls Fs w0 us rest (i+1) (a.put o.dst (us i))):R3.PGo P ops E W b cls Fs w0 us (o::rest) i a:=
 ng s j d want hg hd hs hsz he (fun _ w hw hu hK=>by
  obtain ⟨v,w',h1,h2,h3⟩:=h w hw hu
  exact xu h1 (hK v w' h2 h3)) hr
theorem Ke{P:Program}{ops:Array Oper}{E:Nat→World→World→Prop}{W:List Nat→World→World→Prop}{b:Array Nat}{cls:List Nat}{Fs:List PSpec}{w0:World}{us:Nat→Value}{o:Oper}{rest:List Oper}{i:Nat}{a:Act}(s:PSpec)(j d:Nat)(want:Bool)
  (hg:o.guard=some (j,want)) (hd:(ops[j]?).bind (·.dst)=some d) (hs:Fs[i]? = some s) (hsz:d<a.tmps.size) (he:∀w,vA Fs us w s.uses→a.eval (.tmp d) = .bool want) (f:FuncId) (args:Array Value)
  (h:∀(w:World),W (R3.ahead ops.size cls b i) w0 w→vA Fs us w s.uses→(execOp a.eval o).run P w = .ok (.enter f args) w∧Calls P f args w fun e w''=>∃v,e = .returned v∧E (cls.getD i 0) w w''∧s.F us v w'')
  (hr:R3.PGo P ops E W b cls Fs w0 us rest (i+1) (a.put o.dst (us i))):R3.PGo P ops E W b cls Fs w0 us (o::rest) i a:=
 ng s j d want hg hd hs hsz he (fun _ w hw hu hK=>by
  obtain ⟨h1,h2⟩:=h w hw hu
  exact yI h1 (h2.mono fun e w'' ⟨v,he,hE,hF⟩=>⟨v,he,hK v w'' hE hF⟩)) hr
end Go.Proofs.YtneeknlhlkpnpaaGreat
