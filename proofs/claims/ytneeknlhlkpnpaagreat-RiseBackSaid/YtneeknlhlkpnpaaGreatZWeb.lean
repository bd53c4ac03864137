import Derived.Test.YtneeknlhlkpnpaaGreatZAng0
import Derived.Test.YtneeknlhlkpnpaaGreatZFit2
import Derived.Laws.IdiomCopy
import Derived.Lib.SliceRun
import Derived.Test.YtneeknlhlkpnpaaGreatZChks
import Derived.Test.YtneeknlhlkpnpaaGreatZOrdm
import Derived.Laws.OwnMore
import Derived.Maps.OwnOps
import Derived.Maps.OwnSet
import Derived.Maps.Views
import Derived.Shelf.Sort.Plain
import Derived.Shelf.Slices.CompactI
import Derived.Shelf.Slices.In.SortNone
import Derived.Test.YtneeknlhlkpnpaaGreatZMem
import Derived.Test.YtneeknlhlkpnpaaGreatZVw
import Derived.Test.YtneeknlhlkpnpaaGreatZFits
import Derived.Test.YtneeknlhlkpnpaaGreatZAng1
/-
 Leaders: finding with halved ways, and joining (plain law). Written by an AI agent.
-/
namespace Go.Proofs.YtneeknlhlkpnpaaGreat
open Go.RowKit
section
variable {l:List Int}
end
end Go.Proofs.YtneeknlhlkpnpaaGreat
namespace Go.Proofs.YtneeknlhlkpnpaaGreat
open Go.RowKit
end Go.Proofs.YtneeknlhlkpnpaaGreat
namespace Go.Proofs.YtneeknlhlkpnpaaGreat
open Go.RowKit
end Go.Proofs.YtneeknlhlkpnpaaGreat
namespace Go.Proofs.YtneeknlhlkpnpaaGreat
open Go.RowKit
abbrev rN:=Nat×Nat×Nat×Nat
end Go.Proofs.YtneeknlhlkpnpaaGreat
namespace Go.Proofs.YtneeknlhlkpnpaaGreat
open Go.RowKit
section
variable {L:Nat}{ro:Nat→Nat}{a b:Nat}
end
section
variable {F N:Nat}{H:List rN}
def ru(ro:Nat→Nat)(F:Nat):List Nat:=(List.range F).filter fun f=>decide (ro f=f)
end
end Go.Proofs.YtneeknlhlkpnpaaGreat
namespace Go.Proofs.YtneeknlhlkpnpaaGreat
open Go.RowKit
noncomputable def Zb(n:Int)(es:List (Int×Int))(rs:List (List Int)):Bool:=xz n es&&(yn n es rs&&decide (gen n es rs=0))
end Go.Proofs.YtneeknlhlkpnpaaGreat
namespace Go.Proofs.YtneeknlhlkpnpaaGreat
open Go.RowKit
theorem Jh{N:Nat}{es:List (Int×Int)}(h:GoodP N es):∃s,s<N ∧ ∀x,x<N→Q es es.length s x:=by
 have hin:=kq h.may;have ho:=h.ord;rw [Int.toNat_natCast] at ho;obtain ⟨L,hL⟩:=xt hin ho;have hs:=h.src;rw [Int.toNat_natCast] at hs
 have key:∀k x,x<N→L x=k → ∃s,s∈xg N es Prod.snd∧Q es es.length s x:=by
  intro k
  induction k using Nat.strongRecOn with
  | _ k ih=>
   intro x hx hk;by_cases hb:x∈xg N es Prod.snd
   ·exact ⟨x,hb,Star.refl _⟩
   ·rw [vL] at hb;have:∃i,i<es.length∧(es.getD i (0,0)).2=(x:Int):=Classical.byContradiction fun hno=>hb ⟨hx,fun i hi e=>hno ⟨i,hi,e⟩⟩;obtain ⟨i,hi,he⟩:=this;have hm:=uq hi;have hbd:=hin _ hm;have hr:=hL _ hm;obtain ⟨t,ht⟩:=Int.eq_ofNat_of_zero_le hbd.1;rw [he,ht,Int.toNat_natCast,Int.toNat_natCast] at hr;obtain ⟨s,hs1,hs2⟩:=ih (L t) (by omega) t (by omega) rfl;refine ⟨s,hs1,Star.trans hs2 (Star.one ⟨i,hi,by simpa using hi,.inl ?_⟩)⟩;have:es[i]=es.getD i (0,0):=by rw [List.getD_eq_getElem?_getD,List.getElem?_eq_getElem hi];rfl
    rw [this];exact Prod.ext ht he
 have h0:0<N:=by have:=(jP h.may).1;omega
 obtain ⟨s,hs1,_⟩:=key _ 0 h0 rfl;refine ⟨s,(vL.1 hs1).1,fun x hx=>?_⟩;obtain ⟨s',hs2,hq⟩:=key _ x hx rfl
 have:s'=s:=by
  obtain ⟨i,hi,ei⟩:=List.getElem_of_mem hs1;obtain ⟨j,hj,ej⟩:=List.getElem_of_mem hs2;have e1:i=j:=by omega
  subst e1;rw [←ei,←ej]
 rw [←this];exact hq
theorem ZH{n:Int}{es:List (Int×Int)}{rs:List (List Int)}(h:Zb n es rs=true):xy n es rs=true:=by
 unfold Zb at h;simp only [Bool.and_eq_true,decide_eq_true_eq] at h;obtain ⟨hg,hr,hz⟩:=h;have hG:GoodP n es:=jB.1 hg;have hP:=qZ.1 hr;have hn:n=(rs.length:Int):=hP.len.symm;rw [hn] at hG;obtain ⟨s,hs,hq⟩:=Jh hG;have h0:0<rs.length:=by omega
 unfold xy;simp only [Bool.and_eq_true,decide_eq_true_eq];have ho:=hG.ord;rw [Int.toNat_natCast] at ho;exact ⟨hr,hz,ho,Yi h0 fun x hx=>Star.trans (Q.symm (hq 0 h0)) (hq x hx)⟩
theorem iA{n:Int}{es:List (Int×Int)}{rs:List (List Int)}(h:Zb n es rs=true):GoodP n es:=by
 unfold Zb at h;simp only [Bool.and_eq_true] at h;exact jB.1 h.1
end Go.Proofs.YtneeknlhlkpnpaaGreat
namespace Go.Proofs.YtneeknlhlkpnpaaGreat
open Go.RowKit
end Go.Proofs.YtneeknlhlkpnpaaGreat
/-
 The parts in memory: two rows and a number each. Written by an AI agent.
-/
namespace Go.Proofs.YtneeknlhlkpnpaaGreat
open Go.RowKit
section
variable {m:Nat}{rv:Nat→Value}{an:Nat→Nat}
end
theorem yF{w w':World}{base size n:Nat}{e:TypeId}{v:Value}{xs:List Value}{S:List Nat}(h:w.ownsRow base e size v n xs)(hb:But S w w')(hS:∀g∈S,g<base):w'.ownsRow base e size v n xs:=by
 obtain ⟨h1,h2⟩:=h;refine ⟨h1,?_⟩;rcases h2 with h2 | ⟨g,cap,cur,hv,hg,hh,r⟩
 ·exact .inl h2
 ·refine .inr ⟨g,cap,cur,hv,hg,?_,r⟩;rw [hb.block g (by rcases Nat.lt_or_ge g w.heap.size with h | h;exact h;rw [Array.getElem?_eq_none h] at hh;cases hh) (fun hm=>by have:=hS g hm;omega)];exact hh
section
variable {w w':World}{B m:Nat}{v:Value}{rl:Nat→List Int}{an:Nat→Nat}{rv:Nat→Value}
end
section
variable {w w':World}{B m g cap:Nat}{v':Value}{rl:Nat→List Int}{an:Nat→Nat}{rv:Nat→Value}
end
end Go.Proofs.YtneeknlhlkpnpaaGreat
namespace Go.Proofs.YtneeknlhlkpnpaaGreat
open Go.RowKit Go.Maps
def pos(ro:Nat→Nat)(c:Nat):Nat:=(ru ro c).length
section
variable {ro:Nat→Nat}
end
section
variable {ro:Nat→Nat}
end
end Go.Proofs.YtneeknlhlkpnpaaGreat
/-
 slices.Sort and slices.Compact over numbers: the shelf's contracts at this program (their layings printed by the kit's lay-plain.mjs, turned by shelft.py), and what is drawn from them. Written by an AI agent.
-/
namespace Go.Proofs.YtneeknlhlkpnpaaGreat
open Go.RowKit Go.Shelf Go.Sort
def ap:Go.Shelf.Ren:=⟨fun | 189=>57 | 125=>112 | 257=>111 | 128=>151 | 129=>152 | 294=>142 | 295=>143 | 296=>144 | 297=>145 | 298=>146 | 299=>147 | 216=>148 | 300=>149 | 301=>150 | 328=>162 | 329=>163 | 330=>164 | 331=>165 | 332=>166 | 215=>167 | 343=>169 | n=>n,fun | 28=>25 | 3=>3 | 46=>163 | 0=>0 | 51=>196 | 53=>156 | 4=>4 | 183=>189 | 182=>188 | 131=>137 | 5=>5 | 9=>9 | 218=>201 | 222=>205 | 228=>209 | 229=>210 | n=>n,fun | n=>n⟩
theorem eQ:Go.Proofs.Lays.n189 Tryz.prog ap:={
 mixed:=by kernel_rfl
 f125:=Tryz.func112.trans (congrArg some (by kernel_rfl))
 f128:=Tryz.func151.trans (congrArg some (by kernel_rfl))
 f129:=Tryz.func152.trans (congrArg some (by kernel_rfl))
 f189:=Tryz.func57.trans (congrArg some (by kernel_rfl))
 f215:=Tryz.func167.trans (congrArg some (by kernel_rfl))
 f216:=Tryz.func148.trans (congrArg some (by kernel_rfl))
 f257:=Tryz.func111.trans (congrArg some (by kernel_rfl))
 f294:=Tryz.func142.trans (congrArg some (by kernel_rfl))
 f295:=Tryz.func143.trans (congrArg some (by kernel_rfl))
 f296:=Tryz.func144.trans (congrArg some (by kernel_rfl))
 f297:=Tryz.func145.trans (congrArg some (by kernel_rfl))
 f298:=Tryz.func146.trans (congrArg some (by kernel_rfl))
 f299:=Tryz.func147.trans (congrArg some (by kernel_rfl))
 f300:=Tryz.func149.trans (congrArg some (by kernel_rfl))
 f301:=Tryz.func150.trans (congrArg some (by kernel_rfl))
 f328:=Tryz.func162.trans (congrArg some (by kernel_rfl))
 f329:=Tryz.func163.trans (congrArg some (by kernel_rfl))
 f330:=Tryz.func164.trans (congrArg some (by kernel_rfl))
 f331:=Tryz.func165.trans (congrArg some (by kernel_rfl))
 f332:=Tryz.func166.trans (congrArg some (by kernel_rfl))
 f343:=Tryz.func169.trans (congrArg some (by kernel_rfl))
 t0:=Tryz.underlying0
 a0:=Tryz.isAgg0
 z0:=Tryz.sizeOf0
 v0:=Tryz.zeroValue0
 t3:=Tryz.underlying3
 a3:=Tryz.isAgg3
 z3:=Tryz.sizeOf3
 v3:=Tryz.zeroValue3
 t4:=Tryz.underlying4
 a4:=Tryz.isAgg4
 z4:=Tryz.sizeOf4
 v4:=Tryz.zeroValue4
 t5:=Tryz.underlying5
 a5:=Tryz.isAgg5
 z5:=Tryz.sizeOf5
 v5:=Tryz.zeroValue5
 t9:=Tryz.underlying9
 a9:=Tryz.isAgg9
 z9:=Tryz.sizeOf9
 v9:=Tryz.zeroValue9
 t28:=Tryz.underlying25
 a28:=Tryz.isAgg25
 z28:=Tryz.sizeOf25
 v28:=Tryz.zeroValue25
 t46:=Tryz.underlying163
 a46:=Tryz.isAgg163
 z46:=Tryz.sizeOf163
 v46:=Tryz.zeroValue163
 t51:=Tryz.underlying196
 a51:=Tryz.isAgg196
 z51:=Tryz.sizeOf196
 v51:=Tryz.zeroValue196
 t53:=Tryz.underlying156
 a53:=Tryz.isAgg156
 z53:=Tryz.sizeOf156
 v53:=Tryz.zeroValue156
 t131:=Tryz.underlying137
 a131:=Tryz.isAgg137
 z131:=Tryz.sizeOf137
 v131:=Tryz.zeroValue137
 t182:=Tryz.underlying188
 a182:=Tryz.isAgg188
 z182:=Tryz.sizeOf188
 v182:=Tryz.zeroValue188
 t183:=Tryz.underlying189
 a183:=Tryz.isAgg189
 z183:=Tryz.sizeOf189
 v183:=Tryz.zeroValue189
 t218:=Tryz.underlying201
 a218:=Tryz.isAgg201
 z218:=Tryz.sizeOf201
 v218:=Tryz.zeroValue201
 t222:=Tryz.underlying205
 a222:=Tryz.isAgg205
 z222:=Tryz.sizeOf205
 v222:=Tryz.zeroValue205
 t228:=Tryz.underlying209
 a228:=Tryz.isAgg209
 z228:=Tryz.sizeOf209
 v228:=Tryz.zeroValue209
 t229:=Tryz.underlying210
 a229:=Tryz.isAgg210
 z229:=Tryz.sizeOf210
 v229:=Tryz.zeroValue210 }
def leI(x y:Int):Bool:=decide (x≤y)
theorem iL{B:Nat}{w:World}{g q:Nat}{d:Array Int}{os:Array Obj}(hg:B≤g)(hB:B≤w.heap.size):Below B w (grow (putRow (Value.int .i64) (Sort.ahead w q) g 0 d) os):=
 ⟨rfl,rfl,rfl,by simp [putRow,mapBlock,Sort.ahead],fun k hk=>by
  rw [heap_grow_old _ _ (by simp [putRow,mapBlock,Sort.ahead];omega)]
  simp [putRow,mapBlock,Sort.ahead,Array.getElem?_modify,show g≠k by omega]⟩
theorem fT(B g cap:Nat)(l:List Int)(w:World)(hH:Holds (Value.int .i64) w g 0 l.toArray)(hg:g<w.heap.size)(hB:B≤g)(hl:l.length≤100000) :
  Calls Tryz.prog 57 #[.slice (some ⟨g,0,none⟩) l.length cap] w (fun e w'=>e = .returned (.tuple #[])∧Below B w w'∧Holds (Value.int .i64) w' g 0 (l.mergeSort leI).toArray∧g<w'.heap.size):=
 (Any.slices_Sort_int eQ g 0 cap l w hH hg (by omega)).mono fun e w' ⟨he,n,os,hw⟩=>by
  subst hw;exact ⟨he,iL hB (by omega),holds_grow _ _ os g 0 _ (by simpa [putRow,mapBlock,Sort.ahead] using hg) (holds_putRow _ _ g 0 _ _ (holds_ahead _ w n g 0 _ hH) (by simp [])),by simp [putRow,mapBlock,Sort.ahead];omega⟩
theorem cO(a:Option Addr)(cap:Nat)(w:World):Calls Tryz.prog 57 #[.slice a 0 cap] w (fun e w'=>e = .returned (.tuple #[])∧w=w'):=
 (Any.slices_Sort_int_none eQ a cap w).mono fun _e _w' ⟨he,hw⟩=>⟨he,hw.symm⟩
end Go.Proofs.YtneeknlhlkpnpaaGreat
namespace Go.Proofs.YtneeknlhlkpnpaaGreat
open Go.RowKit
def mZ(p:Int→Bool)(l:List Int)(B:Nat)(w:World)(e:Ending)(w':World):Prop:=
 ∃r:Int,e = .returned (.int .i64 r)∧Below B w w'∧(r = -1∧(∀i,i<l.length→p (l.getD i 0)=false) ∨ ∃k:Nat,r=k∧k<l.length∧p (l.getD k 0)=true ∧ ∀i,i<k→p (l.getD i 0)=false)
set_option maxHeartbeats 1000000 in
theorem mr(B:Nat)(A:Option Addr)(cap:Nat)(l:List Int)(fid:FuncId)(caps:Array Value)(p:Int→Bool)(w:World)(hlen:l.length≤1000)(hB:B=w.heap.size)(h:jr w B A (jf l))
  (hcf:∀(u:World) (args:Array Value),(callFunc fid args).run Tryz.prog u = .ok (.enter fid args) u)
  (hcl:∀(i:Nat) (hi:i<l.length) (w':World),Below B w w'→Calls Tryz.prog fid (#[.int .i64 l[i]]++caps) w' fun e w''=>e = .returned (.bool (p l[i]))∧Below w'.heap.size w' w'') :
  Calls Tryz.prog 108 #[.slice A l.length cap,.func (.func fid) #[] caps] w (mZ p l B w):=by
 have H:=Lib.hid h;have Hcl:=Lib.hid hcl;have HBE:=Lib.hid hB;clear h hcl hB
 go_enter Tryz.func108,Tryz.ntmps108
 go_wp2_with fail
 go_loopg [8] l.length (fun k s8 wr=>∃i:Nat,s8 = .int .i64 i∧i≤l.length∧k=l.length-i∧Below B w wr ∧ ∀j,j<i→p (l.getD j 0)=false)
 case atStart=>exact ⟨0,rfl,Nat.zero_le _,rfl,Below.refl _ _,fun j hj=>absurd hj (by omega)⟩
 case round=>
  obtain ⟨i,rfl,hi,hk,hbw,hf⟩:=hrel;have Hk:=Lib.hid hk;have Hf:=Lib.hid hf;have HB:=Lib.hid hbw;clear hk hf hbw;by_cases hlt:i<l.length
  ·have hlt':(i:Int)<l.length:=by omega
   obtain ⟨b,off,rfl,hb,hc⟩:=H.out.ints (by omega);have e0:=(HB.out.cell (p:=⟨b,off+i,none⟩) (by show b<B;exact hb)).trans (hc i hlt);have HV:=Lib.hid (show l.getD i 0=l[i] by rw [List.getD_eq_getElem?_getD,List.getElem?_eq_getElem hlt];rfl);have HC:=Lib.hid (Hcl.out i hlt wr HB.out);clear hc;obtain ⟨v,hv⟩:∃v,v=l[i]:=⟨_,rfl⟩;rw [←hv] at e0 HV HC;clear hv;go_wp2_with fail;refine HC.out.mono ?_;rintro e w' ⟨rfl,hb2⟩;have HB2:=Lib.hid (HB.out.trans (hb2.mono (by have:=HB.out.size;have:=HBE.out;omega)));clear hb2 e0 HC
   cases hp:p v with
   | true=>
    have HP:=Lib.hid (show p (l.getD i 0)=true by rw [HV.out];exact hp);clear hp;go_wp2_with fail;go_ret;exact ⟨_,rfl,HB2.out,.inr ⟨i,rfl,hlt,HP.out,Hf.out⟩⟩
   | false=>
    have HP:=Lib.hid (show p (l.getD i 0)=false by rw [HV.out];exact hp);clear hp;go_wp2_with fail
    go_roundg (l.length-(i+1))
    case measure=>rw [Hk.out];omega
    case rel=>exact ⟨i+1,by go_num,by omega,rfl,HB2.out,fun j hj=>by
     by_cases h:j=i
     ·rw [h];exact HP.out
     ·exact Hf.out j (by omega)⟩
  ·have hlt':¬(i:Int)<l.length:=by omega
   go_wp2_with fail;go_ret;exact ⟨_,rfl,HB.out,.inl ⟨rfl,fun j hj=>Hf.out j (by omega)⟩⟩
end Go.Proofs.YtneeknlhlkpnpaaGreat
namespace Go.Proofs.YtneeknlhlkpnpaaGreat
open Go.RowKit
section
variable {n:Int}{es:List (Int×Int)}{rs:List (List Int)}
end
end Go.Proofs.YtneeknlhlkpnpaaGreat
namespace Go.Proofs.YtneeknlhlkpnpaaGreat
open Go.RowKit
section
variable {tb:Nat→Bool}{ci:Nat→Nat}
end
end Go.Proofs.YtneeknlhlkpnpaaGreat
namespace Go.Proofs.YtneeknlhlkpnpaaGreat
open Go.RowKit
end Go.Proofs.YtneeknlhlkpnpaaGreat
namespace Go.Proofs.YtneeknlhlkpnpaaGreat
open Go.RowKit
end Go.Proofs.YtneeknlhlkpnpaaGreat
namespace Go.Proofs.YtneeknlhlkpnpaaGreat
open Go.RowKit
end Go.Proofs.YtneeknlhlkpnpaaGreat
/-
 A part of the web without inner vertices is a tree (plain law). Written by an AI agent.
-/
namespace Go.Proofs.YtneeknlhlkpnpaaGreat
open Go.RowKit
theorem dF{R:Nat→Nat→Prop}{v:Nat→Nat}{N:Nat}(h:∀x y,x<N→y<N→R x y→v x=v y):cls (fun x y=>v x=v y) N≤cls R N:=by
 unfold cls;refine aC fun z hz hp=>?_;rw [jB] at hp ⊢;exact fun k hk hr=>hp k hk (h k z (by omega) hz hr)
section
variable {s:Nat→Nat}
theorem vB{x y:Nat}(h:Orb s x y):∀k,ppR s k x y
 | 0=>h
 | k+1=>.inl (vB h k)
theorem Jn{m i:Nat}(hs:Perm (2*m) s):∀k,k≤m→i<k→ppR s k (2*i) (2*i+1)
 | 0,_,h=>absurd h (Nat.not_lt_zero _)
 | k+1,hk,h=>by
  have hE:=kS hs k (by omega);by_cases e:i=k
  ·subst e;exact .inr (.inl ⟨hE.refl _ (by omega),hE.refl _ (by omega)⟩)
  ·exact .inl (Jn hs k (by omega) (by omega))
end
section
variable {n:Int}{es:List (Int×Int)}{rs:List (List Int)}
theorem aQ(hR:RightP n es rs){h:Nat}(hh:h<2*es.length)(hne:¬vk es (vtx es h)):yE es rs h=2:=by
 obtain ⟨k1,k2⟩:=yl hR hh;refine (kb _ _).2 ⟨?_,?_⟩
 ·cases he:ev h with
  | false=>rfl
  | true=>exact absurd ⟨h,hh,rfl,he⟩ hne
 ·cases he:ev (sig es rs h) with
  | false=>rfl
  | true=>exact absurd ⟨sig es rs h,k1,k2,he⟩ hne
end
end Go.Proofs.YtneeknlhlkpnpaaGreat
/-
 Euler's inequality by labels (plain law). Written by an AI agent.
-/
namespace Go.Proofs.YtneeknlhlkpnpaaGreat
open Go.RowKit
theorem bW(v:Nat→Nat):∀N:Nat,∃M,∀x,x<N→v x<M
 | 0=>⟨0,fun x h=>absurd h (Nat.not_lt_zero _)⟩
 | N+1=>by
  obtain ⟨M,hM⟩:=bW v N;refine ⟨max M (v N+1),fun x hx=>?_⟩;by_cases e:x=N
  ·subst e;omega
  ·have:=hM x (by omega);omega
section
variable {R:Nat→Nat→Prop}{v:Nat→Nat}{N:Nat}
theorem xr(h:∀x y,x<N→y<N→R x y→v x=v y){V:List Nat}(hn:V.Nodup)(hV:∀a∈V,∃x,x<N∧v x=a):V.length≤cls R N:=by
 refine Nat.le_trans ?_ (dF h);obtain ⟨M,hM⟩:=bW v N;rw [XB N hM,List.countP_eq_length_filter];refine List.Nodup.length_le_of_subset hn fun a ha=>?_;obtain ⟨x,hx,e⟩:=hV a ha;exact List.mem_filter.2 ⟨List.mem_range.2 (by rw [←e];exact hM x hx),jB.2 ⟨x,hx,e⟩⟩
theorem Wu(hE:Equ N R)(h:∀x y,x<N→y<N→R x y→v x=v y){V:List Nat}(hn:V.Nodup)(hV:∀a∈V,∃x,x<N∧v x=a)(hle:cls R N≤V.length){x y:Nat}(hx:x<N)(hy:y<N)(e:v x=v y):R x y:=by
 apply Classical.byContradiction;intro hno;have h1:=QZ hE hx hy hno
 have h2:=xr (R:=xZ R x y) (v:=v) (N:=N) (fun a b ha hb hm=>by
  rcases hm with hm | ⟨h3,h4⟩ | ⟨h3,h4⟩
  ·exact h a b ha hb hm
  ·rw [h a x ha hx h3,e,h y b hy hb h4]
  ·rw [h a y ha hy h3,←e,h x b hx hb h4]) hn hV
 omega
theorem bT(hE:Equ N R)(reps:List Nat)(hr:∀x,x<N → ∃r∈reps,r<N∧R r x):cls R N≤reps.length:=by
 unfold cls;rw [List.countP_eq_length_filter]
 have hg:∃g:Nat→Nat,∀x,x<N→g x∈reps∧g x<N∧R (g x) x:=by
  refine ⟨fun x=>if h:x<N then Classical.choose (hr x h) else 0,fun x hx=>?_⟩;simp only [dif_pos hx];exact Classical.choose_spec (hr x hx)
 obtain ⟨g,hg⟩:=hg;rw [←List.length_map (f:=g)];refine List.Nodup.length_le_of_subset ?_ fun a ha=>?_
 ·rw [List.nodup_iff_pairwise_ne,List.pairwise_map];refine (List.nodup_iff_pairwise_ne.1 (List.nodup_range.filter _)).imp_of_mem fun {a b} ha hb hne e=>hne ?_;obtain ⟨ha1,ha2⟩:=List.mem_filter.1 ha;obtain ⟨hb1,hb2⟩:=List.mem_filter.1 hb;have ha1:=List.mem_range.1 ha1;have hb1:=List.mem_range.1 hb1;rw [jB] at ha2 hb2;obtain ⟨_,a2,a3⟩:=hg a ha1;obtain ⟨_,b2,b3⟩:=hg b hb1;rw [←e] at b2 b3;have hab:R a b:=hE.trans _ _ _ ha1 a2 hb1 (hE.symm _ _ a2 ha1 a3) b3;rcases Nat.lt_trichotomy a b with h | h | h
  ·exact absurd hab (hb2 a h)
  ·exact h
  ·exact absurd (hE.symm _ _ ha1 hb1 hab) (ha2 b h)
 ·obtain ⟨x,hx,rfl⟩:=List.mem_map.1 ha;exact (hg x (List.mem_range.1 (List.mem_filter.1 hx).1)).1
end
section
variable {m:Nat}{s v f:Nat→Nat}{V F:List Nat}
theorem vX{N:Nat}(hs:Perm N s)(hv:∀d,d<N→v (s d)=v d):∀x y,x<N→y<N→Orb s x y→v x=v y:=by
 intro x y hx _ ⟨i,hi⟩;subst hi
 have:∀(i x:Nat),x<N→v x=v (qQ s i x):=by
  intro i
  induction i with
  | zero=>intro x _;rfl
  | succ i ih=>intro x hx;rw [←hv x hx];exact ih _ (hs.lt x hx)
 exact this i x hx
theorem QE(_hs:Perm (2*m) s):∀d,d<2*m→ppk s m d=s (ot d):=fun d hd=>by rw [eH,if_pos hd]
theorem iE(hs:Perm (2*m) s)(hv:∀d,d<2*m→v (s d)=v d)(hf:∀d,d<2*m→f (s (ot d))=f d)(nV:V.Nodup)(nF:F.Nodup)(mV:∀a∈V,∃d,d<2*m∧v d=a)(mF:∀a∈F,∃d,d<2*m∧f d=a):V.length+F.length≤m+2*cls (ppR s m) (2*m):=by
 obtain ⟨g,hg⟩:=GI hs m (Nat.le_refl _);have h1:=xr (vX hs hv) nV mV;have h2:=xr (vX (xF hs m (Nat.le_refl _)) (v:=f) (fun d hd=>by rw [QE hs d hd];exact hf d hd)) nF mF;omega
theorem aB(hs:Perm (2*m) s)(hv:∀d,d<2*m→v (s d)=v d)(hf:∀d,d<2*m→f (s (ot d))=f d)(nV:V.Nodup)(nF:F.Nodup)(mV:∀a∈V,∃d,d<2*m∧v d=a)(mF:∀a∈F,∃d,d<2*m∧f d=a)(hle:m+2*cls (ppR s m) (2*m)≤V.length+F.length) :
  (∀d e,d<2*m→e<2*m→v d=v e→Orb s d e) ∧ ∀d e,d<2*m→e<2*m→f d=f e→Orb (ppk s m) d e:=by
 obtain ⟨g,hg⟩:=GI hs m (Nat.le_refl _);have hP:=xF hs m (Nat.le_refl _);have hf':∀d,d<2*m→f (ppk s m d)=f d:=fun d hd=>by rw [QE hs d hd];exact hf d hd
 have h1:=xr (vX hs hv) nV mV;have h2:=xr (vX hP hf') nF mF;exact ⟨fun d e hd he h=>Wu hs.equ (vX hs hv) nV mV (by omega) hd he h,fun d e hd he h=>Wu hP.equ (vX hP hf') nF mF (by omega) hd he h⟩
end
end Go.Proofs.YtneeknlhlkpnpaaGreat
