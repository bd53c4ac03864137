import Derived.Test.YtneeknlhlkpnpaaGreatZReach
import Derived.Deep.RegionHeld3
import Derived.Test.YtneeknlhlkpnpaaGreatZReg
namespace Go.Proofs.YtneeknlhlkpnpaaGreat
open Go.RowKit
def KU(p:Bool)(w:World)(e:Ending)(w':World):Prop:=e = .returned (.bool p) ∧ ∃m,w'=w.drewN m
theorem UF{a b:List Int}{i:Nat}(ha:i<a.length)(hb:i<b.length)(h:a.take i=b.take i):a.take (i+1)=b.take (i+1)↔a[i]=b[i]:=by
 have e1:=List.take_succ_eq_append_getElem ha;have e2:=List.take_succ_eq_append_getElem hb;rw [e1,e2,h,List.append_cancel_left_eq,List.cons.injEq];exact ⟨fun h=>h.1,fun h=>⟨h,rfl⟩⟩
set_option maxHeartbeats 400000 in
theorem lD(A B:Option Addr)(c d:Nat)(a b:List Int)(w:World)(N:Nat)(ha:jr w N A (jf a))(hb:jr w N B (jf b))(hla:a.length≤100000)(hlb:b.length≤100000) :
  Calls Tryz.prog 34 #[.slice A a.length c,.slice B b.length d] w (KU (decide (a=b)) w):=by
 by_cases hl:a.length=b.length
 ·have H1:((a.length:Int) != (b.length:Int))=false:=by rw [xd];simp [hl]
  have HL:=Lib.hid hl;have hl1:a.length≤b.length:=by omega
  clear hl
  go_enter Tryz.func34,Tryz.ntmps34
  go_wp2
  go_loopg [5] a.length (fun k s5 wr=>∃i m:Nat,s5 = .int .i64 i∧i≤a.length∧k=a.length-i∧wr=w.drewN m∧a.take i=b.take i)
  case atStart=>exact ⟨0,0,rfl,Nat.zero_le _,rfl,rfl,by simp⟩
  case round=>
   obtain ⟨i,m,rfl,hi,hk,rfl,ht⟩:=hrel;have Hk:=Lib.hid hk;clear hk;have Ht:=Lib.hid ht;clear ht;by_cases hlt:i<a.length
   ·obtain ⟨b1,o1,rfl,_,hc1⟩:=ha.ints (by omega);obtain ⟨b2,o2,rfl,_,hc2⟩:=hb.ints (by omega);have c1:=hc1 i hlt;have c2:=hc2 i (by omega);have h2:(i:Int)<b.length:=by omega
    have h1:(i:Int)<a.length:=by omega
    clear hc1 hc2 ha hb;have T1:=Lib.hid (UF hlt (show i<b.length by omega) Ht.out);have T2:=Lib.hid (show a=b→a[i]=b[i]'(by omega) by intro h;subst h;rfl);generalize a[i]=x at *;generalize b[i]'(by omega)=y at *;go_wp2_with fail;by_cases hxy:x=y
    ·have hd:(x != y)=false:=by simp [hxy]
     have Hxy:=Lib.hid hxy;clear hxy
     go_quiet (fail)
     go_wp2_with fail
     go_roundg (a.length-(i+1))
     case measure=>rw [Hk.out];omega
     case rel=>exact ⟨i+1,_,by go_num,by omega,rfl,rfl,T1.out.2 Hxy.out⟩
    ·have hd:(x != y)=true:=by simp [hxy]
     have Hxy:=Lib.hid hxy;clear hxy
     go_quiet (fail)
     go_wp2_with fail;go_ret;exact ⟨jx (by rw [eq_comm,decide_eq_false_iff_not];exact fun h=>Hxy.out (T2.out h)),_,World.drewN_drewN _ _ _⟩
   ·go_wp2_with fail;go_ret;refine ⟨jx ?_,_,rfl⟩;have e:=Ht.out;rw [List.take_of_length_le (by omega),List.take_of_length_le (by have:=HL.out;omega)] at e;simp [e]
 ·have H1:((a.length:Int) != (b.length:Int))=true:=by rw [xd];simp [hl]
  have HL:=Lib.hid hl;clear hl
  go_enter Tryz.func34,Tryz.ntmps34
  go_wp2
  go_ret;exact ⟨jx (by rw [eq_comm,decide_eq_false_iff_not];intro h;exact HL.out (by rw [h])),0,rfl⟩
set_option maxHeartbeats 400000 in
theorem XW(n:Int)(A:Option Addr)(cap:Nat)(es:List (Int×Int))(w:World)(hes:jr w w.heap.size A (jA es)) :
  Calls Tryz.prog 77 #[.agg #[.int .i64 n,.slice A es.length cap]] w fun e w'=>e = .returned (.bool (vj n es))∧Below w.heap.size w w':=by
 by_cases h1:0<n
 ·by_cases h2:n≤64
  ·by_cases h3:es.length≤128
   ·have M:=Lib.hid (show vj n es = !Xt (fun i=>UB n (es.getD i (0,0))) es.length by simp [vj,h1,h2,h3])
    go_enter Tryz.func77,Tryz.ntmps77
    go_wp2_with fail;have b0:=World.cell?_alloc_new w #[.int .i64 n,.slice A es.length cap] 24 0;have b1:=World.cell?_alloc_new w #[.int .i64 n,.slice A es.length cap] 24 1;have hbw:=(Below.refl w.heap.size w).alloc (Nat.le_refl _) (.cells #[.int .i64 n,.slice A es.length cap] 24);have s1:=World.size_alloc w (.cells #[.int .i64 n,.slice A es.length cap] 24);generalize w.alloc (.cells #[.int .i64 n,.slice A es.length cap] 24)=w1 at *;simp only [List.getElem?_toArray,List.getElem?_cons_zero,List.getElem?_cons_succ] at b0 b1;have hes1:=hes.below hbw;have l1:w.heap.size<w1.heap.size:=by omega
    clear s1
    go_loopg [3] es.length (fun k s3 wr=>∃i:Nat,s3 = .int .i64 i∧i≤es.length∧k=es.length-i∧Below w1.heap.size w1 wr ∧ ∀j,j<i→UB n (es.getD j (0,0))=false)
    case atStart=>exact ⟨0,rfl,Nat.zero_le _,rfl,Below.refl _ _,fun j hj=>absurd hj (by omega)⟩
    case round=>
     obtain ⟨i,rfl,hi,hk,hb,hf⟩:=hrel;have Hk:=Lib.hid hk;clear hk;have Hf:=Lib.hid hf;clear hf;have b0':=(hb.cell (p:=⟨w.heap.size,0,none⟩) l1).trans b0;have b1':=(hb.cell (p:=⟨w.heap.size,1,none⟩) l1).trans b1;have hbs:=hb.size;have l3:w.heap.size<wr.heap.size:=by omega
     by_cases hlt:i<es.length
     ·obtain ⟨b,off,rfl,hbb,hc⟩:=hes1.edges (by omega);obtain ⟨c0,c1⟩:=hc i hlt;clear hc;have c0':=(hb.cell (p:=⟨b,off+i*2,none⟩) (Nat.lt_trans hbb l1)).trans c0;have c1':=(hb.cell (p:=⟨b,off+i*2+1,none⟩) (Nat.lt_trans hbb l1)).trans c1;clear c0 c1;have e0:es.getD i (0,0)=es[i]:=by simp [hlt]
      have hbr:=hb.alloc (by omega) (.cells #[.int .i64 es[i].1,.int .i64 es[i].2] 66);have BE:=Lib.hid (show UB n (es.getD i (0,0))=(ZZ n es[i].1||ZZ n es[i].2) by rw [e0];rfl);clear e0;generalize es[i].1=x at *;generalize es[i].2=y at *;by_cases hbad:x<0∨y<0∨n≤x∨n≤y
      ·have HB:=Lib.hid (show vj n es=false by
        rw [M.out,Xt,Bool.not_eq_false',List.any_eq_true];refine ⟨i,List.mem_range.2 hlt,?_⟩;simp only [BE.out,ZZ,Bool.or_eq_true,decide_eq_true_eq]
        omega)
       go_wp2_with fail
       all_goals
        go_ret;exact ⟨jx HB.out.symm,hbw.trans (hbr.mono (by omega))⟩
      ·have HB:=Lib.hid (show UB n (es.getD i (0,0))=false by
        rw [BE.out,ZZ,ZZ]
        simp;omega)
       have k1:0≤x:=by omega
       have k2:0≤y:=by omega
       have k3:x<n:=by omega
       have k4:y<n:=by omega
       clear hbad;go_wp2_with fail
       go_roundg (es.length-(i+1))
       case measure=>rw [Hk.out];omega
       case rel=>exact ⟨i+1,by go_num,by omega,rfl,hbr,fun j hj=>by
        by_cases h:j=i
        ·rw [h];exact HB.out
        ·exact Hf.out j (by omega)⟩
     ·go_wp2_with fail;go_ret;refine ⟨jx ?_,hbw.trans (hb.mono (by omega))⟩;rw [M.out,Xt,eq_comm,Bool.not_eq_true',List.any_eq_false];intro j hj;rw [Hf.out j (by have:=List.mem_range.1 hj;omega)];simp
   ·go_enter Tryz.func77,Tryz.ntmps77
    go_wp2_with fail;go_ret
    exact ⟨jx (by
     have:¬es.length≤128:=by omega
     simp [vj,this]),(Below.refl _ _).alloc (Nat.le_refl _) _⟩
  ·go_enter Tryz.func77,Tryz.ntmps77
   go_wp2_with fail;go_ret
   exact ⟨jx (by
    have:¬n≤64:=by omega
    simp [vj,this]),(Below.refl _ _).alloc (Nat.le_refl _) _⟩
 ·go_enter Tryz.func77,Tryz.ntmps77
  go_wp2_with fail;go_ret
  exact ⟨jx (by
   have:¬0<n:=by omega
   simp [vj,this]),(Below.refl _ _).alloc (Nat.le_refl _) _⟩
theorem kw:kP Tryz.prog 113 4 (.bool false) 1 1:=kP.mk' Tryz.underlying113 (by kernel_rfl) rfl (by omega)
def Gw(T:TypeId)(xs:List Value)(w:World)(e:Ending)(w':World):Prop:=∃v,e = .returned v∧Below w.heap.size w w'∧w'.ownsRow w.heap.size T 1 v xs.length xs
set_option maxHeartbeats 400000 in
theorem iD(n:Int)(A:Option Addr)(cap:Nat)(es:List (Int×Int))(w:World)(hlen:es.length≤100000) :
  Calls Tryz.prog 124 #[.agg #[.int .i64 n,.slice A es.length cap]] w (Gw 4 (jD (List.replicate es.length true)) w):=by
 have hmk:=fun W=>yz kw rfl es.length (by omega) (by omega) W
 go_enter Tryz.func124,Tryz.ntmps124
 go_wp2_with fail
 have b0:Blk ((w.alloc (.cells #[.int .i64 n,.slice A es.length cap] 24)).alloc (.cells (Array.replicate es.length (.bool false)) 4)) (w.heap.size+1) 4 (jD (List.replicate es.length false)).toArray:=by
  have:=Blk.new (w.alloc (.cells #[.int .i64 n,.slice A es.length cap] 24)) 4 (Array.replicate es.length (.bool false));rw [World.size_alloc] at this;simpa [jD] using this
 have hbw:=((Below.refl w.heap.size w).alloc (Nat.le_refl _) (.cells #[.int .i64 n,.slice A es.length cap] 24)).alloc (by simp) (.cells (Array.replicate es.length (.bool false)) 4);generalize ((w.alloc (.cells #[.int .i64 n,.slice A es.length cap] 24)).alloc (.cells (Array.replicate es.length (.bool false)) 4))=w1 at *
 go_loopg [4] es.length (fun k s4 wr=>∃(i:Nat) (l:List Bool),s4 = .int .i64 i∧i≤es.length∧k=es.length-i∧Below w.heap.size w wr∧Blk wr (w.heap.size+1) 4 (jD l).toArray∧l.length=es.length ∧ ∀j,j<i→l.getD j false=true)
 case atStart=>exact ⟨0,_,rfl,Nat.zero_le _,rfl,hbw,b0,by simp,fun j hj=>absurd hj (by omega)⟩
 case round=>
  obtain ⟨i,l,rfl,hi,hk,hb,hblk,hl,hf⟩:=hrel;have Hk:=Lib.hid hk;clear hk;have Hf:=Lib.hid hf;clear hf;have HL:=Lib.hid hl;clear hl;by_cases hlt:i<es.length
  ·have c0:=hblk.bool (k:=i) (by rw [HL.out];exact hlt);have f0:=hblk.frozen i;go_wp2_with fail;clear c0 f0
   go_roundg (es.length-(i+1))
   case measure=>rw [Hk.out];omega
   case rel=>exact ⟨i+1,l.set i true,by go_num,by omega,rfl,hb.setCell (by simp) _,hblk.setBool i true,by simp [HL.out],fun j hj=>by
    by_cases h:j=i
    ·subst h;simp [HL.out,hlt]
    ·have:=Hf.out j (by omega);simp only [List.getD_eq_getElem?_getD,List.getElem?_set] at this ⊢
     rw [if_neg (fun e=>h e.symm)];exact this⟩
  ·go_wp2_with fail;go_ret
   have e:l=List.replicate es.length true:=by
    refine List.ext_getElem (by simp [HL.out]) (fun j h1 h2=>?_);have:=Hf.out j (by have:=HL.out;omega);simpa [h1] using this
   subst e;exact ⟨_,rfl,hb,by simpa [jD] using vx hblk (by omega) (by simp [jD]) (by omega)⟩
end Go.Proofs.YtneeknlhlkpnpaaGreat
/-
 Plain laws of reaching: ways along edges that count; what 'grow' leaves is what can be reached. Written by an AI agent.
-/
namespace Go.Proofs.YtneeknlhlkpnpaaGreat
open Go.RowKit
inductive Star (E:Nat→Nat→Prop):Nat→Nat→Prop where
 | refl (x:Nat):Star E x x
 | head {x y z:Nat} (h:E x y) (r:Star E y z):Star E x z
theorem Star.trans{E:Nat→Nat→Prop}{x y z:Nat}(h:Star E x y)(k:Star E y z):Star E x z:=by
 induction h with
 | refl=>exact k
 | head e _ ih=>exact .head e (ih k)
theorem Star.one{E:Nat→Nat→Prop}{x y:Nat}(h:E x y):Star E x y:=.head h (.refl _)
theorem Star.mono{E F:Nat→Nat→Prop}(hEF:∀x y,E x y→F x y){x y:Nat}(h:Star E x y):Star F x y:=by
 induction h with
 | refl=>exact .refl _
 | head e _ ih=>exact .head (hEF _ _ e) ih
theorem Star.sym{E:Nat→Nat→Prop}(hs:∀x y,E x y→E y x){x y:Nat}(h:Star E x y):Star E y x:=by
 induction h with
 | refl=>exact .refl _
 | head e _ ih=>exact ih.trans (.one (hs _ _ e))
theorem Star.inv{E:Nat→Nat→Prop}{P:Nat→Prop}(hP:∀x y,E x y→P x→P y){x y:Nat}(h:Star E x y)(hx:P x):P y:=by
 induction h with
 | refl=>exact hx
 | head e _ ih=>exact ih (hP _ _ e hx)
def zZ(both:Bool)(cnt:Nat→Bool)(es:List (Int×Int))(x y:Nat):Prop:=
 ∃i,∃h:i<es.length,cnt i=true∧(es[i]=((x:Int),(y:Int))∨both=true∧es[i]=((y:Int),(x:Int)))
def InN(n:Nat)(es:List (Int×Int)):Prop:=∀e∈es,0≤e.1∧e.1<n∧0≤e.2∧e.2<n
theorem InN.at_{n:Nat}{es:List (Int×Int)}(h:InN n es){i:Nat}(hi:i<es.length):∃t u:Nat,es[i]=((t:Int),(u:Int))∧t<n∧u<n:=by
 obtain ⟨a,b,c,d⟩:=h es[i] (List.getElem_mem hi);refine ⟨es[i].1.toNat,es[i].2.toNat,?_,by omega,by omega⟩;apply Prod.ext<;>simp<;>omega
theorem zZ.lt{both:Bool}{cnt:Nat→Bool}{n:Nat}{es:List (Int×Int)}(hin:InN n es){x y:Nat}(h:zZ both cnt es x y):x<n∧y<n:=by
 obtain ⟨i,hi,_,h⟩:=h;obtain ⟨t,u,e,ht,hu⟩:=hin.at_ hi;rw [e] at h;rcases h with h | ⟨_,h⟩<;>simp only [Prod.mk.injEq] at h<;>omega
theorem Wr(n x y:Nat)(hx:x<n):((uK n).getD x 0).testBit y=decide (x=y):=by
 have e:(uK n).getD x 0=2 ^ x:=by simp [uK,hx,Nat.shiftLeft_eq]
 rw [e,Nat.testBit_two_pow]
theorem uH(U:List Nat)(t x y:Nat)(h:t<U.length):(U.set t x).getD y 0=if t=y then x else U.getD y 0:=by
 simp only [List.getD_eq_getElem?_getD,List.getElem?_set]
 split
 ·subst_vars;simp
 ·rfl
theorem io{both:Bool}{cnt:Nat→Bool}{n:Nat}{es:List (Int×Int)}{T:List Nat}(hin:InN n es)(h:KV both cnt n es T) :
  T.length=n ∧ ∀x,x<n → ∀y,(T.getD x 0).testBit y=true↔Star (zZ both cnt es) x y:=by
 obtain ⟨hok,hto,hfix⟩:=h;have hl:T.length=n:=by rw [hok.len,kG]
 refine ⟨hl,?_⟩
 have sound:T.length=n ∧ ∀x,x<n→((T.getD x 0).testBit x=true ∧ ∀y,(T.getD x 0).testBit y=true→Star (zZ both cnt es) x y):=by
  refine hto (fun T=>T.length=n ∧ ∀x,x<n→((T.getD x 0).testBit x=true ∧ ∀y,(T.getD x 0).testBit y=true→Star (zZ both cnt es) x y)) ⟨kG n,fun x hx=>?_⟩ ?_
  ·rw [Wr n x x hx];refine ⟨by simp,fun y hy=>?_⟩;rw [Wr n x y hx] at hy;have:x=y:=by simpa using hy
   subst this;exact .refl _
  ·intro U i hi ⟨hUl,hU⟩
   cases hc:cnt i with
   | false=>rw [YB hc];exact ⟨hUl,hU⟩
   | true=>
    obtain ⟨t,u,e,ht,hu⟩:=hin.at_ hi;rw [Qu hi hc (t:=t) (h:=u) (by rw [e]) (by rw [e])];refine ⟨by simp [hUl],fun x hx=>?_⟩;have e1:zZ both cnt es t u:=⟨i,hi,hc,.inl e⟩;have ht':=hU t ht;have hu':=hU u hu;have hx':=hU x hx;rw [uH _ _ _ _ (by simp [hUl,hu]),uH _ _ _ _ (by rw [hUl];exact ht)]
    have tu:∀y,(U.getD t 0 ||| U.getD u 0).testBit y=true→Star (zZ both cnt es) t y:=by
     intro y hy;rw [Nat.testBit_or,Bool.or_eq_true] at hy;exact hy.elim (ht'.2 y) (fun h=>.head e1 (hu'.2 y h))
    by_cases hxu:u=x
    ·subst hxu;rw [if_pos rfl]
     cases both with
     | false=>exact hu'
     | true=>
      simp only [if_true];refine ⟨by rw [Nat.testBit_or,hu'.1];simp,fun y hy=>?_⟩;exact .head ⟨i,hi,hc,.inr ⟨rfl,e⟩⟩ (tu y hy)
    ·rw [if_neg hxu];by_cases hxt:t=x
     ·subst hxt;rw [if_pos rfl];exact ⟨by rw [Nat.testBit_or,ht'.1];simp,tu⟩
     ·rw [if_neg hxt];exact hx'
 have sub:∀x y,zZ both cnt es x y → ∀z,(T.getD y 0).testBit z=true→(T.getD x 0).testBit z=true:=by
  intro x y ⟨i,hi,hc,hxy⟩ z hz;have hf:=hfix i hi;obtain ⟨t,u,e,ht,hu⟩:=hin.at_ hi;rw [Qu hi hc (t:=t) (h:=u) (by rw [e]) (by rw [e])] at hf
  have at_:∀k,(if u=k then (if both then T.getD t 0 ||| T.getD u 0 else T.getD u 0) else if t=k then T.getD t 0 ||| T.getD u 0 else T.getD k 0)=T.getD k 0:=by
   intro k;rw [←uH _ _ _ _ (by rw [hl];exact ht),←uH _ _ _ _ (by simp [hl,hu]),hf]
  have hT:t≠u→T.getD t 0 ||| T.getD u 0=T.getD t 0:=by
   intro hne;have:=at_ t;rw [if_neg (fun h=>hne h.symm),if_pos rfl] at this;exact this
  have hTall:(T.getD u 0).testBit z=true→(T.getD t 0).testBit z=true:=by
   intro h;by_cases hne:t=u
   ·subst hne;exact h
   ·rw [←hT hne,Nat.testBit_or,h];simp
  rw [e] at hxy;rcases hxy with h | ⟨hb,h⟩
  ·simp only [Prod.mk.injEq] at h;obtain rfl:t=x:=by omega
   obtain rfl:u=y:=by omega
   exact hTall hz
  ·simp only [Prod.mk.injEq] at h;obtain rfl:t=y:=by omega
   obtain rfl:u=x:=by omega
   have:=at_ u;rw [if_pos rfl,if_pos hb] at this;rw [←this,Nat.testBit_or,hz];simp
 intro x hx y;refine ⟨(sound.2 x hx).2 y,fun h=>?_⟩;clear hto hfix
 induction h with
 | refl x=>exact (sound.2 x hx).1
 | head e _ ih=>exact sub _ _ e _ (ih (e.lt hin).2)
end Go.Proofs.YtneeknlhlkpnpaaGreat
namespace Go.Proofs.YtneeknlhlkpnpaaGreat
open Go.RowKit
def uY(both:Bool)(cnts:List Bool)(es:List (Int×Int))(U:List Bool)(i:Nat):List Bool:=
 if cnts.getD i false&&(U.getD (es.getD i (0,0)).1.toNat false||both&&U.getD (es.getD i (0,0)).2.toNat false) then
  (U.set (es.getD i (0,0)).2.toNat true).set (es.getD i (0,0)).1.toNat ((U.set (es.getD i (0,0)).2.toNat true).getD (es.getD i (0,0)).1.toNat false||both)
 else U
def vQ(both:Bool)(cnts:List Bool)(es:List (Int×Int))(U:List Bool)(k:Nat):List Bool:=(List.range k).foldl (uY both cnts es) U
def goN(both:Bool)(cnts:List Bool)(es:List (Int×Int))(U:List Bool)(r:Nat):List Bool:=(List.range r).foldl (fun U _=>vQ both cnts es U es.length) U
def zK(n f:Nat):List Bool:=(List.replicate n false).set f true
def JN(both:Bool)(cnts:List Bool)(es:List (Int×Int))(n f:Nat):List Bool:=goN both cnts es (zK n f) n
theorem kj(both:Bool)(cnts:List Bool)(es:List (Int×Int))(U:List Bool)(k:Nat):vQ both cnts es U (k+1)=uY both cnts es (vQ both cnts es U k) k:=by
 unfold vQ;rw [List.range_succ,List.foldl_append];rfl
theorem QJ(both:Bool)(cnts:List Bool)(es:List (Int×Int))(U:List Bool)(r:Nat):goN both cnts es U (r+1)=vQ both cnts es (goN both cnts es U r) es.length:=by
 unfold goN;rw [List.range_succ,List.foldl_append];rfl
theorem Un(both:Bool)(cnts:List Bool)(es:List (Int×Int))(U:List Bool)(i:Nat):(uY both cnts es U i).length=U.length:=by
 unfold uY;split<;>simp
theorem kg(both:Bool)(cnts:List Bool)(es:List (Int×Int))(U:List Bool)(k:Nat):(vQ both cnts es U k).length=U.length:=by
 induction k with
 | zero=>rfl
 | succ k ih=>rw [kj,Un,ih]
theorem JG(both:Bool)(cnts:List Bool)(es:List (Int×Int))(U:List Bool)(r:Nat):(goN both cnts es U r).length=U.length:=by
 induction r with
 | zero=>rfl
 | succ k ih=>rw [QJ,kg,ih]
theorem Vz{both:Bool}{cnts:List Bool}{es:List (Int×Int)}{U:List Bool}{i t h:Nat}(hi:i<es.length)(ht:es[i].1=t)(hh:es[i].2=h) :
  uY both cnts es U i=if cnts.getD i false&&(U.getD t false||both&&U.getD h false) then (U.set h true).set t ((U.set h true).getD t false||both) else U:=by
 unfold uY;simp [hi,ht,hh]
set_option maxHeartbeats 1000000 in
theorem pN(n f:Nat)(A C:Option Addr)(cap ccap:Nat)(es:List (Int×Int))(both:Bool)(cnts:List Bool)(w:World)(B:Nat)(hB:B≤w.heap.size)(hes:jr w B A (jA es))(hcs:jr w B C (jD cnts))
  (hin:InN n es) (hn:n≤64) (hlen:es.length≤128) (hf:f<n) (hc:cnts.length=es.length) :
  Calls Tryz.prog 125 #[.agg #[.int .i64 n,.slice A es.length cap],.int .i64 f,.bool both,.slice C es.length ccap] w (Gw 4 (jD (JN both cnts es n f)) w):=by
 have hmk:=fun W=>yz kw rfl n (by omega) (by omega) W;have Hin:=Lib.hid hin;clear hin;have Hc:=Lib.hid hc;clear hc;have hf':(f:Int)<n:=by omega
 go_enter Tryz.func125,Tryz.ntmps125
 go_wp2_with fail
 have s0:Blk ((w.alloc (.cells #[.int .i64 n,.slice A es.length cap] 24)).alloc (.cells ((Array.replicate n (.bool false)).setIfInBounds f (.bool true)) 4)) (w.heap.size+1) 4 (jD (zK n f)).toArray:=by
  have:=Blk.new (w.alloc (.cells #[.int .i64 n,.slice A es.length cap] 24)) 4 ((Array.replicate n (.bool false)).setIfInBounds f (.bool true));rw [World.size_alloc] at this
  have e:((Array.replicate n (Value.bool false)).setIfInBounds f (.bool true))=(jD (zK n f)).toArray:=by
   simp [jD,zK,List.map_set,←List.toArray_replicate]
  rw [←e];exact this
 have x0:Blk ((w.alloc (.cells #[.int .i64 n,.slice A es.length cap] 24)).alloc (.cells ((Array.replicate n (.bool false)).setIfInBounds f (.bool true)) 4)) w.heap.size 24 #[.int .i64 n,.slice A es.length cap]:=(Blk.new _ _ _).alloc _;have hbw:=((Below.refl w.heap.size w).alloc (Nat.le_refl _) (.cells #[.int .i64 n,.slice A es.length cap] 24)).alloc (by simp) (.cells ((Array.replicate n (.bool false)).setIfInBounds f (.bool true)) 4);generalize ((w.alloc (.cells #[.int .i64 n,.slice A es.length cap] 24)).alloc (.cells ((Array.replicate n (.bool false)).setIfInBounds f (.bool true)) 4))=w1 at *
 go_loopg [10] n (fun k s10 wr=>∃r:Nat,s10 = .int .i64 r∧r≤n∧k=n-r∧Below w.heap.size w wr∧Blk wr w.heap.size 24 #[.int .i64 n,.slice A es.length cap]∧Blk wr (w.heap.size+1) 4 (jD (goN both cnts es (zK n f) r)).toArray)
 case atStart=>exact ⟨0,rfl,Nat.zero_le _,rfl,hbw,x0,s0⟩
 case round=>
  obtain ⟨r,rfl,hr,hk,hb,hx,hs⟩:=hrel;have Hk:=Lib.hid hk;clear hk;have b0:=hx.cell 0;have b1:=hx.cell 1;simp only [List.getElem?_toArray,List.getElem?_cons_zero,List.getElem?_cons_succ] at b0 b1;have hUl:=JG both cnts es (zK n f) r;rw [show (zK n f).length=n by simp [zK]] at hUl;by_cases hrn:r<n
  ·go_wp2_with fail;have NS:=Lib.hid (QJ both cnts es (zK n f) r);generalize goN both cnts es (zK n f) r=U0 at *;have HUl:=Lib.hid hUl;clear hUl;obtain ⟨wo,rfl⟩:∃wo:World,wo=wr:=⟨_,rfl⟩
   go_loopg [11] es.length (fun k s11 wr=>∃i:Nat,s11 = .int .i64 i∧i≤es.length∧k=es.length-i∧Below w.heap.size w wr∧Blk wr w.heap.size 24 #[.int .i64 n,.slice A es.length cap]∧Blk wr (w.heap.size+1) 4 (jD (vQ both cnts es U0 i)).toArray)
   case atStart=>exact ⟨0,rfl,Nat.zero_le _,rfl,hb,hx,hs⟩
   case round=>
    obtain ⟨i,rfl,hi,hk2,hb2,hx2,hs2⟩:=hrel;have Hk2:=Lib.hid hk2;clear hk2;clear b0 b1 hx hs;have b0:=hx2.cell 0;have b1:=hx2.cell 1;simp only [List.getElem?_toArray,List.getElem?_cons_zero,List.getElem?_cons_succ] at b0 b1;have l3:=hx2.lt;have l4:=hs2.lt;by_cases hlt:i<es.length
    ·obtain ⟨b,off,rfl,hbb,hcc⟩:=hes.edges (by omega);obtain ⟨c0,c1⟩:=hcc i hlt;obtain ⟨bc,offc,rfl,hbc,hcc2⟩:=hcs.bools (by have:=Hc.out;omega);have d0:=hcc2 i (by have:=Hc.out;omega);clear hcc hcc2;have c0':=(hb2.cell (p:=⟨b,off+i*2,none⟩) (Nat.lt_of_lt_of_le hbb hB)).trans c0;have c1':=(hb2.cell (p:=⟨b,off+i*2+1,none⟩) (Nat.lt_of_lt_of_le hbb hB)).trans c1;have d0':=(hb2.cell (p:=⟨bc,offc+i,none⟩) (Nat.lt_of_lt_of_le hbc hB)).trans d0;have l5:bc<wr.heap.size:=by have:=hb2.size;omega
     clear c0 c1 d0;obtain ⟨t,u,e,ht,hu⟩:=Hin.out.at_ hlt;rw [e] at c0' c1';have PS:=Lib.hid (kj both cnts es U0 i);have hVl:=kg both cnts es U0 i;have GS:=Lib.hid (Vz (both:=both) (cnts:=cnts) (U:=vQ both cnts es U0 i) (t:=t) (h:=u) hlt (by rw [e]) (by rw [e]));clear e;have ht':(t:Int)<n:=by omega
     have hu':(u:Int)<n:=by omega
     generalize vQ both cnts es U0 i=V at *;rw [HUl.out] at hVl;have ct:=hs2.bool (k:=t) (by omega);have cu:=hs2.bool (k:=u) (by omega);have ft:=hs2.frozen t;have fu:=hs2.frozen u;have HVl:=Lib.hid hVl;clear hVl;generalize hc:cnts.getD i false=c at *;generalize ha:V.getD t false=a at *;generalize hd:V.getD u false=d at *;clear hc ha hd
     go_upto_region 10 with fail
     go_cut [57] (fun s57 wc=>s57 = .bool (c&&(a||both&&d))∧wc=wr.alloc (.cells #[.int .i64 t,.int .i64 u] 66))
     case first=>
      cases c<;>cases a<;>cases both<;>cases d<;>(go_wp2_with fail)<;>go_meet<;>exact ⟨rfl,rfl⟩
     obtain ⟨rfl,rfl⟩:=hcut;generalize hq:(c&&(a||both&&d))=q at *;clear hq
     cases q with
     | false=>
      go_wp2_with fail
      go_roundg (es.length-(i+1))
      case measure=>rw [Hk2.out];omega
      case rel=>exact ⟨i+1,by go_num,by omega,rfl,hb2.alloc (by omega) _,hx2.alloc _,by rw [PS.out,GS.out];exact hs2.alloc _⟩
     | true=>
      have S1:=hs2.setBool u true;have y0:=S1.bool (k:=t) (by simp [HVl.out];exact ht);have y1:=S1.frozen t;generalize hy:(V.set u true).getD t false=y at *;clear hy
      cases y<;>go_wp2_with fail
      ·go_region
       go_wp2_with fail;clear ct cu ft fu y0 y1 c0' c1' d0'
       go_roundg (es.length-(i+1))
       case measure=>rw [Hk2.out];omega
       case rel=>
        refine ⟨i+1,by go_num,by omega,rfl,(((hb2.setCell (p:=⟨w.heap.size+1,u,none⟩) (by simp) _).setCell (p:=⟨w.heap.size+1,t,none⟩) (by simp) _).alloc (by simp [World.setCell];omega) _).drew,(((hx2.far (p:=⟨w.heap.size+1,u,none⟩) (by simp) _).far (p:=⟨w.heap.size+1,t,none⟩) (by simp) _).alloc _).drew,?_⟩;rw [PS.out,GS.out];exact ((S1.setBool t _).alloc _).drew
      ·go_region
       go_wp2_with fail;clear ct cu ft fu y0 y1 c0' c1' d0'
       go_roundg (es.length-(i+1))
       case measure=>rw [Hk2.out];omega
       case rel=>
        refine ⟨i+1,by go_num,by omega,rfl,(((hb2.setCell (p:=⟨w.heap.size+1,u,none⟩) (by simp) _).setCell (p:=⟨w.heap.size+1,t,none⟩) (by simp) _).alloc (by simp [World.setCell];omega) _).drew,(((hx2.far (p:=⟨w.heap.size+1,u,none⟩) (by simp) _).far (p:=⟨w.heap.size+1,t,none⟩) (by simp) _).alloc _).drew,?_⟩;rw [PS.out,GS.out];exact ((S1.setBool t _).alloc _).drew
    ·have hie:i=es.length:=by omega
     subst hie;go_wp2_with fail
     go_roundg (n-(r+1))
     case measure=>rw [Hk.out];omega
     case rel=>exact ⟨r+1,by go_num,by omega,rfl,hb2,hx2,by rw [NS.out];exact hs2⟩
  ·have hrn':r=n:=by omega
   subst hrn';go_wp2_with fail;go_ret;refine ⟨_,rfl,hb,?_⟩;rw [vW,show (JN both cnts es r f).length=r from hUl];exact vx hs (by omega) (by rw [vW];exact hUl) (by omega)
end Go.Proofs.YtneeknlhlkpnpaaGreat
namespace Go.Proofs.YtneeknlhlkpnpaaGreat
open Go.RowKit
theorem WV(both:Bool)(cnts:List Bool)(es:List (Int×Int))(n f:Nat):(JN both cnts es n f).length=n:=by
 unfold JN;rw [JG];simp [zK]
theorem lX{w:World}{base n:Nat}{t:TypeId}{v:Value}{l:List Bool}(h:w.ownsRow base t 1 v (jD l).length (jD l))(hn:l.length=n)(h0:0<n) :
  ∃g cap,v = .slice (some ⟨g,0,none⟩) n cap∧base≤g ∧ ∀k,k<n→w.cell? ⟨g,k,none⟩=some (.bool (l.getD k false)):=by
 rw [vW,hn] at h;obtain ⟨g,cap,R,hv,hg,hb,_⟩:=xO h h0;exact ⟨g,cap,hv,hg,fun k hk=>hb.boolR (by omega)⟩
theorem yZ{B:Nat}{w w':World}(h:Below B w.drew w'):Below B w w':=⟨h.os,h.tape,h.output,h.size,h.block⟩
end Go.Proofs.YtneeknlhlkpnpaaGreat
namespace Go.Proofs.YtneeknlhlkpnpaaGreat
open Go.RowKit
def Ux(wo:List Bool)(es:List (Int×Int))(i:Nat):Bool:=!wo.getD (es.getD i (0,0)).1.toNat false && !wo.getD (es.getD i (0,0)).2.toNat false
def kJ(wo:List Bool)(es:List (Int×Int)):List Bool:=(List.range es.length).map (Ux wo es)
def lst(seen:List Bool)(b:Bool)(n:Nat):Nat→Int
 | 0=>-1
 | j+1=>if seen.getD (n-1-j) false&&b then ((n-1-j:Nat):Int) else lst seen b n j
def YX(wo:List Bool)(es:List (Int×Int))(n x:Nat):Int:=lst (JN true (kJ wo es) es n x) (!wo.getD x false) n n
def km(wo:List Bool)(es:List (Int×Int))(n k:Nat):List Int:=(List.range k).map (YX wo es n)
theorem aa(wo:List Bool)(es:List (Int×Int))(n k:Nat):km wo es n (k+1)=km wo es n k++[YX wo es n k]:=by
 unfold km;rw [List.range_succ,List.map_append];rfl
theorem Uh(wo:List Bool)(es:List (Int×Int))(n k:Nat):(km wo es n k).length=k:=by simp [km]
theorem mi(seen:List Bool)(b:Bool)(n y:Nat)(h:y<n):lst seen b n (n-y)=if seen.getD y false&&b then (y:Int) else lst seen b n (n-(y+1)):=by
 obtain ⟨j,hj⟩:∃j,n-y=j+1:=⟨n-y-1,by omega⟩;rw [hj,show n-(y+1)=j by omega,lst,show n-1-j=y by omega]
set_option maxHeartbeats 1000000 in
theorem ah(n:Nat)(A C:Option Addr)(cap ccap:Nat)(es:List (Int×Int))(wo:List Bool)(w:World)(hes:jr w w.heap.size A (jA es))(hwo:jr w w.heap.size C (jD wo))(hin:InN n es)(hn:n≤64)(hlen:es.length≤128)(hwl:wo.length=n) :
  Calls Tryz.prog 79 #[.agg #[.int .i64 n,.slice A es.length cap],.slice C n ccap] w (Gw 3 (jf (km wo es n n)) w):=by
 have Hin:=Lib.hid hin;clear hin;have Hwl:=Lib.hid hwl;clear hwl
 go_enter Tryz.func79,Tryz.ntmps79
 go_wp2_with fail;have x0:=Blk.new w 24 #[.int .i64 n,.slice A es.length cap];have hbw:=(Below.refl w.heap.size w).alloc (Nat.le_refl _) (.cells #[.int .i64 n,.slice A es.length cap] 24);have s1:=World.size_alloc w (.cells #[.int .i64 n,.slice A es.length cap] 24);generalize w.alloc (.cells #[.int .i64 n,.slice A es.length cap] 24)=w1 at *;have l1:w.heap.size<w1.heap.size:=by omega
 clear s1;refine (iD n A cap es _ (by omega)).mono ?_;rintro e w2 ⟨v,rfl,hb2,hv⟩;have x1:=x0.below hb2 l1;have hb3:=hbw.trans (hb2.mono (Nat.le_of_lt l1));rw [vW,List.length_replicate] at hv;have hc0:∃l:List Bool,l.length=es.length∧(∀j,j<0→l.getD j false=Ux wo es j)∧w2.ownsRow w1.heap.size 4 1 v es.length (jD l):=⟨_,by simp,fun j hj=>absurd hj (by omega),hv⟩;clear hv;go_wp2_with fail
 go_loopg [6] es.length (fun k s6 wr=>∃i:Nat,s6 = .int .i64 i∧i≤es.length∧k=es.length-i∧Below w.heap.size w wr∧Blk wr w.heap.size 24 #[.int .i64 n,.slice A es.length cap] ∧
  ∃l:List Bool,l.length=es.length∧(∀j,j<i→l.getD j false=Ux wo es j)∧wr.ownsRow w1.heap.size 4 1 v es.length (jD l))
 case atStart=>exact ⟨0,rfl,Nat.zero_le _,rfl,hb3,x1,hc0⟩
 case round=>
  obtain ⟨i,rfl,hi,hk,hb,hx,l,hl,hlj,hown⟩:=hrel;have Hk:=Lib.hid hk;clear hk;have Hl:=Lib.hid hl;clear hl;have Hlj:=Lib.hid hlj;clear hlj hc0;have b0:=hx.cell 0;have b1:=hx.cell 1;simp only [List.getElem?_toArray,List.getElem?_cons_zero,List.getElem?_cons_succ] at b0 b1;by_cases hlt:i<es.length
  ·obtain ⟨b,off,rfl,hbb,hcc⟩:=hes.edges (by omega);obtain ⟨c0,c1⟩:=hcc i hlt;clear hcc;obtain ⟨t,u,e,ht,hu⟩:=Hin.out.at_ hlt;rw [e] at c0 c1;have e0:es.getD i (0,0)=((t:Int),(u:Int)):=by simp [hlt,e]
   have RB:=Lib.hid (show Ux wo es i=(!wo.getD t false && !wo.getD u false) by unfold Ux;rw [e0];rfl);clear e e0;have ht':(t:Int)<n:=by omega
   have hu':(u:Int)<n:=by omega
   obtain ⟨bw,offw,rfl,hbw2,hcw⟩:=hwo.bools (by have:=Hwl.out;omega);have d0:=hcw t (by have:=Hwl.out;omega);have d1:=hcw u (by have:=Hwl.out;omega);clear hcw;have c0':=(hb.cell (p:=⟨b,off+i*2,none⟩) hbb).trans c0;have c1':=(hb.cell (p:=⟨b,off+i*2+1,none⟩) hbb).trans c1;have d0':=(hb.cell (p:=⟨bw,offw+t,none⟩) hbw2).trans d0;have d1':=(hb.cell (p:=⟨bw,offw+u,none⟩) hbw2).trans d1;clear c0 c1 d0 d1;obtain ⟨g,cap2,R,rfl,hg,hblk,hR,hc1,hc2,hc3⟩:=xO hown (by omega);clear hown;have HR:=Lib.hid (And.intro hR (And.intro hc1 (And.intro hc2 hc3)));clear hR hc1 hc2 hc3;have f0:=hblk.frozen i;have g0:=hblk.boolR (k:=i) (by rw [Hl.out];exact hlt);have S1:=hblk.setBoolR i (Ux wo es i) (by rw [Hl.out];exact hlt);have SS:=Lib.hid S1;clear S1;generalize hra:wo.getD t false=a at *;generalize hrd:wo.getD u false=d at *;clear hra hrd
   have fin:∀wq,Blk wq g 4 ((jD (l.set i (Ux wo es i))).toArray++R) → ∃l':List Bool,l'.length=es.length∧(∀j,j<i+1→l'.getD j false=Ux wo es j)∧wq.ownsRow w1.heap.size 4 1 (.slice (some ⟨g,0,none⟩) es.length cap2) es.length (jD l'):=by
    intro wq hq;obtain ⟨r1,r2,r3,r4⟩:=HR.out;refine ⟨l.set i (Ux wo es i),by simp [Hl.out],fun j hj=>?_,vl hg hq (by simpa [jD] using r1) r2 r3 (by simp [jD,Hl.out])⟩;simp only [List.getD_eq_getElem?_getD,List.getElem?_set];by_cases h:i=j
    ·subst h;simp [Hl.out,hlt]
    ·rw [if_neg h,←List.getD_eq_getElem?_getD];exact Hlj.out j (by omega)
   have Fin:=Lib.hid fin;clear fin
   cases a<;>cases d<;>(go_wp2_with fail)
   all_goals
    go_roundg (es.length-(i+1))
    case measure=>rw [Hk.out];omega
    case rel=>
     refine ⟨i+1,by go_num,by omega,rfl,hb.setCell (by simp;omega) _,hx.far (by simp;omega) _,Fin.out _ ?_⟩;have S:=SS.out;rw [RB.out] at S ⊢;exact S
  ·have hie:i=es.length:=by omega
   subst hie;go_wp2_with fail;have o0:(wr.alloc (.cells #[] 3)).ownsRow wr.heap.size 3 1 (.slice (some ⟨wr.heap.size,0,none⟩) 0 0) 0 []:=vx (Blk.new wr 3 #[]) (Nat.le_refl _) rfl (by omega);have x2:=hx.alloc (.cells #[] 3);have ow2:=hown.alloc (.cells #[] 3);obtain ⟨Av,cv,rfl⟩:=jv hown;have cc:=(jr.of_own hown).alloc (Nat.le_refl _) (.cells #[] 3);have hl2:=hx.lt;have hb4:=hb.alloc (by omega) (.cells #[] 3)
   have ec:l=kJ wo es:=by
    refine List.ext_getElem (by simp [kJ,Hl.out]) (fun j h1 h2=>?_);have:=Hlj.out j (by have:=Hl.out;omega);rw [List.getD_eq_getElem?_getD,List.getElem?_eq_getElem h1] at this;simpa [kJ] using this
   rw [ec] at cc;have s2:=World.size_alloc wr (.cells #[] 3);have Sz:=Lib.hid s2;have s3:wr.heap.size<(wr.alloc (.cells #[] 3)).heap.size:=by omega
   clear s2 hx hown ow2 hb b0 b1 ec;generalize wr.alloc (.cells #[] 3)=w4 at *;obtain ⟨we,rfl⟩:∃we:World,we=wr:=⟨_,rfl⟩
   go_loopg [7,8] n (fun k s7 s8 wr=>∃x:Nat,s8 = .int .i64 x∧x≤n∧k=n-x∧Below we.heap.size w4 wr∧wr.ownsRow we.heap.size 3 1 s7 x (jf (km wo es n x)))
   case atStart=>exact ⟨0,rfl,Nat.zero_le _,rfl,Below.refl _ _,o0⟩
   case round=>
    obtain ⟨x,rfl,hx,hk,hb,hown⟩:=hrel;have Hk:=Lib.hid hk;clear hk;have x3:=x2.below hb (by omega);have b0:=x3.cell 0;have b1:=x3.cell 1;simp only [List.getElem?_toArray,List.getElem?_cons_zero,List.getElem?_cons_succ] at b0 b1;by_cases hxn:x<n
    ·go_wp2_with fail;refine (pN n x _ _ cap cv es true (kJ wo es) wr we.heap.size (by have:=hb.size;omega) ((hes.below (hb4.trans (hb.mono (by omega)))).more (by omega)) (cc.below hb) Hin.out (by omega) (by omega) hxn (by simp [kJ])).mono ?_;rintro e w5 ⟨v5,rfl,hb5,hv5⟩;obtain ⟨g5,cap5,rfl,hg5,hc5⟩:=lX hv5 (WV _ _ _ _ _) (by omega);have hsz:=hb.size;have b0':=(hb5.cell (p:=⟨w.heap.size,0,none⟩) (by simp;omega)).trans b0;have b1':=(hb5.cell (p:=⟨w.heap.size,1,none⟩) (by simp;omega)).trans b1;have hb6:=hb.trans (hb5.mono (show we.heap.size≤wr.heap.size by omega));have hown6:=jT hown hb5 (Nat.le_refl _);obtain ⟨bw,offw,rfl,hbw2,hcw⟩:=hwo.bools (by have:=Hwl.out;omega);have d0:=((hb4.trans (hb6.mono (by omega))).cell (p:=⟨bw,offw+x,none⟩) hbw2).trans (hcw x (by have:=Hwl.out;omega));have hxn':(x:Int)<n:=by omega
     have hs6:=hb6.size;have RP:=Lib.hid (show YX wo es n x=lst (JN true (kJ wo es) es n x) (!wo.getD x false) n n from rfl);have RL:=Lib.hid (aa wo es n x);clear b0 b1 hb5 hb hown hv5 hcw cc x3;generalize JN true (kJ wo es) es n x=S at *;generalize wo.getD x false=q at *;go_wp2_with fail
     go_loopg [9,11] n (fun k s9 s11 wr=>∃r:Nat,s11 = .int .i64 ((r:Int)-1)∧r≤n∧k=r∧wr=w5∧s9 = .int .i64 (lst S (!q) n (n-r)))
     case atStart=>exact ⟨n,rfl,Nat.le_refl _,rfl,rfl,by rw [Nat.sub_self];rfl⟩
     case round=>
      obtain ⟨r,rfl,hr,hk2,rfl,rfl⟩:=hrel;have Hk2:=Lib.hid hk2;clear hk2
      cases r with
      | zero=>
       rw [Nat.sub_zero];have RP':=Lib.hid (show km wo es n (x+1)=km wo es n x++[lst S (!q) n n] by rw [RL.out,RP.out]);clear RP RL;generalize lst S (!q) n n=L at *;go_wp2_with (at_builtin;refine yC qz rfl _ _ rfl we.heap.size u7 x _ rfl wr.heap.size [.int .i64 L] rfl rfl hown6 rfl rfl ?h2 ?h3 ?h4 ?_)
       case h2=>omega
       case h3=>omega
       case h4=>omega
       intro v' w' hown' hg' _;have hb':Below we.heap.size w4 w':=qb hb6 hown6 hg' (by omega) (Nat.le_refl _);clear hown6 hg' hb6;go_wp2_with fail
       go_roundg (n-(x+1))
       case measure=>rw [Hk.out];omega
       case rel=>exact ⟨x+1,by go_num,by omega,rfl,hb',by
        rw [RP'.out];simpa [jf] using hown'⟩
      | succ y=>
       rw [show (((y+1:Nat):Int)-1)=y by omega];have cy:=hc5 y (by omega);have hyn:(y:Int)<n:=by omega
       have LS:=Lib.hid (mi S (!q) n y (by omega));generalize S.getD y false=sy at *;generalize lst S (!q) n (n-(y+1))=L at *
       cases sy<;>cases q<;>(go_wp2_with fail)
       all_goals
        go_roundg y
        case measure=>rw [Hk2.out];omega
        case rel=>exact ⟨y,rfl,by omega,rfl,rfl,by rw [LS.out];rfl⟩
    ·have hxe:x=n:=by omega
     subst hxe;go_wp2_with fail;go_ret;refine ⟨_,rfl,hb4.trans (hb.mono (by omega)),?_⟩;have:=qh hown (show w.heap.size≤we.heap.size by omega);simpa [jf,Uh] using this
end Go.Proofs.YtneeknlhlkpnpaaGreat
namespace Go.Proofs.YtneeknlhlkpnpaaGreat
open Go.RowKit
def Leq(l l':List Bool):Prop:=∀j,l.getD j false=true→l'.getD j false=true
theorem Leq.trans{a b c:List Bool}(h:Leq a b)(k:Leq b c):Leq a c:=fun j x=>k j (h j x)
theorem Leq.refl(a:List Bool):Leq a a:=fun _ x=>x
theorem Leq.antisymm{a b:List Bool}(h:Leq a b)(k:Leq b a)(hl:a.length=b.length):a=b:=by
 refine List.ext_getElem hl (fun j h1 h2=>?_);have e1:=h j;have e2:=k j;simp only [List.getD_eq_getElem?_getD,List.getElem?_eq_getElem h1,List.getElem?_eq_getElem h2,Option.getD_some] at e1 e2
 cases ha:a[j]<;>cases hb:b[j]<;>simp_all
theorem mM{l l':List Bool}(hl:l.length=l'.length)(h:Leq l l'):l.count true≤l'.count true∧(l≠l'→l.count true<l'.count true):=by
 induction l generalizing l' with
 | nil=>cases l' with
  | nil=>simp
  | cons=>simp at hl
 | cons a l ih=>
  cases l' with
  | nil=>simp at hl
  | cons b l'=>
   have ih':=ih (l':=l') (by simpa using hl) (fun j x=>by have:=h (j+1);simpa using this (by simpa using x));have h0:=h 0;simp only [List.getD_cons_zero] at h0
   cases a<;>cases b<;>simp_all<;>omega
theorem vY(U:List Bool)(t y:Nat)(x:Bool):(U.set t x).getD y false=if t=y∧t<U.length then x else U.getD y false:=by
 simp only [List.getD_eq_getElem?_getD,List.getElem?_set];by_cases h:t=y
 ·subst h;by_cases h2:t<U.length
  ·simp [h2]
  ·simp [h2]
 ·simp [h]
section
variable {both:Bool}{cnts:List Bool}{n:Nat}{es:List (Int×Int)}
theorem dr(U:List Bool)(i:Nat):Leq U (uY both cnts es U i):=by
 intro j hj;unfold uY;generalize (es.getD i (0,0)).1.toNat=t;generalize (es.getD i (0,0)).2.toNat=u
 split
 ·rw [vY];have e2:(U.set u true).getD j false=true:=by rw [vY];split<;>simp_all
  split
  ·rename_i h;rw [h.1,e2];rfl
  ·exact e2
 ·exact hj
theorem JF(U:List Bool)(k d:Nat):Leq (vQ both cnts es U k) (vQ both cnts es U (k+d)):=by
 induction d with
 | zero=>exact Leq.refl _
 | succ d ih=>rw [←Nat.add_assoc,kj];exact ih.trans (dr _ _)
theorem dt{U:List Bool}(h:vQ both cnts es U es.length=U)(i:Nat)(hi:i<es.length):uY both cnts es U i=U:=by
 have at_:∀k,k≤es.length→vQ both cnts es U k=U:=by
  intro k hk;refine Leq.antisymm ?_ ?_ (kg ..)
  ·have:=JF (both:=both) (cnts:=cnts) (es:=es) U k (es.length-k);rw [show k+(es.length-k)=es.length by omega,h] at this;exact this
  ·have:=JF (both:=both) (cnts:=cnts) (es:=es) U 0 k;rw [Nat.zero_add] at this;exact this
 have:=at_ (i+1) (by omega);rw [kj,at_ i (by omega)] at this;exact this
theorem oS(U:List Bool)(hU:0<U.count true):vQ both cnts es (goN both cnts es U U.length) es.length=goN both cnts es U U.length:=by
 have key:∀r,vQ both cnts es (goN both cnts es U r) es.length=goN both cnts es U r∨r+1≤(goN both cnts es U r).count true:=by
  intro r
  induction r with
  | zero=>right;exact hU
  | succ r ih=>
   rw [QJ];by_cases he:vQ both cnts es (goN both cnts es U r) es.length=goN both cnts es U r
   ·left;rw [he,he]
   ·right
    have h1:=ih.resolve_left he
    have h2:=(mM (l:=goN both cnts es U r) (l':=vQ both cnts es (goN both cnts es U r) es.length) (by rw [kg]) (by
     have:=JF (both:=both) (cnts:=cnts) (es:=es) (goN both cnts es U r) 0 es.length
     rw [Nat.zero_add] at this;exact this)).2 (fun e=>he e.symm)
    omega
 rcases key U.length with h | h
 ·exact h
 ·exfalso;have:=List.count_le_length (a:=true) (l:=goN both cnts es U U.length);rw [JG] at this;omega
theorem WU{f:Nat}(hin:InN n es)(U:List Bool)(hU:∀y,U.getD y false=true→Star (zZ both (fun i=>cnts.getD i false) es) f y)(i:Nat)(hi:i<es.length) :
  ∀y,(uY both cnts es U i).getD y false=true→Star (zZ both (fun i=>cnts.getD i false) es) f y:=by
 intro y hy;obtain ⟨t,u,e,ht,hu⟩:=hin.at_ hi;rw [Vz hi (t:=t) (h:=u) (by rw [e]) (by rw [e])] at hy
 split at hy
 ·rename_i hc;simp only [Bool.and_eq_true,Bool.or_eq_true] at hc;obtain ⟨hc,had⟩:=hc;have fwd:zZ both (fun i=>cnts.getD i false) es t u:=⟨i,hi,hc,.inl e⟩;have back:both=true→zZ both (fun i=>cnts.getD i false) es u t:=fun hb=>⟨i,hi,hc,.inr ⟨hb,e⟩⟩
  have su:Star (zZ both (fun i=>cnts.getD i false) es) f u:=by
   rcases had with ha | ⟨_,hd⟩
   ·exact (hU t ha).trans (.one fwd)
   ·exact hU u hd
  have hset:∀z,(U.set u true).getD z false=true→Star (zZ both (fun i=>cnts.getD i false) es) f z:=by
   intro z hz;rw [vY] at hz
   split at hz
   ·rename_i h;rw [←h.1];exact su
   ·exact hU z hz
  rw [vY] at hy
  split at hy
  ·rename_i h;rw [←h.1];simp only [Bool.or_eq_true] at hy;rcases hy with hy | hb
   ·exact hset t hy
   ·exact su.trans (.one (back hb))
  ·exact hset y hy
 ·exact hU y hy
theorem ir{f:Nat}(hin:InN n es)(hf:f<n)(y:Nat) :
  (JN both cnts es n f).getD y false=true↔Star (zZ both (fun i=>cnts.getD i false) es) f y:=by
 have hl0:(zK n f).length=n:=by simp [zK]
 have hi0:∀y,(zK n f).getD y false=true→f=y:=by
  intro y h;unfold zK at h;rw [vY] at h
  split at h
  ·rename_i h2;exact h2.1
  ·rw [List.getD_eq_getElem?_getD,List.getElem?_replicate] at h
   split at h<;>simp at h
 have hf0:(zK n f).getD f false=true:=by
  unfold zK;rw [vY,if_pos ⟨rfl,by simpa using hf⟩]
 constructor
 ·have pass:∀U,(∀y,U.getD y false=true→Star (zZ both (fun i=>cnts.getD i false) es) f y) → ∀k,k≤es.length → ∀y,(vQ both cnts es U k).getD y false=true→Star (zZ both (fun i=>cnts.getD i false) es) f y:=by
   intro U hU k hk
   induction k with
   | zero=>exact hU
   | succ k ih=>rw [kj];exact WU hin _ (ih (by omega)) k (by omega)
  have all:∀r y,(goN both cnts es (zK n f) r).getD y false=true→Star (zZ both (fun i=>cnts.getD i false) es) f y:=by
   intro r
   induction r with
   | zero=>intro y h;rw [←hi0 y h];exact .refl _
   | succ r ih=>rw [QJ];exact pass _ ih _ (Nat.le_refl _)
  exact all n y
 ·intro h
  have hfix:=oS (both:=both) (cnts:=cnts) (es:=es) (zK n f) (by
   rw [List.count_pos_iff];rw [List.getD_eq_getElem?_getD,List.getElem?_eq_getElem (by rw [hl0];exact hf)] at hf0
   exact List.mem_of_getElem hf0)
  rw [hl0] at hfix;have hst:=fun i hi=>dt hfix i hi
  have hmono:∀r,Leq (zK n f) (goN both cnts es (zK n f) r):=by
   intro r
   induction r with
   | zero=>exact Leq.refl _
   | succ r ih=>
    rw [QJ];have:=JF (both:=both) (cnts:=cnts) (es:=es) (goN both cnts es (zK n f) r) 0 es.length;rw [Nat.zero_add] at this;exact ih.trans this
  have hF:(JN both cnts es n f).getD f false=true:=hmono n f hf0;have hlF:(goN both cnts es (zK n f) n).length=n:=by rw [JG,hl0]
  refine Star.inv (P:=fun y=>(JN both cnts es n f).getD y false=true) ?_ h hF;intro x z ⟨i,hi,hc,hxz⟩ hx
  replace hc:cnts.getD i false=true:=hc
  have hs:=hst i hi;obtain ⟨t,u,e,ht,hu⟩:=hin.at_ hi;rw [Vz hi (t:=t) (h:=u) (by rw [e]) (by rw [e])] at hs;unfold JN at hx ⊢;generalize goN both cnts es (zK n f) n=V at *;rw [e] at hxz;rcases hxz with h1 | ⟨hb,h1⟩
  ·simp only [Prod.mk.injEq] at h1;obtain rfl:t=x:=by omega
   obtain rfl:u=z:=by omega
   rw [if_pos (by rw [hc,hx];rfl)] at hs;rw [←hs,vY];have e2:(V.set u true).getD u false=true:=by rw [vY,if_pos ⟨rfl,by omega⟩]
   split
   ·rename_i h;rw [h.1,e2];rfl
   ·exact e2
  ·simp only [Prod.mk.injEq] at h1;obtain rfl:t=z:=by omega
   obtain rfl:u=x:=by omega
   rw [if_pos (by rw [hc,hx,hb];simp)] at hs;rw [←hs,vY,if_pos ⟨rfl,by simp;omega⟩,hb];simp
end
end Go.Proofs.YtneeknlhlkpnpaaGreat
namespace Go.Proofs.YtneeknlhlkpnpaaGreat
open Go.RowKit
def vH(wo:Nat)(es:List (Int×Int))(i:Nat):Bool:=!yP wo (es.getD i (0,0)).1 && !yP wo (es.getD i (0,0)).2
theorem ZY(u:World)(args:Array Value):(callFunc 140 args).run Tryz.prog u = .ok (.enter 140 args) u:=by go_simp
def iU(p:Bool)(w:World)(e:Ending)(w':World):Prop:=e = .returned (.bool p) ∧ ∃m,w'=w.drewN m
theorem GG{s:Nat}{x:Int}{p:Bool}(w:World)(h:yP s x=p)(hs:s<18446744073709551616) :
  Calls Tryz.prog 141 #[.int .u64 s,.int .i64 x] w fun e w'=>e = .returned (.bool p)∧w=w':=by
 subst h;exact eZ s x w hs
set_option maxHeartbeats 400000 in
theorem GZ(i:Nat)(b c:Nat)(wo:Nat)(hwo:wo<18446744073709551616)(A:Option Addr)(cap:Nat)(es:List (Int×Int))(w:World)(B:Nat)(hes:jr w B A (jA es))(hi:i<es.length)(hlen:es.length≤1000)
  (hb:w.cell? ⟨b,0,none⟩=some (.int .u64 wo)) (hc:w.cell? ⟨c,1,none⟩=some (.slice A es.length cap)) :
  Calls Tryz.prog 140 #[.int .i64 i,.pointer (some ⟨b,0,none⟩),.pointer (some ⟨c,0,none⟩)] w (iU (vH wo es i) w):=by
 obtain ⟨bb,off,rfl,hbb,hcc⟩:=hes.edges (by omega);obtain ⟨c0,c1⟩:=hcc i hi;clear hcc hes;have hid:((i:Nat):Int)<es.length:=by omega
 have e0:es.getD i (0,0)=es[i]:=by simp [hi]
 have W:vH wo es i=(!yP wo es[i].1 && !yP wo es[i].2):=by unfold vH;rw [e0]
 have HW:=Lib.hid W;clear W e0;generalize es[i].1=x at *;generalize es[i].2=y at *
 cases hx:yP wo x with
 | true=>
  rw [hx] at HW;have Hx:=Lib.hid hx;clear hx
  go_enter Tryz.func140,Tryz.ntmps140
  go_wp2_with fail
  go_quiet ((go_at_call_of 141 (Value.int .i64 x);exact YI (GG _ Hx.out hwo)))
  go_wp2_with fail;go_ret;exact ⟨by rw [HW.out];rfl,_,rfl⟩
 | false=>
  rw [hx] at HW;have Hx:=Lib.hid hx;clear hx
  go_enter Tryz.func140,Tryz.ntmps140
  go_wp2_with fail
  go_quiet ((first | (go_at_call_of 141 (Value.int .i64 x);exact YI (GG _ Hx.out hwo)) | (go_at_call_of 141 (Value.int .i64 y);exact YI (eZ wo y _ hwo))))
  go_wp2_with fail;go_ret;exact ⟨by rw [HW.out];rfl,_,rfl⟩
def Vn(T:List Nat)(st:List Nat×Nat)(x:Nat):List Nat×Nat:=if yP st.2 x then st else (st.1++[T.getD x 0],st.2 ||| T.getD x 0)
def qp(T:List Nat)(wo k:Nat):List Nat×Nat:=(List.range k).foldl (Vn T) ([],wo)
theorem Qh(T:List Nat)(wo k:Nat):qp T wo (k+1)=Vn T (qp T wo k) k:=by
 unfold qp;rw [List.range_succ,List.foldl_append];rfl
theorem xi(T:List Nat)(wo k:Nat):qp T wo (k+1) =
  if yP (qp T wo k).2 k then ((qp T wo k).1,(qp T wo k).2) else ((qp T wo k).1++[T.getD k 0],(qp T wo k).2 ||| T.getD k 0):=by
 rw [Qh];rfl
theorem WN{S T:List Nat}(h:GrowOk S T){wo:Nat}(hwo:wo<18446744073709551616)(k:Nat):(qp T wo k).2<18446744073709551616∧(qp T wo k).1.length≤k:=by
 induction k with
 | zero=>exact ⟨hwo,Nat.le_refl _⟩
 | succ k ih=>
  rw [Qh];unfold Vn
  split
  ·exact ⟨ih.1,by omega⟩
  ·exact ⟨fH ih.1 (h.at_ k),by simp;omega⟩
def VH(n:Int)(es:List (Int×Int))(wo:Nat)(w:World)(e:Ending)(w':World):Prop:=
 ∃v,e = .returned v∧Below w.heap.size w w'∧(vj n es=true → ∃T,KV true (vH wo es) n.toNat es T ∧
  w'.ownsRow w.heap.size 157 1 v (qp T wo n.toNat).1.length (xE (qp T wo n.toNat).1))∧(vj n es=false→v = .slice none 0 0)
set_option maxHeartbeats 400000 in
theorem lV(n:Int)(A:Option Addr)(cap:Nat)(es:List (Int×Int))(wo:Nat)(w:World)(hes:jr w w.heap.size A (jA es))(hm:vj n es=false) :
  Calls Tryz.prog 106 #[.agg #[.int .i64 n,.slice A es.length cap],.int .u64 wo] w (VH n es wo w):=by
 have Hm:=Lib.hid hm;clear hm
 go_enter Tryz.func106,Tryz.ntmps106
 go_wp2_with fail;refine (bS n A cap es _ (((hes.alloc (Nat.le_refl _) _).alloc (by simp) _).more (by simp;omega))).mono ?_;rintro e w' ⟨v,rfl,hb,_,hv⟩;rw [hv Hm.out];clear hv;go_wp2_with fail;go_ret;exact ⟨_,rfl,(((Below.refl _ _).alloc (Nat.le_refl _) _).alloc (by simp) _).trans (hb.mono (by simp;omega)),pL Hm.out,fun _=>rfl⟩
set_option maxHeartbeats 1000000 in
theorem gR(n:Nat)(A:Option Addr)(cap:Nat)(es:List (Int×Int))(wo:Nat)(hwo:wo<18446744073709551616)(w:World)(hes:jr w w.heap.size A (jA es))(hm:vj n es=true) :
  Calls Tryz.prog 106 #[.agg #[.int .i64 n,.slice A es.length cap],.int .u64 wo] w (VH n es wo w):=by
 obtain ⟨hn0,hn1,hn2⟩:=jP hm;have Hin:=Lib.hid (XD hm);have Hm:=Lib.hid hm;clear hm
 go_enter Tryz.func106,Tryz.ntmps106
 go_wp2_with fail;have b0:((w.alloc (.cells #[.int .i64 n,.slice A es.length cap] 24)).alloc (.cells #[.int .u64 wo] 157)).cell? ⟨w.heap.size,0,none⟩=some (.int .i64 n):=by simp [go_sem]
 have b1:((w.alloc (.cells #[.int .i64 n,.slice A es.length cap] 24)).alloc (.cells #[.int .u64 wo] 157)).cell? ⟨w.heap.size,1,none⟩=some (.slice A es.length cap):=by simp [go_sem]
 have b2:((w.alloc (.cells #[.int .i64 n,.slice A es.length cap] 24)).alloc (.cells #[.int .u64 wo] 157)).cell? ⟨w.heap.size+1,0,none⟩=some (.int .u64 wo):=by simp [go_sem]
 have hbw:=((Below.refl w.heap.size w).alloc (Nat.le_refl _) (.cells #[.int .i64 n,.slice A es.length cap] 24)).alloc (by simp) (.cells #[.int .u64 wo] 157);have s1:((w.alloc (.cells #[.int .i64 n,.slice A es.length cap] 24)).alloc (.cells #[.int .u64 wo] 157)).heap.size=w.heap.size+2:=by simp
 generalize (w.alloc (.cells #[.int .i64 n,.slice A es.length cap] 24)).alloc (.cells #[.int .u64 wo] 157)=w1 at *;have hes1:=hes.below hbw;have l1:w.heap.size+1<w1.heap.size:=by omega
 have S1:=Lib.hid s1;clear s1;refine (bS n A cap es w1 (hes1.more (by omega))).mono ?_;rintro e w2 ⟨v,rfl,hb,hv,_⟩;obtain ⟨g,cap2,R,rfl,hg,hblk,hR,hc1,hc2,hc3⟩:=xO (hv Hm.out) (by omega);clear hv;have b0':=(hb.cell (p:=⟨w.heap.size,0,none⟩) (by simp;omega)).trans b0;have b1':=(hb.cell (p:=⟨w.heap.size,1,none⟩) (by simp;omega)).trans b1;have b2':=(hb.cell (p:=⟨w.heap.size+1,0,none⟩) l1).trans b2;have hes2:=hes1.keep (w':=w2) (fun p hp=>hb.cell (by omega));have hs2:=hb.size;clear hR hc1 hc2 hc3 b0 b1 b2;go_wp2_with fail;refine (bE n A cap cap2 es true (vH wo es) _ _ g n (uK n) R _ w.heap.size hes2 (by omega) (by omega) hblk Hin.out (mI n (by omega)) (kG n) ZY ?_).mono ?_
 ·intro k w' h0 h1 hg2;obtain ⟨k,rfl⟩:=Int.eq_ofNat_of_zero_le h0;rw [show ((k:Nat):Int).toNat=k from rfl];exact GZ k (w.heap.size+1) w.heap.size wo hwo A cap es w' w.heap.size (hes2.keep (fun p hp=>hg2.cell_far p (by omega) (by simp;omega))) (by omega) (by omega) ((hg2.cell_far _ (by simp;omega) (by simp;omega)).trans b2') ((hg2.cell_far _ (by simp;omega) (by simp;omega)).trans b1')
 rintro e w3 ⟨rfl,hgr,T,hT,hok,hto,hfix⟩;have hTl:T.length=n:=by rw [hok.len,kG]
 have b2'':=(hgr.cell_far ⟨w.heap.size+1,0,none⟩ (by simp;omega) (by simp;omega)).trans b2';have HP:=Lib.hid (show KV true (vH wo es) n es T from ⟨hok,hto,hfix⟩);have hb3:=hbw.trans ((hb.mono (by omega)).grown hgr (by omega) (fun k hk=>by injection hk;omega));have hs3:=hgr.size;clear hto hfix hgr hes2 hes1 b0' b1' b2';go_wp2_with fail
 go_loopg [4,6,21] n (fun k s4 s6 s21 wr=>∃i:Nat,s21 = .int .i64 i∧i≤n∧k=n-i∧Below w3.heap.size w3 wr∧s6 = .int .u64 ((qp T wo i).2:Nat)∧wr.ownsRow w3.heap.size 157 1 s4 (qp T wo i).1.length (xE (qp T wo i).1))
 case atStart=>exact ⟨0,rfl,Nat.zero_le _,rfl,Below.refl _ _,rfl,World.ownsRow_nil _ _ _ _⟩
 case round=>
  obtain ⟨i,rfl,hi,hk,hb4,rfl,hown⟩:=hrel;have Hk:=Lib.hid hk;clear hk;obtain ⟨d1,d2⟩:=WN hok hwo i;have PS:=Lib.hid (xi T wo i);have hbs:=hb4.size;by_cases hlt:i<n
  ·have ut:=(hb4.cell (p:=⟨g,i,none⟩) hT.lt).trans ((hT.cell i).trans (Gi T R i (by omega)));have uu:=hok.at_ i;generalize (qp T wo i).2=d at *;generalize (qp T wo i).1=l at *;generalize T.getD i 0=a at *;have eo:=u64_or_nat d a d1 uu;go_wp2_with fail
   cases hB:yP d i with
   | true=>
    rw [hB] at PS;refine (GG _ hB d1).mono ?_;rintro e w' ⟨rfl,rfl⟩;clear hB;go_wp2_with fail
    go_roundg (n-(i+1))
    case measure=>rw [Hk.out];omega
    case rel=>exact ⟨i+1,by go_num,by omega,rfl,hb4,by rw [PS.out];rfl,by rw [PS.out];exact hown⟩
   | false=>
    rw [hB] at PS;refine (GG _ hB d1).mono ?_;rintro e w' ⟨rfl,rfl⟩;clear hB;go_wp2_with (at_builtin;refine yC fb rfl _ _ rfl w3.heap.size u4 _ _ rfl wr.heap.size [.int .u64 (a:Int)] rfl rfl hown rfl rfl ?h2 ?h3 ?h4 ?_)
    case h2=>omega
    case h3=>omega
    case h4=>omega
    intro v' w' hown' hg' _;have hb':=qb hb4 hown hg' (by omega) (Nat.le_refl _);clear hown hg' hb4;go_wp2_with fail
    go_roundg (n-(i+1))
    case measure=>rw [Hk.out];omega
    case rel=>exact ⟨i+1,by go_num,by omega,rfl,hb',by rw [PS.out];rfl,by rw [PS.out];simpa [xE] using hown'⟩
  ·have hie:i=n:=by omega
   subst hie;go_wp2_with fail;go_ret;exact ⟨_,rfl,hb3.trans (hb4.mono (by omega)),fun _=>⟨T,HP.out,qh hown (by omega)⟩,oI Hm.out⟩
theorem gT(n:Int)(A:Option Addr)(cap:Nat)(es:List (Int×Int))(wo:Nat)(hwo:wo<18446744073709551616)(w:World)(hes:jr w w.heap.size A (jA es)) :
  Calls Tryz.prog 106 #[.agg #[.int .i64 n,.slice A es.length cap],.int .u64 wo] w (VH n es wo w):=by
 cases hm:vj n es with
 | false=>exact lV n A cap es wo w hes hm
 | true=>
  obtain ⟨n,rfl⟩:=Int.eq_ofNat_of_zero_le (Int.le_of_lt (jP hm).1);exact gR n A cap es wo hwo w hes hm
end Go.Proofs.YtneeknlhlkpnpaaGreat
namespace Go.Proofs.YtneeknlhlkpnpaaGreat
open Go.RowKit
theorem zZ.congr{both:Bool}{c d:Nat→Bool}{es:List (Int×Int)}(h:∀i,i<es.length→c i=d i){x y:Nat}:zZ both c es x y→zZ both d es x y:=
 fun ⟨i,hi,hc,r⟩=>⟨i,hi,by rw [←h i hi];exact hc,r⟩
theorem Star.congr{both:Bool}{c d:Nat→Bool}{es:List (Int×Int)}(h:∀i,i<es.length→c i=d i){x y:Nat}:Star (zZ both c es) x y↔Star (zZ both d es) x y:=
 ⟨fun s=>s.mono fun _ _ e=>e.congr h,fun s=>s.mono fun _ _ e=>e.congr fun i hi=>(h i hi).symm⟩
theorem vT{s x n:Nat}(hx:x<n)(hn:n≤64):yP s x=s.testBit x:=by
 unfold yP;rw [decide_eq_true (by omega),decide_eq_true (by omega)];simp
end Go.Proofs.YtneeknlhlkpnpaaGreat
namespace Go.Proofs.YtneeknlhlkpnpaaGreat
open Go.RowKit
theorem mj(seen:List Bool)(n j:Nat)(hj:j≤n):(∃y:Nat,n-j≤y∧y<n∧seen.getD y false=true∧lst seen true n j=y ∧ ∀z,n-j≤z→z<y→seen.getD z false=false)∨(lst seen true n j = -1 ∧ ∀z,n-j≤z→z<n→seen.getD z false=false):=by
 induction j with
 | zero=>exact .inr ⟨rfl,fun z h1 h2=>by omega⟩
 | succ j ih=>
  have e:n-1-j=n-(j+1):=by omega
  cases hs:seen.getD (n-(j+1)) false with
  | true=>
   refine .inl ⟨n-(j+1),Nat.le_refl _,by omega,hs,?_,fun z h1 h2=>by omega⟩;unfold lst;rw [e,hs];rfl
  | false=>
   have e2:lst seen true n (j+1)=lst seen true n j:=by
    conv=>lhs;unfold lst
    rw [e,hs];rfl
   rw [e2];rcases ih (by omega) with ⟨y,h1,h2,h3,h4,h5⟩ | ⟨h1,h2⟩
   ·refine .inl ⟨y,by omega,h2,h3,h4,fun z g1 g2=>?_⟩;by_cases hz:z=n-(j+1)
    ·rw [hz];exact hs
    ·exact h5 z (by omega) g2
   ·refine .inr ⟨h1,fun z g1 g2=>?_⟩;by_cases hz:z=n-(j+1)
    ·rw [hz];exact hs
    ·exact h2 z (by omega) g2
theorem pM(seen:List Bool)(n j:Nat):lst seen false n j = -1:=by
 induction j with
 | zero=>rfl
 | succ j ih=>unfold lst;simp [ih]
section
variable {n:Nat}{es:List (Int×Int)}{wo:Nat}{woL:List Bool}
def Kin(wo:Nat)(es:List (Int×Int)):Nat→Nat→Prop:=Star (zZ true (vH wo es) es)
theorem zZ.symm{cnt:Nat→Bool}{x y:Nat}(h:zZ true cnt es x y):zZ true cnt es y x:=by
 obtain ⟨i,hi,hc,h⟩:=h;exact ⟨i,hi,hc,h.elim (fun e=>.inr ⟨rfl,e⟩) (fun e=>.inl e.2)⟩
theorem Kin.symm{x y:Nat}(h:Kin wo es x y):Kin wo es y x:=Star.sym (fun _ _ e=>e.symm) h
theorem mJ{T:List Nat}(hin:InN n es)(hn:n≤64)(hT:KV true (vH wo es) n es T)(x:Nat)(hx:x≤n)(y:Nat)(hy:y<n) :
  yP (qp T wo x).2 y=true↔wo.testBit y=true ∨ ∃z,z<x∧wo.testBit z=false∧Kin wo es z y:=by
 obtain ⟨_,h1⟩:=io hin hT
 induction x with
 | zero=>
  rw [vT hy hn];exact ⟨.inl,fun h=>h.resolve_right fun ⟨z,hz,_⟩=>by omega⟩
 | succ x ih=>
  have ih:=ih (by omega)
  have ihx:yP (qp T wo x).2 x=true↔wo.testBit x=true ∨ ∃z,z<x∧wo.testBit z=false∧Kin wo es z x:=by
   clear ih
   have key:∀k,k≤x → ∀y,y<n→(yP (qp T wo k).2 y=true↔wo.testBit y=true ∨ ∃z,z<k∧wo.testBit z=false∧Kin wo es z y):=by
    intro k
    induction k with
    | zero=>
     intro _ y hy;rw [vT hy hn];exact ⟨.inl,fun h=>h.resolve_right fun ⟨z,hz,_⟩=>by omega⟩
    | succ k ihk=>
     intro hk y hy;have a1:=ihk (by omega) y hy;have a2:=ihk (by omega) k (by omega);rw [xi];by_cases hd:yP (qp T wo k).2 k=true
     ·rw [if_pos hd];refine a1.trans ⟨fun h=>h.imp id fun ⟨z,hz,r⟩=>⟨z,by omega,r⟩,fun h=>?_⟩;rcases h with h | ⟨z,hz,hw,hk2⟩
      ·exact .inl h
      ·by_cases hzk:z=k
       ·subst hzk;rcases a2.1 hd with h3 | ⟨z',hz',hw',hk'⟩
        ·rw [hw] at h3;cases h3
        ·exact .inr ⟨z',hz',hw',hk'.trans hk2⟩
       ·exact .inr ⟨z,by omega,hw,hk2⟩
     ·rw [if_neg hd]
      have hb:yP ((qp T wo k).2 ||| T.getD k 0) y=(yP (qp T wo k).2 y||(T.getD k 0).testBit y):=by
       rw [vT hy hn,vT hy hn,Nat.testBit_or]
      simp only [hb,Bool.or_eq_true,h1 k (by omega)];constructor
      ·rintro (h | h)
       ·exact (a1.1 h).imp id fun ⟨z,hz,r⟩=>⟨z,by omega,r⟩
       ·refine .inr ⟨k,by omega,?_,h⟩
        cases hwk:wo.testBit k with
        | false=>rfl
        | true=>exact absurd (a2.2 (.inl hwk)) hd
      ·rintro (h | ⟨z,hz,hw,hk2⟩)
       ·exact .inl (a1.2 (.inl h))
       ·by_cases hzk:z=k
        ·subst hzk;exact .inr hk2
        ·exact .inl (a1.2 (.inr ⟨z,by omega,hw,hk2⟩))
   exact key x (Nat.le_refl _) x (by omega)
  rw [xi];by_cases hd:yP (qp T wo x).2 x=true
  ·rw [if_pos hd];refine ih.trans ⟨fun h=>h.imp id fun ⟨z,hz,r⟩=>⟨z,by omega,r⟩,fun h=>?_⟩;rcases h with h | ⟨z,hz,hw,hk2⟩
   ·exact .inl h
   ·by_cases hzk:z=x
    ·subst hzk;rcases ihx.1 hd with h3 | ⟨z',hz',hw',hk'⟩
     ·rw [hw] at h3;cases h3
     ·exact .inr ⟨z',hz',hw',hk'.trans hk2⟩
    ·exact .inr ⟨z,by omega,hw,hk2⟩
  ·rw [if_neg hd]
   have hb:yP ((qp T wo x).2 ||| T.getD x 0) y=(yP (qp T wo x).2 y||(T.getD x 0).testBit y):=by
    rw [vT hy hn,vT hy hn,Nat.testBit_or]
   simp only [hb,Bool.or_eq_true,h1 x (by omega)];constructor
   ·rintro (h | h)
    ·exact (ih.1 h).imp id fun ⟨z,hz,r⟩=>⟨z,by omega,r⟩
    ·refine .inr ⟨x,by omega,?_,h⟩
     cases hwk:wo.testBit x with
     | false=>rfl
     | true=>exact absurd (ihx.2 (.inl hwk)) hd
   ·rintro (h | ⟨z,hz,hw,hk2⟩)
    ·exact .inl (ih.2 (.inl h))
    ·by_cases hzk:z=x
     ·subst hzk;exact .inr hk2
     ·exact .inl (ih.2 (.inr ⟨z,by omega,hw,hk2⟩))
theorem gj(hin:InN n es)(hn:n≤64)(hwl:∀x,x<n→woL.getD x false=wo.testBit x){x:Nat}(hx:x<n)(z:Nat)(hz:z<n) :
  YX woL es n x=z↔wo.testBit x=false∧Kin wo es x z ∧ ∀y,y<z → ¬Kin wo es x y:=by
 have hseen:∀y,(JN true (kJ woL es) es n x).getD y false=true↔Kin wo es x y:=by
  intro y;rw [ir hin hx];refine Star.congr fun i hi=>?_;obtain ⟨t,u,e,ht,hu⟩:=hin.at_ hi;have e0:es.getD i (0,0)=((t:Int),(u:Int)):=by simp [hi,e]
  have e1:(kJ woL es).getD i false=Ux woL es i:=by simp [kJ,hi]
  rw [e1];unfold Ux vH;rw [e0,vT ht hn,vT hu hn]
  show (!woL.getD t false && !woL.getD u false)=_
  rw [hwl t ht,hwl u hu]
 unfold YX;rw [hwl x hx]
 cases hw:wo.testBit x with
 | true=>
  rw [show (!true)=false from rfl,pM];exact ⟨fun h=>by omega,fun h=>by cases h.1⟩
 | false=>
  rw [show (!false)=true from rfl];rcases mj (JN true (kJ woL es) es n x) n n (Nat.le_refl _) with ⟨y,_,hy,hs,he,hmin⟩ | ⟨he,hno⟩
  ·rw [he];constructor
   ·intro h;obtain rfl:y=z:=by omega
    refine ⟨rfl,(hseen y).1 hs,fun k hk hkin=>?_⟩;have:=hmin k (by omega) hk;rw [(hseen k).2 hkin] at this
    cases this
   ·rintro ⟨_,hkin,hz2⟩
    have h1:¬z<y:=fun h=>by
     have:=hmin z (by omega) h;rw [(hseen z).2 hkin] at this
     cases this
    have h2:¬y<z:=fun h=>hz2 y h ((hseen y).1 hs);omega
  ·exfalso;have:=hno x (by omega) hx;rw [(hseen x).2 (.refl _)] at this
   cases this
end
end Go.Proofs.YtneeknlhlkpnpaaGreat
