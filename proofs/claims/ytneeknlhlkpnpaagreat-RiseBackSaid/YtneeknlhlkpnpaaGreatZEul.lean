import Derived.Test.YtneeknlhlkpnpaaGreatZGol
import Derived.Test.YtneeknlhlkpnpaaGreatZReg
import Derived.Lib.AppendZerosOnto
import Derived.Test.YtneeknlhlkpnpaaGreatZVw
/-
 Package rotation: vertex, Right: what they compute. Written by an AI agent.
-/
namespace Go.Proofs.YtneeknlhlkpnpaaGreat
open Go.RowKit
def qm(w:World)(B:Nat)(A:Option Addr)(rs:List (List Int)):Prop:=
 0<rs.length → ∃b off,A=some ⟨b,off,none⟩∧b<B ∧ ∀i (h:i<rs.length),∃Ai ci,w.cell? ⟨b,off+i,none⟩=some (.slice Ai rs[i].length ci)∧jr w B Ai (jf rs[i])
section
variable {w w':World}{B B':Nat}{A:Option Addr}{rs:List (List Int)}
theorem qm.keep(h:qm w B A rs)(hk:∀p:Addr,p.block<B→w'.cell? p=w.cell? p):qm w' B A rs:=fun hn=>by
 obtain ⟨b,off,e,hb,hc⟩:=h hn;refine ⟨b,off,e,hb,fun i hi=>?_⟩;obtain ⟨Ai,ci,h1,h2⟩:=hc i hi;exact ⟨Ai,ci,(hk _ (by exact hb)).trans h1,h2.keep hk⟩
theorem qm.more(h:qm w B A rs)(hB:B≤B'):qm w B' A rs:=fun hn=>by
 obtain ⟨b,off,e,hb,hc⟩:=h hn;refine ⟨b,off,e,by omega,fun i hi=>?_⟩;obtain ⟨Ai,ci,h1,h2⟩:=hc i hi;exact ⟨Ai,ci,h1,h2.more hB⟩
theorem qm.below(h:qm w B A rs)(hb:Below B w w'):qm w' B A rs:=h.keep fun _ hp=>hb.cell hp
end
def atE(es:List (Int×Int))(h:Nat):Int:=if h%2=0 then (es.getD (h/2) (0,0)).1 else (es.getD (h/2) (0,0)).2
theorem cK(n:Int)(A:Option Addr)(cap:Nat)(es:List (Int×Int))(h:Nat)(w:World)(hes:jr w w.heap.size A (jA es))(hh:h<2*es.length)(hlen:es.length≤1000) :
  Calls Tryz.prog 119 #[.agg #[.int .i64 n,.slice A es.length cap],.int .i64 h] w (fun e w'=>e = .returned (.int .i64 (atE es h))∧Below w.heap.size w w'):=by
 obtain ⟨b,off,rfl,hb,hc⟩:=hes.edges (by omega);have hk:h/2<es.length:=by omega
 obtain ⟨c0,c1⟩:=hc (h/2) hk;clear hc;have e0:es.getD (h/2) (0,0)=es[h/2]:=by simp [hk]
 have ha:atE es h=if h%2=0 then es[h/2].1 else es[h/2].2:=by unfold atE;rw [e0]
 have Ha:=Lib.hid ha;clear ha e0;generalize es[h/2].1=t at *;generalize es[h/2].2=u at *;have hq:Int.tdiv (h:Int) 2=((h/2:Nat):Int):=by rw [Int.tdiv_eq_ediv_of_nonneg (by omega)];simp
 have hk':((h/2:Nat):Int)<es.length:=by omega
 have hbw:=(Below.refl w.heap.size w).alloc (Nat.le_refl _) (.cells #[.int .i64 n,.slice (some ⟨b,off,none⟩) es.length cap] 24);by_cases h2:h%2=0
 ·have hr:Int.tmod (h:Int) 2=0:=by rw [Int.tmod_eq_emod_of_nonneg (by omega)];omega
  rw [if_pos h2] at Ha
  go_enter Tryz.func119,Tryz.ntmps119
  go_wp2_with fail;go_ret;exact ⟨vP Ha.out.symm,hbw.alloc hbw.size _⟩
 ·have hr:Int.tmod (h:Int) 2=1:=by rw [Int.tmod_eq_emod_of_nonneg (by omega)];omega
  rw [if_neg h2] at Ha
  go_enter Tryz.func119,Tryz.ntmps119
  go_wp2_with fail;go_ret;exact ⟨vP Ha.out.symm,hbw.alloc hbw.size _⟩
theorem Ul(A:Option Addr)(cap:Nat)(l:List Bool)(v:Bool)(w:World)(hl:jr w w.heap.size A (jD l))(hlen:l.length≤100000) :
  Calls Tryz.prog 157 #[.slice A l.length cap,.bool v] w fun e w'=>∃r:Int,e = .returned (.int .i64 r)∧(0≤r↔v∈l) ∧ ∃m,w'=w.drewN m:=by
 go_enter Tryz.func157,Tryz.ntmps157
 go_wp2_with fail
 go_loopg [8] l.length (fun k s8 wr=>∃i m:Nat,s8 = .int .i64 i∧i≤l.length∧k=l.length-i∧wr=w.drewN m ∧ ∀j,j<i→l[j]? ≠ some v)
 case atStart=>exact ⟨0,0,rfl,Nat.zero_le _,rfl,rfl,fun j hj=>absurd hj (by omega)⟩
 case round=>
  obtain ⟨i,m,rfl,hi,hk,hwr,hno⟩:=hrel;have Hk:=Lib.hid hk;clear hk;have Hno:=Lib.hid hno;clear hno;by_cases hlt:i<l.length
  ·obtain ⟨b,off,rfl,hbb,hc⟩:=hl.bools (by omega);have c0:wr.cell? ⟨b,off+i,none⟩=some (.bool (l.getD i false)):=by rw [hwr];exact hc i hlt
   have Hwr:=Lib.hid hwr;clear hwr hc;have hl1:l[i]? = some (l.getD i false):=by rw [List.getD_eq_getElem?_getD,List.getElem?_eq_getElem hlt];rfl
   have Hl1:=Lib.hid hl1;clear hl1;have hlt':(i:Int)<l.length:=by omega
   generalize l.getD i false=u at *;by_cases huv:v=u
   ·subst huv;have hE:=Lib.hid (List.mem_of_getElem? Hl1.out);have hb:(v==v)=true:=by simp
    go_wp2_with fail;go_ret;exact ⟨i,rfl,⟨fun _=>hE.out,fun _=>by omega⟩,m,Hwr.out⟩
   ·have hb:(v==u)=false:=by simp [huv]
    go_wp2_with fail
    go_roundg (l.length-(i+1))
    case measure=>rw [Hk.out];omega
    case rel=>exact ⟨i+1,m,by go_num,by omega,rfl,Hwr.out,fun j hj=>by
     by_cases h:j=i
     ·rw [h,Hl1.out];exact fun e=>huv (by injection e with e;exact e.symm)
     ·exact Hno.out j (by omega)⟩
  ·have hn:v∉l:=fun h=>by
    obtain ⟨j,hj,he⟩:=List.mem_iff_getElem.1 h;exact Hno.out j (by omega) (by rw [List.getElem?_eq_getElem hj,he])
   have Hn:=Lib.hid hn;clear hn;have Hwr:=Lib.hid hwr;clear hwr;go_wp2_with fail;go_ret;exact ⟨-1,rfl,⟨fun h=>absurd h (by omega),fun h=>absurd h Hn.out⟩,m,Hwr.out⟩
theorem ZX(A:Option Addr)(cap:Nat)(l:List Bool)(v:Bool)(w:World)(hl:jr w w.heap.size A (jD l))(hlen:l.length≤100000) :
  Calls Tryz.prog 120 #[.slice A l.length cap,.bool v] w (KU (decide (v∈l)) w):=by
 have Hc:=Lib.hid (Ul A cap l v w hl hlen)
 go_enter Tryz.func120,Tryz.ntmps120
 go_wp2_with fail;refine Hc.out.mono ?_;rintro e w' ⟨r,rfl,hr,m,rfl⟩;have Hr:=Lib.hid hr;clear hr;go_wp2_with fail;go_ret;exact ⟨jx (by rw [decide_eq_decide];exact Hr.out),m,rfl⟩
def xK(es:List (Int×Int))(x:Nat)(st:Option (List Bool))(h:Int):Option (List Bool):=
 match st with
 | none=>none
 | some seen=>if h<0∨(seen.length:Int)≤h then none else if seen.getD h.toNat false=true then none else if atE es h.toNat≠x then none else some (seen.set h.toNat true)
def Js(es:List (Int×Int))(x:Nat)(st:Option (List Bool))(l:List Int):Option (List Bool):=l.foldl (xK es x) st
def Jt(es:List (Int×Int))(rs:List (List Int))(k:Nat):Option (List Bool):=(List.range k).foldl (fun st x=>Js es x st (rs.getD x [])) (some (List.replicate (2*es.length) false))
def yn(n:Int)(es:List (Int×Int))(rs:List (List Int)):Bool:=
 vj n es&&decide ((rs.length:Int)=n)&&match Jt es rs rs.length with | none=>false | some seen=>!decide (false∈seen)
theorem kc{es:List (Int×Int)}{x:Nat}(l:List Int):Js es x none l=none:=by
 unfold Js
 induction l with
 | nil=>rfl
 | cons a r ih=>exact ih
theorem kY(es:List (Int×Int))(rs:List (List Int))(k:Nat):Jt es rs (k+1)=Js es k (Jt es rs k) (rs.getD k []):=by
 unfold Jt;rw [List.range_succ,List.foldl_append];rfl
theorem Ka{es:List (Int×Int)}{x:Nat}{st:Option (List Bool)}(a b:List Int):Js es x st (a++b)=Js es x (Js es x st a) b:=by
 unfold Js;rw [List.foldl_append]
theorem UO{es:List (Int×Int)}{x i:Nat}{st:Option (List Bool)}{l:List Int}(h:i<l.length):Js es x st (l.take (i+1))=xK es x (Js es x st (l.take i)) l[i]:=by
 rw [List.take_succ_eq_append_getElem h,Ka];rfl
theorem UP{es:List (Int×Int)}{rs:List (List Int)}{k:Nat}(h:Jt es rs k=none):∀d,Jt es rs (k+d)=none
 | 0=>h
 | d+1=>by rw [←Nat.add_assoc,kY,UP h d,kc]
theorem XU{n:Int}{es:List (Int×Int)}{rs:List (List Int)}{x i:Nat}(hx:x<rs.length)(h:Js es x (Jt es rs x) (rs[x].take i)=none):yn n es rs=false:=by
 have h1:Jt es rs (x+1)=none:=by
  rw [kY,List.getD_eq_getElem?_getD,List.getElem?_eq_getElem hx]
  show Js es x (Jt es rs x) rs[x]=none
  rw [←List.take_append_drop i rs[x],Ka,h,kc]
 have h2:=UP h1 (rs.length-(x+1));rw [show x+1+(rs.length-(x+1))=rs.length by omega] at h2;unfold yn;rw [h2];simp
theorem gI{es:List (Int×Int)}{x:Nat}{s s':List Bool}{h:Int}(e:xK es x (some s) h=some s'):s'.length=s.length:=by
 unfold xK at e;simp only at e
 split at e
 ·cases e
 ·split at e
  ·cases e
  ·split at e
   ·cases e
   ·injection e with e;rw [←e];simp
set_option maxHeartbeats 2000000 in
theorem Vi(n:Int)(A C:Option Addr)(cap ccap:Nat)(es:List (Int×Int))(rs:List (List Int))(w:World)(hes:jr w w.heap.size A (jA es))(hrs:qm w w.heap.size C rs)(hr1:rs.length≤1000)(hr2:∀l∈rs,l.length≤1000) :
  Calls Tryz.prog 70 #[.agg #[.int .i64 n,.slice A es.length cap],.slice C rs.length ccap] w (fun e w'=>e = .returned (.bool (yn n es rs))∧Below w.heap.size w w'):=by
 go_enter Tryz.func70,Tryz.ntmps70
 go_wp2_with fail;have b0:=World.cell?_alloc_new w #[.int .i64 n,.slice A es.length cap] 24 0;have b1:=World.cell?_alloc_new w #[.int .i64 n,.slice A es.length cap] 24 1;simp only [List.getElem?_toArray,List.getElem?_cons_zero,List.getElem?_cons_succ] at b0 b1;have hbw:=(Below.refl w.heap.size w).alloc (Nat.le_refl _) (.cells #[.int .i64 n,.slice A es.length cap] 24);have s1:=World.size_alloc w (.cells #[.int .i64 n,.slice A es.length cap] 24);generalize w.alloc (.cells #[.int .i64 n,.slice A es.length cap] 24)=w1 at *;refine (ZP n A cap es w1 ((hes.below hbw).more (by omega))).mono ?_;rintro e w2 ⟨rfl,hb2⟩;have c0:=(hb2.cell (p:=⟨w.heap.size,0,none⟩) (by simp;omega)).trans b0;have c1:=(hb2.cell (p:=⟨w.heap.size,1,none⟩) (by simp;omega)).trans b1;have hb3:=hbw.trans (hb2.mono (by omega));have l2:w.heap.size<w2.heap.size:=by have:=hb2.size;omega
 clear b0 b1 hb2 hbw s1
 cases hm:vj n es with
 | false=>
  have HR:=Lib.hid (show yn n es rs=false by unfold yn;rw [hm];rfl);clear hm;go_wp2_with fail;go_ret;exact ⟨jx HR.out.symm,hb3⟩
 | true=>
  have Hm:=Lib.hid hm;clear hm;obtain ⟨hn0,hn1,hn2⟩:=jP Hm.out;by_cases hn:(rs.length:Int)=n
  ·have hne:((rs.length:Int) != n)=false:=by simp [hn]
   have Hn:=Lib.hid hn;clear hn
   have hmk:∀W,(Instr.makeSlice 113 (.int .i64 (2*(es.length:Int))) (.int .i64 (2*(es.length:Int)))).run Tryz.prog W = .ok (.slice (some ⟨W.heap.size,0,none⟩) (2*es.length) (2*es.length)) (W.alloc (.cells (List.replicate (2*es.length) (Value.bool false)).toArray 4)):=fun W=>by
    have:=yz kw rfl (2*es.length) (by omega) (by omega) W;rw [show ((2*es.length:Nat):Int)=2*(es.length:Int) by omega] at this;exact this
   go_wp2_with fail
   have g0:Blk (w2.alloc (.cells (Array.replicate (2*es.length) (Value.bool false)) 4)) w2.heap.size 4 (jD (List.replicate (2*es.length) false)).toArray:=by
    have:=Blk.new w2 4 (Array.replicate (2*es.length) (Value.bool false));rw [←xa];simpa using this
   have hb4:=hb3.alloc hb3.size (.cells (Array.replicate (2*es.length) (Value.bool false)) 4);have hk4:∀p:Addr,p.block<w2.heap.size→(w2.alloc (.cells (Array.replicate (2*es.length) (Value.bool false)) 4)).cell? p=w2.cell? p:=fun p hp=>World.cell?_alloc_lt _ _ p hp;have hes2:=hes.below hb3;have hrs2:=hrs.below hb3;generalize w2.alloc (.cells (Array.replicate (2*es.length) (Value.bool false)) 4)=w3 at *;generalize hg:w2.heap.size=g at *;have Hg:=Lib.hid hg;clear hg
   go_loopg [27] rs.length (fun k s27 wr=>∃(x:Nat) (seen:List Bool),s27 = .int .i64 x∧x≤rs.length∧k=rs.length-x∧Jt es rs x=some seen∧seen.length=2*es.length∧Below w.heap.size w wr∧Blk wr g 4 (jD seen).toArray ∧ ∀p:Addr,p.block<g→wr.cell? p=w2.cell? p)
   case atStart=>exact ⟨0,_,rfl,Nat.zero_le _,rfl,rfl,by simp,hb4,g0,hk4⟩
   case round=>
    clear hb4 g0 hk4 hmk hb3 hne;obtain ⟨x,seen,rfl,hx,hk,hall,hsl,hb,hbl,hkp⟩:=hrel;have Hk:=Lib.hid hk;clear hk;have Hall:=Lib.hid hall;clear hall;have Hkp:=Lib.hid hkp;clear hkp;by_cases hlt:x<rs.length
    ·have hlt':(x:Int)<rs.length:=by omega
     obtain ⟨b,off,rfl,hbb,hrow⟩:=hrs2 (by omega);obtain ⟨Ai,ci,hcell,hCi⟩:=hrow x hlt;have e0:=(Hkp.out ⟨b,off+x,none⟩ (by simp;omega)).trans hcell;have hll:rs[x].length≤1000:=hr2 _ (List.getElem_mem hlt);have HL:=Lib.hid (show rs.getD x []=rs[x] by rw [List.getD_eq_getElem?_getD,List.getElem?_eq_getElem hlt];rfl);have HD:=Lib.hid (fun (i:Nat)=>XU (n:=n) (es:=es) (i:=i) hlt);have HC:=Lib.hid hCi;clear hrow hcell hCi;generalize rs[x]=l at *;go_wp2_with fail
     go_loopg [34] l.length (fun k s34 wr=>∃(i:Nat) (seen:List Bool),s34 = .int .i64 i∧i≤l.length∧k=l.length-i∧Js es x (Jt es rs x) (l.take i)=some seen∧seen.length=2*es.length∧Below w.heap.size w wr∧Blk wr g 4 (jD seen).toArray ∧ ∀p:Addr,p.block<g→wr.cell? p=w2.cell? p)
     case atStart=>exact ⟨0,seen,rfl,Nat.zero_le _,rfl,Hall.out,hsl,hb,hbl,Hkp.out⟩
     case round=>
      clear hb hbl hsl Hkp Hall;obtain ⟨i,seen,rfl,hi,hk,hrow,hsl,hb,hbl,hkp⟩:=hrel;have Hk2:=Lib.hid hk;clear hk;have Hrow:=Lib.hid hrow;clear hrow;have Hkp:=Lib.hid hkp;clear hkp;by_cases hlt2:i<l.length
      ·have hlt2':(i:Int)<l.length:=by omega
       obtain ⟨bi,offi,rfl,hbi,hci⟩:=HC.out.ints (by omega);have f0:=(Hkp.out ⟨bi,offi+i,none⟩ (by simp;omega)).trans (hci i hlt2);have HS:=Lib.hid (show Js es x (Jt es rs x) (l.take (i+1))=xK es x (some seen) l[i] by rw [UO hlt2,Hrow.out]);clear hci;generalize l[i]=h at *;have y0:=(Hkp.out ⟨w.heap.size,0,none⟩ (by simp;omega)).trans c0;have y1:=(Hkp.out ⟨w.heap.size,1,none⟩ (by simp;omega)).trans c1;by_cases h0:h<0
       ·have HR:=Lib.hid (HD.out (i+1) (by rw [HS.out];unfold xK;simp [h0]));go_wp2_with fail;go_ret;exact ⟨jx HR.out.symm,hb⟩
       by_cases h1:(2*es.length:Int)≤h
       ·have HR:=Lib.hid (HD.out (i+1) (by rw [HS.out];unfold xK;simp only;rw [if_pos (.inr (by rw [hsl];omega))]));go_wp2_with fail;go_ret;exact ⟨jx HR.out.symm,hb⟩
       obtain ⟨h,rfl⟩:=Int.eq_ofNat_of_zero_le (show 0≤h by omega);have h2:h<2*es.length:=by omega
       have d0:=hbl.bool (k:=h) (by omega);have hin:¬(((h:Nat):Int)<0∨(seen.length:Int)≤(h:Nat)):=by omega
       cases hsn:seen.getD h false with
       | true=>
        have HR:=Lib.hid (HD.out (i+1) (by rw [HS.out];unfold xK;simp only [if_neg hin];rw [if_pos (by exact hsn)]));rw [hsn] at d0;clear hsn;go_wp2_with fail;go_ret;exact ⟨jx HR.out.symm,hb⟩
       | false=>
        rw [hsn] at d0;have hesr:=hes2.keep (w':=wr) (fun p hp=>Hkp.out p (by omega));have hgl:=hbl.lt;have Hv:=Lib.hid (cK n A cap es h wr (hesr.more (by omega)) h2 (by omega))
        have HS2:=Lib.hid (show xK es x (some seen) (h:Int)=if atE es h≠(x:Int) then none else some (seen.set h true) by
         unfold xK;simp only [if_neg hin];rw [if_neg (by show ¬seen.getD h false=true;rw [hsn];simp)]
         rfl)
        clear hsn hesr hin;go_wp2_with fail;refine Hv.out.mono ?_;rintro e w5 ⟨rfl,hb5⟩;have hb6:=hb.trans (hb5.mono (by have:=hb.size;omega));have hbl6:=hbl.below hb5 hgl;have hkp6:∀p:Addr,p.block<g→w5.cell? p=w2.cell? p:=fun p hp=>(hb5.cell (Nat.lt_trans hp hgl)).trans (Hkp.out p hp);have Hkp6:=Lib.hid hkp6;have hs5:=hb5.size;clear hb hbl hb5 hkp6 d0 y0 y1 f0 e0 Hkp;by_cases hv:atE es h=(x:Int)
        ·have HS3:=Lib.hid (show xK es x (some seen) (h:Int)=some (seen.set h true) by rw [HS2.out,if_neg (by simp [hv])]);rw [hv];have hxx:((x:Int) != (x:Int))=false:=by simp
         have d0:=hbl6.bool (k:=h) (by omega);have f0:=hbl6.frozen h;have S1:=hbl6.setBool h true;have hb7:=hb6.setCell (p:=⟨g,h,none⟩) (by simp;omega) (.bool true);have hk7:∀p:Addr,p.block<g→(w5.setCell ⟨g,h,none⟩ (.bool true)).cell? p=w2.cell? p:=fun p hp=>(World.cell?_setCell_other w5 ⟨g,h,none⟩ p _ (fun e=>by subst e;simp at hp)).trans (Hkp6.out p hp);have Hk7:=Lib.hid hk7;clear hv hbl6 hk7;go_wp2_with fail
         go_roundg (l.length-(i+1))
         case measure=>rw [Hk2.out];omega
         case rel=>exact ⟨i+1,seen.set h true,by go_num,by omega,rfl,by rw [HS.out,HS3.out],by simp [hsl],hb7,S1,Hk7.out⟩
        ·have HR:=Lib.hid (HD.out (i+1) (by rw [HS.out,HS2.out,if_pos hv]));have hxx:(atE es h != (x:Int))=true:=by simp [hv]
         clear hv;go_wp2_with fail;go_ret;exact ⟨jx HR.out.symm,hb6⟩
      ·have hie:i=l.length:=by omega
       have HA:=Lib.hid (show Jt es rs (x+1)=some seen by rw [kY,HL.out,←Hrow.out,hie,List.take_length]);go_wp2_with fail
       go_roundg (rs.length-(x+1))
       case measure=>rw [Hk.out];omega
       case rel=>exact ⟨x+1,seen,by go_num,by omega,rfl,HA.out,hsl,hb,hbl,Hkp.out⟩
    ·have hxe:x=rs.length:=by omega
     have HR:=Lib.hid (show yn n es rs = !decide (false∈seen) by
      unfold yn
      rw [Hm.out,decide_eq_true Hn.out,←hxe,Hall.out];rfl)
     have hgl:=hbl.lt;have ho:jr wr wr.heap.size (some ⟨g,0,none⟩) (jD seen):=(jr.of_blk (R:=#[]) (by simpa using hbl)).more (by omega);have Hc:=Lib.hid (ZX _ (2*es.length) seen false wr ho (by omega));rw [hsl] at Hc;go_wp2_with fail;refine Hc.out.mono ?_;rintro e w6 ⟨rfl,m,rfl⟩;go_wp2_with fail;go_ret;exact ⟨jx HR.out.symm,below_drewN hb m⟩
  ·have hne:((rs.length:Int) != n)=true:=by simp [hn]
   have HR:=Lib.hid (show yn n es rs=false by unfold yn;rw [decide_eq_false hn];simp);clear hn;go_wp2_with fail;go_ret;exact ⟨jx HR.out.symm,hb3⟩
end Go.Proofs.YtneeknlhlkpnpaaGreat
namespace Go.Proofs.YtneeknlhlkpnpaaGreat
open Go.RowKit
set_option maxHeartbeats 1000000 in
set_option maxRecDepth 20000 in
theorem aq(k:Nat)(hk:k≤1000000)(w:World) :
  Calls Tryz.prog 121 #[.slice none 0 0,.int .i64 k] w fun e w'=>∃A c,e = .returned (.slice A 0 c)∧Below w.heap.size w w'∧w'.ownsRow w.heap.size 3 1 (.slice A 0 c) 0 []:=by
 rcases Nat.eq_zero_or_pos k with h0 | h0
 ·subst h0
  go_enter Tryz.func121,Tryz.ntmps121
  go_wp2
  go_ret;exact ⟨none,0,rfl,Below.refl _ _,World.ownsRow_nil _ _ _ _⟩
 ·obtain ⟨i,ht,hi,hz,hsize,hby,hzs,hsz⟩:=qz
  have hrz:∀ty,(Builtin.append_ #[25,3] ty #[.slice none 0 0,.int .i64 (k:Int)]).run Tryz.prog w =
    .ok (.slice (some ⟨w.heap.size,0,none⟩) k (grownCap w k 0 3)) (w.drew.alloc (.cells (#[]++Builtin.zeroCells (Value.int .i64 0).cells k++Builtin.zeroCells (Value.int .i64 0).cells (grownCap w k 0 3-k)) 3)):=fun ty=>by
   have h:=Lib.run_append_grow_zeros (P:=Tryz.prog) w 25 3 ty 3 i (.int .i64 0) .i64 .i64 ht Tryz.underlying3 hi hz none 0 0 [] (run_firstCells_none w.drew i.size 0 0 0) k h0 (by rw [hsize];exact hsz) (by omega) (by omega) (by rw [hby];omega)
    (by rw [Nat.zero_add];exact growslice_fits h0 (by rw [hby];omega))
   simpa only [Nat.zero_add] using h
  have hGn:k≤grownCap w k 0 3:=grownCap_ge w _ _ _;have hGm:=grownCap_le_maxLen w k 0 3 (by unfold maxLen;omega)
  have hsz2:(#[]++Builtin.zeroCells (Value.int .i64 0).cells k++Builtin.zeroCells (Value.int .i64 0).cells (grownCap w k 0 3-k)).size=grownCap w k 0 3*1:=by
   simp only [Array.size_append,size_zeroCells];simp [Value.cells];omega
  generalize grownCap w k 0 3=G at *;generalize #[]++Builtin.zeroCells (Value.int .i64 0).cells k++Builtin.zeroCells (Value.int .i64 0).cells (G-k)=cs at *;have hG0:¬G=0:=by omega
  have hk1:(k:Int)>0:=by omega
  have hm:maxLen=9223372036854775807:=rfl;have hb:=((Below.refl w.heap.size w).drew).alloc (Nat.le_refl _) (.cells cs 3)
  have ho:(w.drew.alloc (.cells cs 3)).ownsRow w.heap.size 3 1 (.slice (some ⟨w.heap.size,0,none⟩) 0 G) 0 []:=
   ⟨by simp,.inr ⟨w.heap.size,G,cs,rfl,Nat.le_refl _,heap_alloc_new w.drew _,Nat.zero_le _,hGm,hsz2,by simp⟩⟩
  go_enter Tryz.func121,Tryz.ntmps121
  go_wp2_with (at_builtin;refine Lib.wpList_append_run _ rfl _ _ _ _ rfl _ _ rfl rfl _ _ (hrz _) ?_);go_ret;exact ⟨_,_,rfl,hb,ho⟩
theorem QY{rs:List (List Int)}{i:Nat}(h:i<rs.length):(rs.take (i+1)).flatten=(rs.take i).flatten++rs[i]:=by
 rw [List.take_succ_eq_append_getElem h,List.flatten_append];simp
theorem XA(rs:List (List Int))(i:Nat):(rs.take i).flatten.length≤rs.flatten.length:=by
 conv=>rhs;rw [←List.take_append_drop i rs,List.flatten_append,List.length_append]
 omega
set_option maxHeartbeats 1000000 in
theorem VY(C:Option Addr)(cap:Nat)(rs:List (List Int))(w:World)(hrs:qm w w.heap.size C rs)(h1:rs.length≤1000)(h2:rs.flatten.length≤100000) :
  Calls Tryz.prog 74 #[.slice C rs.length cap] w fun e w'=>∃A c,e = .returned (.slice A rs.flatten.length c)∧Below w.heap.size w w'∧w'.ownsRow w.heap.size 3 1 (.slice A rs.flatten.length c) rs.flatten.length (jf rs.flatten):=by
 go_enter Tryz.func74,Tryz.ntmps74
 go_wp2_with fail
 go_loopg [3,11] rs.length (fun k s3 s11 wr=>∃i:Nat,s11 = .int .i64 i∧i≤rs.length∧k=rs.length-i∧wr=w∧s3 = .int .i64 ((rs.take i).flatten.length:Nat))
 case atStart=>exact ⟨0,rfl,Nat.zero_le _,rfl,rfl,rfl⟩
 case round=>
  obtain ⟨i,rfl,hi,hk,hwr,rfl⟩:=hrel;have Hk:=Lib.hid hk;clear hk;have hfl:=XA rs i;by_cases hlt:i<rs.length
  ·have hlt':(i:Int)<rs.length:=by omega
   obtain ⟨b,off,rfl,hbb,hc⟩:=hrs (by omega);obtain ⟨Ai,ci,e0,_⟩:=hc i hlt;have e0:wr.cell? ⟨b,off+i,none⟩=some (.slice Ai rs[i].length ci):=by rw [hwr];exact e0
   have HL:=Lib.hid (show ((rs.take (i+1)).flatten.length:Int)=(rs.take i).flatten.length+rs[i].length by rw [QY hlt,List.length_append];omega);have hfl2:=XA rs (i+1);rw [QY hlt,List.length_append] at hfl2;have Hwr:=Lib.hid hwr;clear hc hwr;generalize (rs.take i).flatten.length=t at *;generalize rs[i]=l at *;go_wp2_with fail
   go_roundg (rs.length-(i+1))
   case measure=>rw [Hk.out];omega
   case rel=>exact ⟨i+1,by go_num,by omega,rfl,Hwr.out,by rw [HL.out]⟩
  ·have hie:i=rs.length:=by omega
   subst hie;subst hwr;rw [List.take_length];obtain ⟨t,ht⟩:∃t,t=rs.flatten.length:=⟨_,rfl⟩;rw [←ht];have ht2:t≤100000:=by omega
   have Ht:=Lib.hid ht;clear ht hfl h2;have Hh2:=Lib.hid (show rs.flatten.length≤100000 by rw [←Ht.out];exact ht2);go_wp2_with fail;refine (aq t (by omega) wr).mono ?_;rintro e w1 ⟨A1,c1,rfl,hb1,ho1⟩;have Hrs:=Lib.hid hrs;clear hrs hlt hi;obtain ⟨w,rfl⟩:∃x,x=wr:=⟨_,rfl⟩;go_wp2_with fail
   go_loopg [6,27] rs.length (fun k s6 s27 wr=>∃(i:Nat) (A:Option Addr) (c:Nat),s27 = .int .i64 i∧i≤rs.length∧k=rs.length-i∧s6 = .slice A (rs.take i).flatten.length c∧Below w.heap.size w wr∧wr.ownsRow w.heap.size 3 1 (.slice A (rs.take i).flatten.length c) (rs.take i).flatten.length (jf (rs.take i).flatten))
   case atStart=>exact ⟨0,A1,c1,rfl,Nat.zero_le _,rfl,rfl,hb1,ho1⟩
   case round=>
    clear hb1 ho1;obtain ⟨i,A,c,rfl,hi,hk,rfl,hb,hown⟩:=hrel;have Hk:=Lib.hid hk;clear hk;have hfl:=Nat.le_trans (XA rs i) Hh2.out;by_cases hlt:i<rs.length
    ·have hlt':(i:Int)<rs.length:=by omega
     obtain ⟨b,off,rfl,hbb,hc⟩:=Hrs.out (by omega);obtain ⟨Ai,ci,e0,hCi⟩:=hc i hlt;have e0:=(hb.cell (p:=⟨b,off+i,none⟩) hbb).trans e0;have hCi:=hCi.below hb;have HL:=Lib.hid (QY hlt);have hfl2:=Nat.le_trans (XA rs (i+1)) Hh2.out;rw [QY hlt,List.length_append] at hfl2;have hs:=hb.size;clear hc;generalize (rs.take i).flatten=t at *;generalize rs[i]=l at *;go_wp2_with (at_builtin;refine yU qz rfl _ _ rfl rfl hown rfl hCi (show (jf l).length=l.length*1 by simp [jf]) (xB l) ?h2 ?h3 ?h4 ?_)
     case h2=>omega
     case h3=>omega
     case h4=>omega
     intro v' w' hown' hg' _;have hb':=qb hb hown hg' hs (Nat.le_refl _);obtain ⟨A',c',rfl⟩:=jv hown';clear hown hg' hb hCi;go_wp2_with fail
     go_roundg (rs.length-(i+1))
     case measure=>rw [Hk.out];omega
     case rel=>exact ⟨i+1,A',c',by go_num,by omega,rfl,by rw [HL.out,List.length_append],hb',by rw [HL.out,List.length_append];simpa [jf] using hown'⟩
    ·have hie:i=rs.length:=by omega
     subst hie;rw [List.take_length] at hown ⊢;have HC:=Lib.hid hown;rw [←Ht.out];clear hown hfl;go_wp2_with fail;go_ret;exact ⟨A,c,by rw [←Ht.out];rfl,hb,HC.out⟩
theorem Ku(C:Option Addr)(cap:Nat)(rs:List (List Int))(w:World)(hrs:qm w w.heap.size C rs)(h1:rs.length≤1000)(h2:rs.flatten.length≤100000) :
  Calls Tryz.prog 74 #[.slice C rs.length cap] w fun e w'=>∃A c,e = .returned (.slice A rs.flatten.length c)∧Below w.heap.size w w'∧jr w' w'.heap.size A (jf rs.flatten):=
 (VY C cap rs w hrs h1 h2).mono fun _ _ ⟨A,c,e,hb,ho⟩=>⟨A,c,e,hb,jr.of_own ho⟩
end Go.Proofs.YtneeknlhlkpnpaaGreat
namespace Go.Proofs.YtneeknlhlkpnpaaGreat
open Go.RowKit
def rot(a:List Int)(i:Nat):List Int:=a.drop i++a.take i
theorem qM(a:List Int)(i:Nat):(rot a i).length=a.length:=by
 unfold rot;simp;omega
def zr(a b:List Int):Bool:=(List.range a.length).any (fun i=>decide (rot a i=b))||(decide (a.length=0)&&decide (b.length=0))
theorem Wi{w:World}{B:Nat}{A:Option Addr}{l:List Int}(k:Nat)(h:jr w B A (jf l)):jr w B A (jf (l.take k)):=by
 intro hp;have hp':0<(jf l).length:=by simp [jf] at hp ⊢;omega
 obtain ⟨b,off,he,hb,hc⟩:=h hp';refine ⟨b,off,he,hb,fun j u hu=>hc j u ?_⟩;have e:jf (l.take k)=(jf l).take k:=by simp [jf]
 rw [e,List.getElem?_take] at hu
 split at hu
 ·exact hu
 ·cases hu
theorem Wj{w:World}{B b off:Nat}{l:List Int}(k c:Nat)(hc:l.length≤c)(h:jr w B (some ⟨b,off,none⟩) (jf l)) :
  jr w B (if c=k then some (⟨b,off,none⟩:Addr) else some ⟨b,off+k,none⟩) (jf (l.drop k)):=by
 intro hp
 have hk:c≠k:=by
  intro e;simp [jf] at hp;omega
 rw [if_neg hk];have e:jf (l.drop k)=(jf l).drop k:=by simp [jf]
 rw [e] at hp ⊢;obtain ⟨b',off',he,hb,hcc⟩:=h (by simp at hp;omega);injection he with he;injection he with h1 h2;subst h1 h2;refine ⟨_,_,rfl,hb,fun j u hu=>?_⟩;rw [List.getElem?_drop] at hu;have:=hcc _ _ hu;rw [Nat.add_assoc];exact this
theorem dE(a:List Int)(k:Nat)(hk:k≤a.length)(A1 A2:Option Addr)(c1 c2:Nat)(W:World)(h1:jr W W.heap.size A1 (jf (a.drop k)))(h2:jr W W.heap.size A2 (jf (a.take k)))(hl:a.length≤100000) :
  Calls Tryz.prog 74 #[.slice (some ⟨W.heap.size,0,none⟩) 2 2] (W.alloc (.cells #[.slice A1 (a.length-k) c1,.slice A2 k c2] 25)).drew (fun e w'=>∃A c,e = .returned (.slice A (rot a k).length c)∧Below W.heap.size W w'∧jr w' w'.heap.size A (jf (rot a k))):=by
 have hb:=(Below.refl W.heap.size W).alloc (Nat.le_refl _) (.cells #[.slice A1 (a.length-k) c1,.slice A2 k c2] 25);have hs:W.heap.size≤(W.alloc (.cells #[.slice A1 (a.length-k) c1,.slice A2 k c2] 25)).heap.size:=by simp
 have e1:(a.drop k).length=a.length-k:=by simp
 have e2:(a.take k).length=k:=by simp;omega
 have hR:qm (W.alloc (.cells #[.slice A1 (a.length-k) c1,.slice A2 k c2] 25)) (W.alloc (.cells #[.slice A1 (a.length-k) c1,.slice A2 k c2] 25)).heap.size (some ⟨W.heap.size,0,none⟩) [a.drop k,a.take k]:=fun _=>by
  refine ⟨W.heap.size,0,rfl,by simp,fun i hi=>?_⟩
  match i with
  | 0=>exact ⟨A1,c1,by rw [Nat.zero_add,World.cell?_alloc_new];show _=some (Value.slice A1 (a.drop k).length c1);rw [e1];rfl,(h1.below hb).more hs⟩
  | 1=>exact ⟨A2,c2,by rw [Nat.zero_add,World.cell?_alloc_new];show _=some (Value.slice A2 (a.take k).length c2);rw [e2];rfl,(h2.below hb).more hs⟩
  | i+2=>exact absurd hi (by simp)
 have hf:([a.drop k,a.take k]:List (List Int)).flatten=rot a k:=by simp [rot]
 have h:=Ku (some ⟨W.heap.size,0,none⟩) 2 [a.drop k,a.take k] (W.alloc (.cells #[.slice A1 (a.length-k) c1,.slice A2 k c2] 25)).drew hR (by simp) (by rw [hf,qM];exact hl);rw [hf] at h;refine h.mono ?_;rintro e w' ⟨A,c,rfl,hb2,hC⟩;exact ⟨A,c,rfl,hb.trans ((yZ hb2).mono hs),hC⟩
theorem YG{a b:List Int}{i:Nat}(hi:i<a.length)(h:rot a i=b):zr a b=true:=by
 unfold zr;rw [Bool.or_eq_true];exact .inl (List.any_eq_true.2 ⟨i,List.mem_range.2 hi,decide_eq_true h⟩)
theorem fP{a b:List Int}(h:∀j,j<a.length→rot a j≠b):zr a b=(decide (a.length=0)&&decide (b.length=0)):=by
 unfold zr
 have:((List.range a.length).any fun i=>decide (rot a i=b))=false:=by
  rw [List.any_eq_false];intro i hi;simpa using h i (List.mem_range.1 hi)
 rw [this,Bool.false_or]
def vn(w:World)(B:Nat)(A:Option Addr)(rs:List (List Int)):Prop:=
 0<rs.length → ∃b off,A=some ⟨b,off,none⟩∧b<B ∧ ∀i (h:i<rs.length),∃Ai ci,w.cell? ⟨b,off+i,none⟩=some (.slice Ai rs[i].length ci)∧jr w B Ai (jf rs[i])∧rs[i].length≤ci
section
variable {w w':World}{B B':Nat}{A:Option Addr}{rs:List (List Int)}
theorem vn.keep(h:vn w B A rs)(hk:∀p:Addr,p.block<B→w'.cell? p=w.cell? p):vn w' B A rs:=fun hn=>by
 obtain ⟨b,off,e,hb,hc⟩:=h hn;refine ⟨b,off,e,hb,fun i hi=>?_⟩;obtain ⟨Ai,ci,h1,h2,h3⟩:=hc i hi;exact ⟨Ai,ci,(hk _ (by exact hb)).trans h1,h2.keep hk,h3⟩
theorem vn.more(h:vn w B A rs)(hB:B≤B'):vn w B' A rs:=fun hn=>by
 obtain ⟨b,off,e,hb,hc⟩:=h hn;refine ⟨b,off,e,by omega,fun i hi=>?_⟩;obtain ⟨Ai,ci,h1,h2,h3⟩:=hc i hi;exact ⟨Ai,ci,h1,h2.more hB,h3⟩
theorem vn.below(h:vn w B A rs)(hb:Below B w w'):vn w' B A rs:=h.keep fun _ hp=>hb.cell hp
theorem vn.at_(h:vn w B A rs):qm w B A rs:=fun hn=>by
 obtain ⟨b,off,e,hb,hc⟩:=h hn;refine ⟨b,off,e,hb,fun i hi=>?_⟩;obtain ⟨Ai,ci,h1,h2,_⟩:=hc i hi;exact ⟨Ai,ci,h1,h2⟩
end
def xo(xs ys:List (List Int)):Bool:=decide (xs.length=ys.length)&&(List.range xs.length).all fun i=>zr (xs.getD i []) (ys.getD i [])
theorem vJ{rs:List (List Int)}{i:Nat}(h:i<rs.length):rs.getD i []=rs[i]:=by rw [List.getD_eq_getElem?_getD,List.getElem?_eq_getElem h];rfl
theorem nT{xs ys:List (List Int)}{i:Nat}(hi:i<xs.length)(hj:i<ys.length)(h:zr xs[i] ys[i]=false):xo xs ys=false:=by
 unfold xo
 have:((List.range xs.length).all fun i=>zr (xs.getD i []) (ys.getD i []))=false:=by
  rw [List.all_eq_false];exact ⟨i,List.mem_range.2 hi,by rw [vJ hi,vJ hj,h];simp⟩
 rw [this,Bool.and_false]
end Go.Proofs.YtneeknlhlkpnpaaGreat
namespace Go.Proofs.YtneeknlhlkpnpaaGreat
open Go.RowKit
def ot(h:Nat):Nat:=if h%2=0 then h+1 else h-1
theorem nP(h:Nat):h ^^^ 1=ot h:=by
 have h1:(h ^^^ 1)/2=h/2:=by rw [Nat.xor_div_two];simp
 have h2:(h ^^^ 1).testBit 0=(h.testBit 0 ^^ true):=by rw [Nat.testBit_xor];rfl
 rw [Nat.testBit_zero,Nat.testBit_zero] at h2;unfold ot
 split
 ·rename_i h3;have:(h ^^^ 1)%2=1:=by rw [h3] at h2;simpa using h2
  omega
 ·rename_i h3;have:h%2=1:=by omega
  rw [this] at h2;have:¬(h ^^^ 1)%2=1:=by simpa using h2
  omega
theorem xY{h m:Nat}(hh:h<2*m):ot h<2*m:=by unfold ot;split<;>omega
theorem Qf(h:Nat):ot (ot h)=h:=by unfold ot;split<;>split<;>omega
theorem Wx{h:Nat}(hh:h<4611686018427387904):bits .xor .i64 (h:Int) 1=((ot h:Nat):Int):=by
 have h1:(BitVec.ofInt 64 (h:Int)).toNat=h:=by
  rw [BitVec.ofInt_natCast,BitVec.toNat_ofNat];exact Nat.mod_eq_of_lt (by omega)
 have h2:(BitVec.ofInt 64 (1:Int)).toNat=1:=by decide
 show IntKind.i64.wrap ((BitVec.ofInt 64 (h:Int) ^^^ BitVec.ofInt 64 (1:Int)).toNat:Int)=_
 rw [BitVec.toNat_xor,h1,h2,nP,IntKind.wrap_i64];have:ot h≤h+1:=by unfold ot;split<;>omega
 omega
def cC(l:List Int)(o:List Int)(i:Nat):List Int:=o.set (ot (l.getD i 0).toNat) (l.getD ((i+1)%l.length) 0)
def Va(l:List Int)(o:List Int)(k:Nat):List Int:=(List.range k).foldl (cC l) o
def Xi(m:Nat)(rs:List (List Int))(k:Nat):List Int:=(List.range k).foldl (fun o x=>Va (rs.getD x []) o (rs.getD x []).length) (List.replicate (2*m) 0)
def vg(m:Nat)(rs:List (List Int)):List Int:=Xi m rs rs.length
theorem QT(l o:List Int)(k:Nat):Va l o (k+1)=cC l (Va l o k) k:=by
 unfold Va;rw [List.range_succ,List.foldl_append];rfl
theorem QU(m:Nat)(rs:List (List Int))(k:Nat):Xi m rs (k+1)=Va (rs.getD k []) (Xi m rs k) (rs.getD k []).length:=by
 unfold Xi;rw [List.range_succ,List.foldl_append];rfl
theorem Qr(l o:List Int)(k:Nat):(Va l o k).length=o.length:=by
 induction k with
 | zero=>rfl
 | succ k ih=>rw [QT];unfold cC;rw [List.length_set,ih]
theorem vo(m:Nat)(rs:List (List Int))(k:Nat):(Xi m rs k).length=2*m:=by
 induction k with
 | zero=>simp [Xi]
 | succ k ih=>rw [QU,Qr,ih]
theorem Blk.setInt{w:World}{g:Nat}{t:TypeId}{l:List Int}(h:Blk w g t (jf l).toArray)(k:Nat)(b:Int):Blk (w.setCell ⟨g,k,none⟩ (.int .i64 b)) g t (jf (l.set k b)).toArray:=by
 have:=h.set_ k (.int .i64 b);simpa [jf,List.map_set] using this
theorem Blk.int_{w:World}{g:Nat}{t:TypeId}{l:List Int}(h:Blk w g t (jf l).toArray){k:Nat}(hk:k<l.length):w.cell? ⟨g,k,none⟩=some (.int .i64 (l.getD k 0)):=by
 rw [h.cell k];simp [jf,hk]
theorem kQ(n:Nat):List.replicate n (Value.int .i64 0)=jf (List.replicate n 0):=by simp [jf]
set_option maxHeartbeats 2000000 in
theorem gY(n:Int)(A C:Option Addr)(cap ccap:Nat)(es:List (Int×Int))(rs:List (List Int))(w:World)(hrs:qm w w.heap.size C rs)(he:es.length≤1000)(hr1:rs.length≤1000)(hr2:∀l∈rs,l.length≤1000)
  (hin:∀l∈rs,∀h∈l,0≤h∧h<2*es.length) :
  Calls Tryz.prog 107 #[.agg #[.int .i64 n,.slice A es.length cap],.slice C rs.length ccap] w
   (fun e w'=>∃g,e = .returned (.slice (some ⟨g,0,none⟩) (2*es.length) (2*es.length))∧Below w.heap.size w w'∧w.heap.size≤g∧Blk w' g 3 (jf (vg es.length rs)).toArray):=by
 have hmk:∀W,(Instr.makeSlice 25 (.int .i64 (2*(es.length:Int))) (.int .i64 (2*(es.length:Int)))).run Tryz.prog W = .ok (.slice (some ⟨W.heap.size,0,none⟩) (2*es.length) (2*es.length)) (W.alloc (.cells (List.replicate (2*es.length) (Value.int .i64 0)).toArray 3)):=fun W=>by
  have:=yz qz rfl (2*es.length) (by omega) (by omega) W;rw [show ((2*es.length:Nat):Int)=2*(es.length:Int) by omega] at this;exact this
 have Hin:=Lib.hid hin;clear hin
 go_enter Tryz.func107,Tryz.ntmps107
 go_wp2_with fail;have hb1:=(Below.refl w.heap.size w).alloc (Nat.le_refl _) (.cells #[.int .i64 n,.slice A es.length cap] 24);have s1:=World.size_alloc w (.cells #[.int .i64 n,.slice A es.length cap] 24);generalize w.alloc (.cells #[.int .i64 n,.slice A es.length cap] 24)=w1 at *
 have g0:Blk (w1.alloc (.cells (Array.replicate (2*es.length) (Value.int .i64 0)) 3)) w1.heap.size 3 (jf (List.replicate (2*es.length) 0)).toArray:=by
  have:=Blk.new w1 3 (Array.replicate (2*es.length) (Value.int .i64 0));rw [←kQ];simpa using this
 have hb2:=hb1.alloc (by omega) (.cells (Array.replicate (2*es.length) (Value.int .i64 0)) 3);generalize w1.alloc (.cells (Array.replicate (2*es.length) (Value.int .i64 0)) 3)=w2 at *;rw [s1] at g0;clear hb1 s1
 go_loopg [17] rs.length (fun k s17 wr=>∃x:Nat,s17 = .int .i64 x∧x≤rs.length∧k=rs.length-x∧Below w.heap.size w wr∧Blk wr (w.heap.size+1) 3 (jf (Xi es.length rs x)).toArray)
 case atStart=>exact ⟨0,rfl,Nat.zero_le _,rfl,hb2,g0⟩
 case round=>
  clear hb2 g0 hmk;obtain ⟨x,rfl,hx,hk,hb,hbl⟩:=hrel;have Hk:=Lib.hid hk;clear hk;by_cases hlt:x<rs.length
  ·have hlt':(x:Int)<rs.length:=by omega
   obtain ⟨b,off,rfl,hbb,hrow⟩:=hrs (by omega);obtain ⟨Ai,ci,hcell,hCi⟩:=hrow x hlt;have e0:=(hb.cell (p:=⟨b,off+x,none⟩) hbb).trans hcell;have hll:rs[x].length≤1000:=hr2 _ (List.getElem_mem hlt);have HL:=Lib.hid (show rs.getD x []=rs[x] by rw [List.getD_eq_getElem?_getD,List.getElem?_eq_getElem hlt];rfl);have HI:=Lib.hid (Hin.out _ (List.getElem_mem hlt));have HA:=Lib.hid (QU es.length rs x);rw [HL.out] at HA;clear hrow hcell HL;have hol:=vo es.length rs x;generalize Xi es.length rs x=o at *;generalize rs[x]=l at *;go_wp2_with fail
   go_loopg [23] l.length (fun k s23 wr=>∃i:Nat,s23 = .int .i64 i∧i≤l.length∧k=l.length-i∧Below w.heap.size w wr∧Blk wr (w.heap.size+1) 3 (jf (Va l o i)).toArray)
   case atStart=>exact ⟨0,rfl,Nat.zero_le _,rfl,hb,hbl⟩
   case round=>
    clear hb hbl e0;obtain ⟨i,rfl,hi,hk,hb,hbl⟩:=hrel;have Hk2:=Lib.hid hk;clear hk;have Hol:=Lib.hid ((Qr l o i).trans hol);by_cases hlt2:i<l.length
    ·have hlt2':(i:Int)<l.length:=by omega
     obtain ⟨bi,offi,rfl,hbi,hci⟩:=hCi.ints (by omega);have f0:=(hb.cell (p:=⟨bi,offi+i,none⟩) hbi).trans (hci i hlt2);have hj:(i+1)%l.length<l.length:=Nat.mod_lt _ (by omega);have f1:=(hb.cell (p:=⟨bi,offi+(i+1)%l.length,none⟩) hbi).trans (hci ((i+1)%l.length) hj);have hm:Int.tmod ((i:Int)+1) l.length=(((i+1)%l.length:Nat):Int):=by rw [Int.tmod_eq_emod_of_nonneg (by omega)];simp
     have hl0:¬((l.length:Int)=0):=by omega
     obtain ⟨q0,q1⟩:=HI.out _ (List.getElem_mem hlt2)
     have HS:=Lib.hid (show Va l o (i+1)=(Va l o i).set (ot l[i].toNat) l[(i+1)%l.length] by
      rw [QT];unfold cC
      rw [List.getD_eq_getElem?_getD,List.getElem?_eq_getElem hlt2,List.getD_eq_getElem?_getD,List.getElem?_eq_getElem hj];rfl)
     clear hci;generalize l[(i+1)%l.length]=v at *;generalize l[i]=h at *;obtain ⟨h,rfl⟩:=Int.eq_ofNat_of_zero_le q0;rw [show ((h:Nat):Int).toNat=h from rfl] at HS;have hxx:=Wx (h:=h) (by omega);have hot:ot h<2*es.length:=xY (by omega);have hot':((ot h:Nat):Int)<2*(es.length:Int):=by omega
     have hj':(((i+1)%l.length:Nat):Int)<l.length:=by omega
     generalize (i+1)%l.length=jj at *;generalize ot h=oh at *;have d0:=hbl.int_ (k:=oh) (by rw [Hol.out];exact hot);have fz:=hbl.frozen oh;have S1:=hbl.setInt oh v;have hb7:=hb.setCell (p:=⟨w.heap.size+1,oh,none⟩) (by simp) (.int .i64 v);clear hbl;go_wp2_with fail
     go_roundg (l.length-(i+1))
     case measure=>rw [Hk2.out];omega
     case rel=>exact ⟨i+1,by go_num,by omega,rfl,hb7,by rw [HS.out];exact S1⟩
    ·have hie:i=l.length:=by omega
     subst hie;go_wp2_with fail
     go_roundg (rs.length-(x+1))
     case measure=>rw [Hk.out];omega
     case rel=>exact ⟨x+1,by go_num,by omega,rfl,hb,by rw [HA.out];exact hbl⟩
  ·have hxe:x=rs.length:=by omega
   subst hxe;go_wp2_with fail;go_ret;exact ⟨w.heap.size+1,rfl,hb,by omega,hbl⟩
end Go.Proofs.YtneeknlhlkpnpaaGreat
namespace Go.Proofs.YtneeknlhlkpnpaaGreat
open Go.RowKit
def Ja(nx:List Int):Nat→List Bool→Nat→List Int→List Bool×List Int
 | 0,seen,_,face=>(seen,face)
 | f+1,seen,h,face=>if seen.getD h false=true then (seen,face) else Ja nx f (seen.set h true) (nx.getD h 0).toNat (face++[(h:Int)])
def Ue(nx:List Int)(st:List Bool×List (List Int))(first:Nat):List Bool×List (List Int):=
 let r:=Ja nx (nx.length+1) st.1 first []
 (r.1,if 0<r.2.length then st.2++[r.2] else st.2)
def ul(nx:List Int)(k:Nat):List Bool×List (List Int):=(List.range k).foldl (Ue nx) (List.replicate nx.length false,[])
def GH(nx:List Int):List (List Int):=(ul nx nx.length).2
def jE(n:Int)(es:List (Int×Int))(rs:List (List Int)):List (List Int):=if yn n es rs=true then GH (vg es.length rs) else []
theorem VB(nx:List Int)(k:Nat):ul nx (k+1)=Ue nx (ul nx k) k:=by
 unfold ul;rw [List.range_succ,List.foldl_append];rfl
theorem Kq{nx:List Int}:∀(f:Nat) (seen:List Bool) (h:Nat) (face:List Int),(Ja nx f seen h face).1.length=seen.length
 | 0,_,_,_=>rfl
 | f+1,seen,h,face=>by
  unfold Ja
  split
  ·rfl
  ·rw [Kq f];simp
theorem Wo(nx:List Int)(k:Nat):(ul nx k).1.length=nx.length:=by
 induction k with
 | zero=>simp [ul]
 | succ k ih=>rw [VB];unfold Ue;simp only [Kq,ih]
theorem KG{es:List (Int×Int)}{x:Nat}:∀(l:List Int) (s s':List Bool),Js es x (some s) l=some s'→s'.length=s.length
 | [],s,s',h=>by injection h with h;rw [h]
 | a::r,s,s',h=>by
  have h':Js es x (xK es x (some s) a) r=some s':=h
  cases hq:xK es x (some s) a with
  | none=>rw [hq,kc] at h';cases h'
  | some t=>rw [hq] at h';rw [KG r t s' h',gI hq]
theorem QD{es:List (Int×Int)}{rs:List (List Int)}{k:Nat}{s:List Bool}(h:Jt es rs k=some s):s.length=2*es.length:=by
 induction k generalizing s with
 | zero=>injection h with h;rw [←h];simp
 | succ k ih=>
  rw [kY] at h
  cases hq:Jt es rs k with
  | none=>rw [hq,kc] at h;cases h
  | some t=>rw [hq] at h;rw [KG _ _ _ h,ih hq]
theorem lN{n:Int}{es:List (Int×Int)}{rs:List (List Int)}(h:yn n es rs=true):∀l∈rs,∀a∈l,0≤a∧a<2*es.length:=by
 intro l hl a ha;obtain ⟨x,hx,rfl⟩:=List.mem_iff_getElem.1 hl;obtain ⟨i,hi,rfl⟩:=List.mem_iff_getElem.1 ha;have h1:Js es x (Jt es rs x) (rs[x].take (i+1))≠none:=fun e=>by rw [XU hx e] at h;cases h
 rw [UO hi] at h1
 cases hq:Js es x (Jt es rs x) (rs[x].take i) with
 | none=>rw [hq] at h1;exact absurd rfl h1
 | some s=>
  have hs:s.length=2*es.length:=by
   cases hq2:Jt es rs x with
   | none=>rw [hq2,kc] at hq;cases hq
   | some t=>rw [hq2] at hq;rw [KG _ _ _ hq,QD hq2]
  rw [hq] at h1;unfold xK at h1;simp only at h1
  split at h1
  ·exact absurd rfl h1
  ·rename_i h2;rw [hs] at h2;omega
theorem QR{n:Int}{es:List (Int×Int)}{rs:List (List Int)}(h:yn n es rs=true):vj n es=true:=by
 unfold yn at h;simp only [Bool.and_eq_true] at h;exact h.1.1
theorem pA{P:Int→Prop}{o:List Int}{k:Nat}{v:Int}(h:∀a∈o,P a)(hv:P v):∀a∈o.set k v,P a:=fun a ha=>by
 rcases List.mem_or_eq_of_mem_set ha with h1 | h1
 ·exact h a h1
 ·rw [h1];exact hv
theorem gZ{m:Nat}{rs:List (List Int)}(hm:0<m)(hin:∀l∈rs,∀a∈l,0≤a∧a<2*(m:Int)):∀a∈vg m rs,0≤a∧a<2*(m:Int):=by
 unfold vg
 suffices ∀k,k≤rs.length → ∀a∈Xi m rs k,0≤a∧a<2*(m:Int) from this _ (Nat.le_refl _)
 intro k
 induction k with
 | zero=>
  intro _ a ha;have:=List.eq_of_mem_replicate (show a∈List.replicate (2*m) 0 from ha);omega
 | succ k ih=>
  intro hk;have ih:=ih (by omega);rw [QU,List.getD_eq_getElem?_getD,List.getElem?_eq_getElem (show k<rs.length by omega)]
  show ∀a∈Va rs[k] (Xi m rs k) rs[k].length,_
  have hl:=hin _ (List.getElem_mem (show k<rs.length by omega));generalize rs[k]=l at *
  suffices ∀i,i≤l.length → ∀a∈Va l (Xi m rs k) i,0≤a∧a<2*(m:Int) from this _ (Nat.le_refl _)
  intro i
  induction i with
  | zero=>exact fun _=>ih
  | succ i ih2=>
   intro hi;rw [QT];refine pA (ih2 (by omega)) ?_;have hj:(i+1)%l.length<l.length:=Nat.mod_lt _ (by omega);rw [List.getD_eq_getElem?_getD,List.getElem?_eq_getElem hj];exact hl _ (List.getElem_mem hj)
theorem Wb{m k:Nat}{rs:List (List Int)}(hk:k<2*m)(hin:∀l∈rs,∀a∈l,0≤a∧a<2*(m:Int)):∃v:Nat,(vg m rs).getD k 0=(v:Int)∧v<2*m:=by
 have hl:k<(vg m rs).length:=by unfold vg;rw [vo];exact hk
 rw [List.getD_eq_getElem?_getD,List.getElem?_eq_getElem hl];obtain ⟨h1,h2⟩:=gZ (by omega) hin _ (List.getElem_mem hl);exact ⟨((vg m rs)[k]).toNat,by show (vg m rs)[k]=_;omega,by omega⟩
def qo(w:World)(b0:Nat)(v:Value)(F:List (List Int)):Prop:=
 ∃sl:List Value,w.ownsRow b0 25 1 v F.length sl ∧ ∀i (h:i<F.length),∃Ai ci,sl[i]? = some (.slice Ai F[i].length ci)∧w.ownsRow b0 3 1 (.slice Ai F[i].length ci) F[i].length (jf F[i])
theorem Vo{w:World}{base size n gs:Nat}{e t:TypeId}{v:Value}{xs:List Value}{cs:Array Value}(h:w.ownsRow base e size v n xs)(hb:Blk w gs t cs)(ht:e≠t):v.ownBlock=none∨v.ownBlock≠some gs:=by
 rcases h.2 with ⟨rfl,_⟩ | ⟨k,cap,cur,rfl,_,hh,_⟩
 ·exact .inl rfl
 ·refine .inr fun e1=>?_;simp [Value.ownBlock] at e1;subst e1;unfold Blk at hb;rw [hh] at hb;injection hb with hb;injection hb with _ hb;exact ht hb
theorem UU{w w':World}{base size n gs:Nat}{e t:TypeId}{v:Value}{xs:List Value}{cs:Array Value}(h:w.ownsRow base e size v n xs)(hb:Blk w gs t cs)(ht:e≠t)(hg:w.grownBy w' (some gs)):w'.ownsRow base e size v n xs:=
 h.kept hg (Vo h hb ht)
theorem mc{a w w':World}{gs:Nat}{row:Option Nat}(h:a.grownBy w (some gs))(hg:w.grownBy w' row)(hr:∀k,row=some k→a.heap.size≤k):a.grownBy w' (some gs):=
 ⟨hg.os.trans h.os,hg.tape.trans h.tape,hg.output.trans h.output,Nat.le_trans h.size hg.size,fun i hi hne=>(hg.block i (Nat.lt_of_lt_of_le hi h.size) (fun e=>by have:=hr i e.symm;omega)).trans (h.block i hi hne)⟩
theorem qo.grown{w w':World}{b0 gs:Nat}{v:Value}{F:List (List Int)}{cs:Array Value}(h:qo w b0 v F)(hb:Blk w gs 4 cs)(hg:w.grownBy w' (some gs)):qo w' b0 v F:=by
 obtain ⟨sl,h1,h2⟩:=h;refine ⟨sl,UU h1 hb (by decide) hg,fun i hi=>?_⟩;obtain ⟨Ai,ci,h3,h4⟩:=h2 i hi;exact ⟨Ai,ci,h3,UU h4 hb (by decide) hg⟩
theorem qo.push{w w':World}{b0:Nat}{v v':Value}{F:List (List Int)}{sl:List Value}{f:List Int}{A:Option Addr}{c:Nat}(ho:w.ownsRow b0 25 1 v F.length sl)
  (h2:∀i (h:i<F.length),∃Ai ci,sl[i]? = some (.slice Ai F[i].length ci)∧w.ownsRow b0 3 1 (.slice Ai F[i].length ci) F[i].length (jf F[i])) (hf:w.ownsRow b0 3 1 (.slice A f.length c) f.length (jf f))
  (hg:w.grownBy w' v.ownBlock) (h':w'.ownsRow b0 25 1 v' (F.length+1) (sl++[.slice A f.length c])):qo w' b0 v' (F++[f]):=by
 have hev:Evo b0 [25] w w':=Evo.of_grown ho hg (by simp) (Nat.le_refl _);have hsl:sl.length=F.length:=by have:=ho.1;omega
 refine ⟨_,by simpa using h',fun i hi=>?_⟩;by_cases hlt:i<F.length
 ·obtain ⟨Ai,ci,h3,h4⟩:=h2 i hlt;rw [List.getElem_append_left hlt];exact ⟨Ai,ci,by rw [List.getElem?_append_left (by omega)];exact h3,qA h4 hev (by decide)⟩
 ·have hie:i=F.length:=by simp at hi;omega
  subst hie;simp only [List.getElem_concat_length];exact ⟨A,c,by rw [List.getElem?_append_right (by omega),hsl];simp,qA hf hev (by decide)⟩
end Go.Proofs.YtneeknlhlkpnpaaGreat
namespace Go.Proofs.YtneeknlhlkpnpaaGreat
open Go.RowKit
theorem YN{nx:List Int}{f:Nat}{seen:List Bool}{h:Nat}{face:List Int}(hs:seen.getD h false=true):Ja nx f seen h face=(seen,face):=by
 cases f with
 | zero=>rfl
 | succ f=>unfold Ja;rw [if_pos hs]
theorem bK{nx:List Int}{f:Nat}{seen:List Bool}{h:Nat}{face:List Int}(hs:seen.getD h false=false):Ja nx (f+1) seen h face=Ja nx f (seen.set h true) (nx.getD h 0).toNat (face++[(h:Int)]):=by
 conv=>lhs;unfold Ja
 rw [if_neg (by rw [hs];simp)]
theorem count_set{seen:List Bool}{h:Nat}(hh:h<seen.length)(hs:seen.getD h false=false):(seen.set h true).count false+1=seen.count false:=by
 rw [List.count_set hh];have e1:seen[h]=false:=by rw [List.getD_eq_getElem?_getD,List.getElem?_eq_getElem hh] at hs;exact hs
 have:0<seen.count false:=List.count_pos_iff.2 (by rw [←e1];exact List.getElem_mem hh);simp [e1];omega
def uA(w:World)(base:Nat)(A:Option Addr)(rs:List (List Int)):Prop:=
 0<rs.length → ∃b off,A=some ⟨b,off,none⟩∧base≤b∧b<w.heap.size ∧ ∀i (h:i<rs.length),∃Ai ci,w.cell? ⟨b,off+i,none⟩=some (.slice Ai rs[i].length ci) ∧
  (0<rs[i].length → ∃bi oi,Ai=some ⟨bi,oi,none⟩∧base≤bi∧bi<w.heap.size ∧ ∀j (hj:j<rs[i].length),w.cell? ⟨bi,oi+j,none⟩=some (.int .i64 rs[i][j]))
theorem uA.keep{w w':World}{base:Nat}{A:Option Addr}{rs:List (List Int)}(h:uA w base A rs)(hs:w.heap.size≤w'.heap.size)(hk:∀p:Addr,base≤p.block→p.block<w.heap.size→w'.cell? p=w.cell? p):uA w' base A rs:=fun hn=>by
 obtain ⟨b,off,e,h1,h2,hc⟩:=h hn;refine ⟨b,off,e,h1,by omega,fun i hi=>?_⟩;obtain ⟨Ai,ci,h3,h4⟩:=hc i hi;refine ⟨Ai,ci,(hk _ h1 h2).trans h3,fun hp=>?_⟩;obtain ⟨bi,oi,e2,h5,h6,h7⟩:=h4 hp;exact ⟨bi,oi,e2,h5,by omega,fun j hj=>(hk _ h5 h6).trans (h7 j hj)⟩
theorem uA.at_{w:World}{base:Nat}{A:Option Addr}{rs:List (List Int)}(h:uA w base A rs):qm w w.heap.size A rs:=fun hn=>by
 obtain ⟨b,off,e,h1,h2,hc⟩:=h hn;refine ⟨b,off,e,h2,fun i hi=>?_⟩;obtain ⟨Ai,ci,h3,h4⟩:=hc i hi;refine ⟨Ai,ci,h3,fun hp=>?_⟩;obtain ⟨bi,oi,e2,h5,h6,h7⟩:=h4 (by simpa [jf] using hp);refine ⟨bi,oi,e2,h6,fun j u hu=>?_⟩;simp only [jf,List.getElem?_map,Option.map_eq_some_iff] at hu;obtain ⟨z,hz,rfl⟩:=hu;obtain ⟨hj,rfl⟩:=List.getElem?_eq_some_iff.1 hz;exact h7 j hj
theorem qo.hi{w:World}{b0:Nat}{v:Value}{F:List (List Int)}(h:qo w b0 v F):∃A c,v = .slice A F.length c∧uA w b0 A F:=by
 obtain ⟨sl,h1,h2⟩:=h;obtain ⟨A,c,rfl⟩:=jv h1;refine ⟨A,c,rfl,fun hn=>?_⟩;have hsl:sl.length=F.length:=by have:=h1.1;omega
 obtain ⟨g,cap,R,he,hg,hk,_⟩:=xO h1 hn;injection he with he;subst he;refine ⟨g,0,rfl,hg,hk.lt,fun i hi=>?_⟩;obtain ⟨Ai,ci,h3,h4⟩:=h2 i hi;refine ⟨Ai,ci,?_,fun hp=>?_⟩
 ·rw [Nat.zero_add,hk.cell i,Array.getElem?_append_left (by simp;omega)];simpa using h3
 ·obtain ⟨gi,capi,Ri,hei,hgi,hki,_⟩:=xO h4 hp;injection hei with hei;subst hei;refine ⟨gi,0,rfl,hgi,hki.lt,fun j hj=>?_⟩;rw [Nat.zero_add,hki.cell j,Array.getElem?_append_left (by simpa [jf] using hj)];simp [jf,hj]
def Ky(F:List (List Int))(w:World)(e:Ending)(w':World):Prop:=∃A c,e = .returned (.slice A F.length c)∧Below w.heap.size w w'∧uA w' w.heap.size A F
def Wz(F:List (List Int))(w:World)(e:Ending)(w':World):Prop:=∃A c,e = .returned (.slice A F.length c)∧Below w.heap.size w w'∧qm w' w'.heap.size A F
set_option maxHeartbeats 4000000 in
theorem Ko(n:Int)(A C:Option Addr)(cap ccap:Nat)(es:List (Int×Int))(rs:List (List Int))(w:World)(hes:jr w w.heap.size A (jA es))(hrs:qm w w.heap.size C rs)(hr1:rs.length≤1000)(hr2:∀l∈rs,l.length≤1000) :
  Calls Tryz.prog 50 #[.agg #[.int .i64 n,.slice A es.length cap],.slice C rs.length ccap] w (Ky (jE n es rs) w):=by
 go_enter Tryz.func50,Tryz.ntmps50
 go_wp2_with fail;have b0:=World.cell?_alloc_new w #[.int .i64 n,.slice A es.length cap] 24 0;have b1:=World.cell?_alloc_new w #[.int .i64 n,.slice A es.length cap] 24 1;simp only [List.getElem?_toArray,List.getElem?_cons_zero,List.getElem?_cons_succ] at b0 b1;have hbw:=(Below.refl w.heap.size w).alloc (Nat.le_refl _) (.cells #[.int .i64 n,.slice A es.length cap] 24);have s1:=World.size_alloc w (.cells #[.int .i64 n,.slice A es.length cap] 24);generalize w.alloc (.cells #[.int .i64 n,.slice A es.length cap] 24)=w1 at *;refine (Vi n A C cap ccap es rs w1 ((hes.below hbw).more (by omega)) ((hrs.below hbw).more (by omega)) hr1 hr2).mono ?_;rintro e w2 ⟨rfl,hb2⟩;have c0:=(hb2.cell (p:=⟨w.heap.size,0,none⟩) (by simp;omega)).trans b0;have c1:=(hb2.cell (p:=⟨w.heap.size,1,none⟩) (by simp;omega)).trans b1;have hb3:=hbw.trans (hb2.mono (by omega));have l2:w.heap.size<w2.heap.size:=by have:=hb2.size;omega
 clear b0 b1 hb2 hbw s1
 cases hm:yn n es rs with
 | false=>
  have HF:=Lib.hid (show jE n es rs=[] by unfold jE;rw [hm];rfl);clear hm;go_wp2_with fail;go_ret;exact ⟨none,0,by rw [HF.out];rfl,hb3,by rw [HF.out];exact fun h=>absurd h (by simp)⟩
 | true=>
  have HF:=Lib.hid (show jE n es rs=GH (vg es.length rs) by unfold jE;rw [hm];rfl);have Hin:=Lib.hid (lN hm);obtain ⟨hn0,hn1,hn2⟩:=jP (QR hm);clear hm;have hnl:(vg es.length rs).length=2*es.length:=vo _ _ _;have Hat:=Lib.hid (fun (k:Nat) (hk:k<2*es.length)=>Wb (rs:=rs) hk Hin.out);go_wp2_with fail;refine (gY n A C cap ccap es rs w2 ((hrs.below hb3).more (by omega)) (by omega) hr1 hr2 Hin.out).mono ?_;rintro e w3 ⟨gn,rfl,hb4,hgn,hbn⟩;have hb5:=hb3.trans (hb4.mono (by omega));have hgn3:=hbn.lt;clear c0 c1 hb3 hb4 hes hrs;generalize vg es.length rs=nx at *;generalize hN:es.length=m at *
  have hmk:∀W,(Instr.makeSlice 113 (.int .i64 ((2*m:Nat):Int)) (.int .i64 ((2*m:Nat):Int))).run Tryz.prog W = .ok (.slice (some ⟨W.heap.size,0,none⟩) (2*m:Nat) (2*m:Nat)) (W.alloc (.cells (List.replicate (2*m) (Value.bool false)).toArray 4)):=fun W=>
   yz kw rfl (2*m) (by omega) (by omega) W
  have hNb:2*m≤256:=by omega
  generalize 2*m=N at *;go_wp2_with fail
  have g0:Blk (w3.alloc (.cells (Array.replicate N (Value.bool false)) 4)) w3.heap.size 4 (jD (ul nx 0).1).toArray:=by
   have:=Blk.new w3 4 (Array.replicate N (Value.bool false))
   show Blk _ _ _ (jD (List.replicate nx.length false)).toArray
   rw [hnl,←xa];simpa using this
  have hb6:=hb5.alloc hb5.size (.cells (Array.replicate N (Value.bool false)) 4);have hbn6:=hbn.alloc (.cells (Array.replicate N (Value.bool false)) 4);have lw3:w.heap.size<w3.heap.size:=by omega
  generalize w3.alloc (.cells (Array.replicate N (Value.bool false)) 4)=w4 at *;generalize w3.heap.size=gs at *;clear hb5 hbn hmk hN hn0 hn1 hn2
  go_loopg [4,22] N (fun k s4 s22 wr=>∃i:Nat,s22 = .int .i64 i∧i≤N∧k=N-i∧Below w.heap.size w wr∧Blk wr gn 3 (jf nx).toArray∧Blk wr gs 4 (jD (ul nx i).1).toArray∧qo wr w.heap.size s4 (ul nx i).2∧(ul nx i).2.length≤i)
  case atStart=>exact ⟨0,rfl,Nat.zero_le _,rfl,hb6,hbn6,g0,⟨[],World.ownsRow_nil _ _ _ _,fun i hi=>absurd hi (by simp [ul])⟩,by simp [ul]⟩
  case round=>
   clear hb6 hbn6 g0;obtain ⟨i,rfl,hi,hk,hb,hbn,hbs,hF,hFl⟩:=hrel;have Hk:=Lib.hid hk;clear hk;by_cases hlt:i<N
   ·have hlt':(i:Int)<N:=by omega
    have hsl:(ul nx i).1.length=N:=(Wo nx i).trans hnl;have HS:=Lib.hid (show ul nx (i+1)=Ue nx ((ul nx i).1,(ul nx i).2) i from VB nx i);have HF0:=Lib.hid hF;obtain ⟨w0,rfl⟩:∃x,x=wr:=⟨_,rfl⟩;clear hF;generalize (ul nx i).1=seen0 at *;generalize (ul nx i).2=F at *;have HH:=Lib.hid (And.intro hb (And.intro hbn hbs));have hgsl:=hbs.lt;have hs0:=hb.size;clear hb hbn hbs;go_wp2_with fail
    go_loopg [8,9] (seen0.count false) (fun k s8 s9 wr=>∃(seen:List Bool) (h fuel:Nat) (face:List Int) (Af:Option Addr) (cf:Nat),s9 = .int .i64 h∧h<N∧s8 = .slice Af face.length cf∧k=seen.count false∧seen.length=N∧seen.count false<fuel∧Ja nx fuel seen h face=Ja nx (nx.length+1) seen0 i [] ∧
     w0.grownBy wr (some gs)∧Blk wr gs 4 (jD seen).toArray∧wr.ownsRow w0.heap.size 3 1 (.slice Af face.length cf) face.length (jf face)∧face.length+seen.count false≤N)
    case atStart=>
     have hcl:seen0.count false≤seen0.length:=List.count_le_length;exact ⟨seen0,i,nx.length+1,[],none,0,rfl,hlt,rfl,rfl,hsl,by omega,rfl,World.grownBy.refl _ _,HH.out.2.2,World.ownsRow_nil _ _ _ _,by simp;omega⟩
    case round=>
     obtain ⟨seen,h,fuel,face,Af,cf,rfl,hh,rfl,hk,hsn,hfu,hw,hgr,hbs,hown,hfl⟩:=hrel;have Hk2:=Lib.hid hk;clear hk;have Hw:=Lib.hid hw;clear hw;have Hgr:=Lib.hid hgr;clear hgr;have hh':(h:Int)<N:=by omega
     have d0:=hbs.bool (k:=h) (by omega)
     cases hsh:seen.getD h false with
     | true=>
      have HR:=Lib.hid (show Ue nx (seen0,F) i=(seen,if 0<face.length then F++[face] else F) by
       unfold Ue
       simp only [←Hw.out,YN hsh])
      rw [hsh] at d0;clear hsh;have hF2:=HF0.out.grown HH.out.2.2 Hgr.out;have hbn2:=HH.out.2.1.grown Hgr.out (fun e=>by injection e with e;omega);have hb2:=HH.out.1.grown Hgr.out hs0 (fun k e=>by injection e with e;omega);have hsr:=Hgr.out.size;by_cases hpos:0<face.length
      ·rw [if_pos hpos] at HR;have hpos':((face.length:Int))>0:=by omega
       obtain ⟨sl,ho,h2⟩:=hF2;have Ho:=Lib.hid h2;clear h2;go_wp2_with (at_builtin;refine yC KO rfl _ _ rfl w.heap.size u4 _ _ rfl wr.heap.size [.slice Af face.length cf] rfl rfl ho rfl rfl ?h2 ?h3 ?h4 ?_)
       case h2=>omega
       case h3=>omega
       case h4=>omega
       intro v' w' hown' hg' _;have hb':=qb hb2 ho hg' (by omega) (Nat.le_refl _)
       have hbn':=hbn2.grown hg' (fun e=>by
        rcases Vo ho hbn2 (by decide) with h | h
        ·rw [h] at e;cases e
        ·exact h e.symm)
       have hbs':=hbs.grown hg' (fun e=>by
        rcases Vo ho hbs (by decide) with h | h
        ·rw [h] at e;cases e
        ·exact h e.symm)
       have hF':=qo.push ho Ho.out (qh hown hs0) hg' hown';have HX:=Lib.hid (And.intro hb' (And.intro hbn' (And.intro hbs' hF')));clear hb' hbn' hbs' hF' ho hown' hg' hown hb2 hbn2 hbs Ho;go_wp2_with fail
       go_roundg (N-(i+1))
       case measure=>rw [Hk.out];omega
       case rel=>exact ⟨i+1,by go_num,by omega,rfl,HX.out.1,HX.out.2.1,by rw [HS.out,HR.out];exact HX.out.2.2.1,by rw [HS.out,HR.out];exact HX.out.2.2.2,by rw [HS.out,HR.out];simp;omega⟩
      ·rw [if_neg hpos] at HR;have hz:face.length=0:=by omega
       have HX:=Lib.hid (And.intro hb2 (And.intro hbn2 (And.intro hbs hF2)));clear hb2 hbn2 hbs hF2 hown;go_wp2_with fail
       go_roundg (N-(i+1))
       case measure=>rw [Hk.out];omega
       case rel=>exact ⟨i+1,by go_num,by omega,rfl,HX.out.1,HX.out.2.1,by rw [HS.out,HR.out];exact HX.out.2.2.1,by rw [HS.out,HR.out];exact HX.out.2.2.2,by rw [HS.out,HR.out];simp;omega⟩
     | false=>
      obtain ⟨f,rfl⟩:∃f,fuel=f+1:=⟨fuel-1,by omega⟩;have hcs:=count_set (seen:=seen) (h:=h) (by omega) hsh;obtain ⟨v,hv,hvN⟩:=Hat.out h hh
      have HW2:=Lib.hid (show Ja nx f (seen.set h true) v (face++[(h:Int)])=Ja nx (nx.length+1) seen0 i [] by
       rw [←Hw.out,bK hsh,hv];rfl)
      rw [hsh] at d0;clear hsh;have f0:=hbs.frozen h;have S1:=hbs.setBool h true;have hsr:=Hgr.out.size;have hgr2:=zP Hgr.out (p:=⟨gs,h,none⟩) (.inl rfl) (.bool true);have hown2:(wr.setCell ⟨gs,h,none⟩ (.bool true)).ownsRow w0.heap.size 3 1 (.slice Af face.length cf) face.length (jf face):=oB hown hbs (by decide) h _;have hs2:(wr.setCell ⟨gs,h,none⟩ (.bool true)).heap.size=wr.heap.size:=by simp [World.setCell]
      have HG2:=Lib.hid hgr2;clear hgr2
      go_upto_region 13 with fail
      have HS1:=Lib.hid S1;clear S1 hbs hown d0 f0;generalize wr.setCell ⟨gs,h,none⟩ (.bool true)=wS at *;have hsS:=HG2.out.size;go_wp2_with (at_builtin;refine yC qz rfl _ _ rfl w0.heap.size (.slice Af face.length cf) _ _ rfl wr.heap.size [.int .i64 (h:Int)] rfl hs2.symm hown2 rfl rfl ?h2 ?h3 ?h4 ?_)
      case h2=>omega
      case h3=>omega
      case h4=>omega
      intro v' w' hown' hg' _;have hgr3:=mc HG2.out hg' (fun k e=>(hown2.lt k e).1);have hbs3:=HS1.out.grown hg' (fun e=>by have:=(hown2.lt gs e.symm).1;omega);have hbn3:=(HH.out.2.1.grown hgr3 (fun e=>by injection e with e;omega)).int_ (k:=h) (by omega);rw [hv] at hbn3;obtain ⟨A5,c5,rfl⟩:=jv hown';have HY:=Lib.hid (And.intro hgr3 hbs3);clear hgr3 hbs3 hg' hown2 HG2 HS1;go_wp2_with fail
      go_roundg ((seen.set h true).count false)
      case measure=>rw [Hk2.out];omega
      case rel=>exact ⟨seen.set h true,v,f,face++[(h:Int)],A5,c5,rfl,hvN,by simp,rfl,by simp [hsn],by omega,HW2.out,HY.out.1,HY.out.2,by simpa [jf] using hown',by simp;omega⟩
   ·have hie:i=N:=by omega
    subst hie;obtain ⟨A4,c4,rfl,hR⟩:=hF.hi;have HX:=Lib.hid (show jE n es rs=(ul nx i).2 by rw [HF.out];unfold GH;rw [hnl]);go_wp2_with fail;go_ret;exact ⟨A4,c4,by rw [HX.out];rfl,hb,by rw [HX.out];exact hR⟩
theorem Wl(n:Int)(A C:Option Addr)(cap ccap:Nat)(es:List (Int×Int))(rs:List (List Int))(w:World)(hes:jr w w.heap.size A (jA es))(hrs:qm w w.heap.size C rs)(hr1:rs.length≤1000)(hr2:∀l∈rs,l.length≤1000) :
  Calls Tryz.prog 50 #[.agg #[.int .i64 n,.slice A es.length cap],.slice C rs.length ccap] w (Wz (jE n es rs) w):=
 (Ko n A C cap ccap es rs w hes hrs hr1 hr2).mono fun _ _ ⟨A',c',h1,h2,h3⟩=>⟨A',c',h1,h2,h3.at_⟩
end Go.Proofs.YtneeknlhlkpnpaaGreat
namespace Go.Proofs.YtneeknlhlkpnpaaGreat
open Go.RowKit
structure RightP(n:Int)(es:List (Int×Int))(rs:List (List Int)):Prop where
 may:vj n es=true
 len:(rs.length:Int)=n
 at_:∀x (hx:x<rs.length),∀a∈rs[x],0≤a∧a<2*(es.length:Int)∧atE es a.toNat=(x:Int)
 nd:∀x (hx:x<rs.length),rs[x].Nodup
 cov:∀h,h<2*es.length → ∃x,∃hx:x<rs.length,(h:Int)∈rs[x]
theorem Ji(s:List Bool)(i j:Nat)(hi:i<s.length):(s.set i true).getD j false=(decide (j=i)||s.getD j false):=by
 rw [List.getD_eq_getElem?_getD,List.getElem?_set,List.getD_eq_getElem?_getD];by_cases h:i=j
 ·subst h;simp [hi]
 ·simp [h,Ne.symm h]
theorem eD{es:List (Int×Int)}{x:Nat}:∀(l:List Int) (s s':List Bool),Js es x (some s) l=some s'→s.length=2*es.length →
  l.Nodup∧(∀a∈l,0≤a∧a<2*(es.length:Int)∧atE es a.toNat=(x:Int)∧s.getD a.toNat false=false) ∧ ∀h:Nat,(s'.getD h false=true↔s.getD h false=true∨(h:Int)∈l)
 | [],s,s',h,_=>by
  injection h with h;subst h;exact ⟨List.nodup_nil,fun a ha=>absurd ha (by simp),fun h=>by simp⟩
 | a::r,s,s',h,hs=>by
  have h':Js es x (xK es x (some s) a) r=some s':=h
  cases hq:xK es x (some s) a with
  | none=>rw [hq,kc] at h';cases h'
  | some t=>
   rw [hq] at h';unfold xK at hq;simp only at hq
   split at hq
   ·cases hq
   ·rename_i h1
    split at hq
    ·cases hq
    ·rename_i h2
     split at hq
     ·cases hq
     ·rename_i h3;injection hq with hq;subst hq;have h1:0≤a∧a<2*(es.length:Int):=by rw [hs] at h1;omega
      have h2:s.getD a.toNat false=false:=by simpa using h2
      have h3:atE es a.toNat=(x:Int):=by simpa using h3
      have hlt:a.toNat<s.length:=by omega
      obtain ⟨i1,i2,i3⟩:=eD r (s.set a.toNat true) s' h' (by simp [hs])
      have hne:∀b∈r,b≠a:=fun b hb e=>by
       have:=(i2 b hb).2.2.2;rw [e,Ji _ _ _ hlt] at this;simp at this
      refine ⟨List.nodup_cons.2 ⟨fun hm=>hne a hm rfl,i1⟩,fun b hb=>?_,fun k=>?_⟩
      ·rcases List.mem_cons.1 hb with rfl | hb
       ·exact ⟨h1.1,h1.2,h3,h2⟩
       ·obtain ⟨j1,j2,j3,j4⟩:=i2 b hb;rw [Ji _ _ _ hlt,Bool.or_eq_false_iff] at j4;exact ⟨j1,j2,j3,j4.2⟩
      ·rw [i3 k,Ji _ _ _ hlt,Bool.or_eq_true,decide_eq_true_eq,List.mem_cons];constructor
       ·rintro ((h | h) | h)
        ·exact .inr (.inl (by omega))
        ·exact .inl h
        ·exact .inr (.inr h)
       ·rintro (h | h | h)
        ·exact .inl (.inr h)
        ·exact .inl (.inl (by omega))
        ·exact .inr h
theorem XZ{es:List (Int×Int)}{x:Nat}:∀(l:List Int) (s:List Bool),s.length=2*es.length→l.Nodup→(∀a∈l,0≤a∧a<2*(es.length:Int)∧atE es a.toNat=(x:Int)∧s.getD a.toNat false=false) → ∃s',Js es x (some s) l=some s'
 | [],s,_,_,_=>⟨s,rfl⟩
 | a::r,s,hs,hnd,h=>by
  obtain ⟨h1,h2,h3,h4⟩:=h a (List.mem_cons_self ..)
  have e:xK es x (some s) a=some (s.set a.toNat true):=by
   unfold xK;simp only;rw [if_neg (by rw [hs];omega),if_neg (by rw [h4];simp),if_neg (by simp [h3])]
  obtain ⟨s',hs'⟩:=XZ (es:=es) (x:=x) r (s.set a.toNat true) (by simp [hs]) (List.nodup_cons.1 hnd).2 (fun b hb=>by
   obtain ⟨j1,j2,j3,j4⟩:=h b (List.mem_cons_of_mem _ hb);refine ⟨j1,j2,j3,?_⟩;rw [Ji _ _ _ (by omega),j4,Bool.or_false,decide_eq_false_iff_not];intro e2;have:b=a:=by omega
   exact (List.nodup_cons.1 hnd).1 (this▸hb))
  exact ⟨s',by show Js es x (xK es x (some s) a) r=_;rw [e];exact hs'⟩
theorem Xx{es:List (Int×Int)}{rs:List (List Int)}:∀(k:Nat) (s:List Bool),k≤rs.length→Jt es rs k=some s →
  (∀x (hx:x<rs.length),x<k→rs[x].Nodup ∧ ∀a∈rs[x],0≤a∧a<2*(es.length:Int)∧atE es a.toNat=(x:Int)) ∧ ∀h:Nat,(s.getD h false=true ↔ ∃x,∃hx:x<rs.length,x<k∧(h:Int)∈rs[x])
 | 0,s,_,h=>by
  injection h with h;subst h;refine ⟨fun x _ hx=>absurd hx (by omega),fun h=>?_⟩;rw [List.getD_eq_getElem?_getD,List.getElem?_replicate];constructor
  ·intro h2
   split at h2<;>cases h2
  ·rintro ⟨x,_,hx,_⟩;omega
 | k+1,s,hk,h=>by
  rw [kY] at h
  cases hq:Jt es rs k with
  | none=>rw [hq,kc] at h;cases h
  | some t=>
   rw [hq] at h;have hkl:k<rs.length:=by omega
   have e:rs.getD k []=rs[k]:=by rw [List.getD_eq_getElem?_getD,List.getElem?_eq_getElem hkl];rfl
   rw [e] at h;obtain ⟨i1,i2⟩:=Xx k t (by omega) hq;obtain ⟨j1,j2,j3⟩:=eD _ _ _ h (QD hq);refine ⟨fun x hx hxk=>?_,fun a=>?_⟩
   ·by_cases hxe:x=k
    ·subst hxe;exact ⟨j1,fun a ha=>⟨(j2 a ha).1,(j2 a ha).2.1,(j2 a ha).2.2.1⟩⟩
    ·exact i1 x hx (by omega)
   ·rw [j3 a,i2 a];constructor
    ·rintro (⟨x,hx,hxk,hm⟩ | hm)
     ·exact ⟨x,hx,by omega,hm⟩
     ·exact ⟨k,hkl,by omega,hm⟩
    ·rintro ⟨x,hx,hxk,hm⟩;by_cases hxe:x=k
     ·subst hxe;exact .inr hm
     ·exact .inl ⟨x,hx,by omega,hm⟩
theorem qZ{n:Int}{es:List (Int×Int)}{rs:List (List Int)}:yn n es rs=true↔RightP n es rs:=by
 constructor
 ·intro h;have hm:=QR h;unfold yn at h;rw [hm,Bool.true_and,Bool.and_eq_true,decide_eq_true_eq] at h;obtain ⟨hl,h⟩:=h
  cases hq:Jt es rs rs.length with
  | none=>rw [hq] at h;cases h
  | some s=>
   rw [hq] at h;have hs:=QD hq;obtain ⟨h1,h2⟩:=Xx _ _ (Nat.le_refl _) hq;refine ⟨hm,hl,fun x hx=>(h1 x hx hx).2,fun x hx=>(h1 x hx hx).1,fun k hk=>?_⟩
   have:s.getD k false=true:=by
    cases hb:s.getD k false with
    | true=>rfl
    | false=>
     have:false∈s:=by
      rw [List.getD_eq_getElem?_getD,List.getElem?_eq_getElem (show k<s.length by omega)] at hb;rw [←show s[k]=false from hb];exact List.getElem_mem _
     simp [this] at h
   obtain ⟨x,hx,_,hm⟩:=(h2 k).1 this;exact ⟨x,hx,hm⟩
 ·intro h
  have tot:∀k,k≤rs.length → ∃s,Jt es rs k=some s:=by
   intro k
   induction k with
   | zero=>exact fun _=>⟨_,rfl⟩
   | succ k ih=>
    intro hk;obtain ⟨s,hs⟩:=ih (by omega);have hkl:k<rs.length:=by omega
    obtain ⟨_,h2⟩:=Xx k s (by omega) hs
    obtain ⟨s',hs'⟩:=XZ (es:=es) (x:=k) rs[k] s (QD hs) (h.nd k hkl) (fun a ha=>by
     obtain ⟨a1,a2,a3⟩:=h.at_ k hkl a ha;refine ⟨a1,a2,a3,?_⟩;rw [←Bool.not_eq_true,h2];rintro ⟨x,hx,hxk,hm⟩;have:=(h.at_ x hx _ hm).2.2;rw [show ((a.toNat:Nat):Int).toNat=a.toNat from rfl,a3] at this
     omega)
    refine ⟨s',?_⟩;rw [kY,hs,List.getD_eq_getElem?_getD,List.getElem?_eq_getElem hkl];exact hs'
  obtain ⟨s,hs⟩:=tot _ (Nat.le_refl _);obtain ⟨_,h2⟩:=Xx _ s (Nat.le_refl _) hs;unfold yn;rw [h.may,decide_eq_true h.len,hs]
  have:false∉s:=fun hm=>by
   obtain ⟨k,hk,he⟩:=List.mem_iff_getElem.1 hm;obtain ⟨x,hx,hmx⟩:=h.cov k (by rw [QD hs] at hk;exact hk);have:=(h2 k).2 ⟨x,hx,hx,hmx⟩;rw [List.getD_eq_getElem?_getD,List.getElem?_eq_getElem hk,he] at this
   cases this
  simp [this]
theorem VA(s:List Int)(i j:Nat)(v:Int)(hi:i<s.length):(s.set i v).getD j 0=if j=i then v else s.getD j 0:=by
 rw [List.getD_eq_getElem?_getD,List.getElem?_set,List.getD_eq_getElem?_getD];by_cases h:i=j
 ·subst h;simp [hi]
 ·simp [h,Ne.symm h]
theorem Vr{l:List Int}(h:l.Nodup){i j:Nat}(hi:i<l.length)(hj:j<l.length)(e:l[i]=l[j]):i=j:=by
 have h:=List.pairwise_iff_getElem.1 (List.nodup_iff_pairwise_ne.1 h);rcases Nat.lt_trichotomy i j with h1 | h1 | h1
 ·exact absurd e (h i j hi hj h1)
 ·exact h1
 ·exact absurd e.symm (h j i hj hi h1)
theorem GF{a b:Nat}(h:ot a=ot b):a=b:=by rw [←Qf a,h,Qf]
theorem eO{l o:List Int}{m:Nat}(hm:o.length=2*m)(hnd:l.Nodup)(hin:∀a∈l,0≤a∧a<2*(m:Int)):∀k,k≤l.length →
  (∀i (hi:i<l.length),i<k→(Va l o k).getD (ot l[i].toNat) 0=l.getD ((i+1)%l.length) 0) ∧ ∀p,(∀a∈l,p≠ot a.toNat)→(Va l o k).getD p 0=o.getD p 0
 | 0,_=>⟨fun i _ hi=>absurd hi (by omega),fun p _=>rfl⟩
 | k+1,hk=>by
  obtain ⟨h1,h2⟩:=eO hm hnd hin k (by omega);have hkl:k<l.length:=by omega
  have e:l.getD k 0=l[k]:=by rw [List.getD_eq_getElem?_getD,List.getElem?_eq_getElem hkl];rfl
  obtain ⟨b1,b2⟩:=hin _ (List.getElem_mem hkl);have hlt:ot l[k].toNat<(Va l o k).length:=by rw [Qr,hm];exact xY (by omega)
  rw [QT];unfold cC;rw [e];refine ⟨fun i hi hik=>?_,fun p hp=>?_⟩
  ·rw [VA _ _ _ _ hlt];by_cases hie:i=k
   ·subst hie;rw [if_pos rfl]
   ·rw [if_neg]
    ·exact h1 i hi (by omega)
    ·intro he;have he:=GF he;obtain ⟨c1,c2⟩:=hin _ (List.getElem_mem hi);have:l[i]=l[k]:=by omega
     exact hie (Vr hnd hi hkl this)
  ·rw [VA _ _ _ _ hlt,if_neg (hp _ (List.getElem_mem hkl))];exact h2 p hp
theorem KJ{n:Int}{es:List (Int×Int)}{rs:List (List Int)}(h:RightP n es rs){x i:Nat}(hx:x<rs.length)(hi:i<rs[x].length) :
  (vg es.length rs).getD (ot rs[x][i].toNat) 0=rs[x][(i+1)%rs[x].length]'(Nat.mod_lt _ (by omega)):=by
 have key:∀k,k≤rs.length → ∀x (hx:x<rs.length),x<k → ∀i (hi:i<rs[x].length),(Xi es.length rs k).getD (ot rs[x][i].toNat) 0=rs[x].getD ((i+1)%rs[x].length) 0:=by
  intro k
  induction k with
  | zero=>exact fun _ x _ hx=>absurd hx (by omega)
  | succ k ih=>
   intro hk x hx hxk i hi;have hkl:k<rs.length:=by omega
   obtain ⟨h1,h2⟩:=eO (o:=Xi es.length rs k) (vo _ _ _) (h.nd k hkl) (fun a ha=>⟨(h.at_ k hkl a ha).1,(h.at_ k hkl a ha).2.1⟩) rs[k].length (Nat.le_refl _);rw [QU,List.getD_eq_getElem?_getD (l:=rs),List.getElem?_eq_getElem hkl]
   show (Va rs[k] (Xi es.length rs k) rs[k].length).getD _ 0=_
   by_cases hxe:x=k
   ·subst hxe;exact h1 i hi hi
   ·rw [h2 _ (fun a ha he=>?_)]
    ·exact ih (by omega) x hx (by omega) i hi
    ·have he:=GF he;have a1:=(h.at_ k hkl a ha).2.2;have a2:=(h.at_ x hx _ (List.getElem_mem hi)).2.2;rw [←he,a2] at a1;omega
 have:=key rs.length (Nat.le_refl _) x hx hx i hi;unfold vg;rw [this,List.getD_eq_getElem?_getD,List.getElem?_eq_getElem (Nat.mod_lt _ (by omega))];rfl
end Go.Proofs.YtneeknlhlkpnpaaGreat
namespace Go.Proofs.YtneeknlhlkpnpaaGreat
def qQ(f:Nat→Nat):Nat→Nat→Nat
 | 0,x=>x
 | i+1,x=>qQ f i (f x)
theorem kv(f:Nat→Nat)(i j x:Nat):qQ f (i+j) x=qQ f j (qQ f i x):=by
 induction i generalizing x with
 | zero=>rw [Nat.zero_add];rfl
 | succ i ih=>rw [Nat.add_right_comm];exact ih (f x)
theorem ua(f:Nat→Nat)(i x:Nat):qQ f (i+1) x=f (qQ f i x):=by rw [kv f i 1 x];rfl
structure Perm(N:Nat)(f:Nat→Nat):Prop where
 lt:∀x,x<N→f x<N
 inj:∀x y,x<N→y<N→f x=f y→x=y
section
variable {N:Nat}{f:Nat→Nat}
theorem Perm.iter_lt(h:Perm N f)(i:Nat){x:Nat}(hx:x<N):qQ f i x<N:=by
 induction i generalizing x with
 | zero=>exact hx
 | succ i ih=>exact ih (h.lt x hx)
theorem Perm.iter_inj(h:Perm N f)(i:Nat){x y:Nat}(hx:x<N)(hy:y<N)(e:qQ f i x=qQ f i y):x=y:=by
 induction i generalizing x y with
 | zero=>exact e
 | succ i ih=>exact h.inj x y hx hy (ih (h.lt x hx) (h.lt y hy) e)
theorem Perm.period(h:Perm N f){x:Nat}(hx:x<N):∃p,0<p∧p≤N∧qQ f p x=x:=by
 apply Classical.byContradiction;intro hno;have hne:∀p,0<p→p≤N→qQ f p x≠x:=fun p h1 h2 h3=>hno ⟨p,h1,h2,h3⟩
 have hnd:((List.range (N+1)).map fun i=>qQ f i x).Nodup:=by
  rw [List.nodup_iff_pairwise_ne,List.pairwise_map];refine List.Pairwise.imp_of_mem ?_ (List.pairwise_lt_range (n:=N+1));intro i j hi hj hij e;have hj:=List.mem_range.1 hj
  have e2:qQ f i x=qQ f i (qQ f (j-i) x):=by
   rw [←kv f (j-i) i x,show j-i+i=j by omega];exact e
  exact hne (j-i) (by omega) (by omega) (h.iter_inj i hx (h.iter_lt _ hx) e2).symm
 have hsub:((List.range (N+1)).map fun i=>qQ f i x)⊆List.range N:=by
  intro y hy;obtain ⟨i,_,rfl⟩:=List.mem_map.1 hy;exact List.mem_range.2 (h.iter_lt i hx)
 have:=List.Nodup.length_le_of_subset hnd hsub;simp at this;omega
def Orb(f:Nat→Nat)(x y:Nat):Prop:=∃i,qQ f i x=y
theorem Orb.refl(f:Nat→Nat)(x:Nat):Orb f x x:=⟨0,rfl⟩
theorem Orb.trans{x y z:Nat}(h:Orb f x y)(k:Orb f y z):Orb f x z:=by
 obtain ⟨i,rfl⟩:=h;obtain ⟨j,rfl⟩:=k;exact ⟨i+j,kv f i j x⟩
theorem Orb.step(f:Nat→Nat)(x:Nat):Orb f x (f x):=⟨1,rfl⟩
theorem Orb.lt(h:Perm N f){x y:Nat}(hx:x<N)(o:Orb f x y):y<N:=by
 obtain ⟨i,rfl⟩:=o;exact h.iter_lt i hx
theorem bA{p x:Nat}(hp:qQ f p x=x)(k:Nat):qQ f (p*k) x=x:=by
 induction k with
 | zero=>rfl
 | succ k ih=>rw [Nat.mul_succ,kv,ih,hp]
theorem Orb.symm(h:Perm N f){x y:Nat}(hx:x<N)(o:Orb f x y):Orb f y x:=by
 obtain ⟨i,rfl⟩:=o;obtain ⟨p,hp,_,hpx⟩:=h.period hx;refine ⟨p*i-i,?_⟩;have:i≤p*i:=Nat.le_mul_of_pos_left i hp;rw [←kv,show i+(p*i-i)=p*i by omega,bA hpx]
theorem Orb.induct{R:Nat→Nat→Prop}(h0:∀x,R x x)(ht:∀x y z,R x y→R y z→R x z)(hs:∀x,R x (f x)){x y:Nat}(o:Orb f x y):R x y:=by
 obtain ⟨i,rfl⟩:=o
 induction i generalizing x with
 | zero=>exact h0 x
 | succ i ih=>exact ht _ _ _ (hs x) ih
end
noncomputable def tst(p:Prop):Bool:=@decide p (Classical.propDecidable p)
theorem jB{p:Prop}:tst p=true↔p:=by unfold tst;exact @decide_eq_true_iff p (Classical.propDecidable p)
theorem Xu{p:Prop}:tst p=false ↔ ¬p:=by rw [←Bool.not_eq_true,jB]
noncomputable def cls(R:Nat→Nat→Prop)(N:Nat):Nat:=(List.range N).countP fun h=>tst (∀k,k<h → ¬R k h)
theorem vt{p q:Nat→Bool}{m:Nat}(hm:p m=true)(hq:∀h,q h=(p h && !decide (h=m))):∀N,(List.range N).countP p=(List.range N).countP q+if m<N then 1 else 0
 | 0=>by simp
 | N+1=>by
  rw [List.range_succ,List.countP_append,List.countP_append,vt hm hq N];simp only [List.countP_cons,List.countP_nil,hq N];by_cases hN:N=m
  ·subst hN;simp [hm]
  ·rcases Nat.lt_or_gt_of_ne hN with h | h
   ·simp [hN,show ¬m<N by omega,show ¬m<N+1 by omega]
   ·simp [hN,h,show m<N+1 by omega];omega
theorem ke{R S:Nat→Nat→Prop}{N:Nat}(h:∀x y,x<N→y<N→(R x y↔S x y)):cls R N=cls S N:=by
 unfold cls;apply List.countP_congr;intro x hx;have hx:=List.mem_range.1 hx;simp only [jB];exact ⟨fun g k hk hS=>g k hk ((h k x (by omega) hx).2 hS),fun g k hk hR=>g k hk ((h k x (by omega) hx).1 hR)⟩
structure Equ(N:Nat)(R:Nat→Nat→Prop):Prop where
 refl:∀x,x<N→R x x
 symm:∀x y,x<N→y<N→R x y→R y x
 trans:∀x y z,x<N→y<N→z<N→R x y→R y z→R x z
theorem xG{P:Nat→Prop}{a:Nat}(h:P a):∃m,m≤a∧P m ∧ ∀k,k<m → ¬P k:=by
 induction a using Nat.strongRecOn with
 | _ a ih=>
  by_cases hk:∃k,k<a∧P k
  ·obtain ⟨k,hka,hk⟩:=hk;obtain ⟨m,h1,h2,h3⟩:=ih k hka hk;exact ⟨m,by omega,h2,h3⟩
  ·exact ⟨a,Nat.le_refl _,h,fun k hka hP=>hk ⟨k,hka,hP⟩⟩
def xZ(R:Nat→Nat→Prop)(a b x y:Nat):Prop:=R x y∨(R x a∧R b y)∨(R x b∧R a y)
theorem Kv{N:Nat}{R:Nat→Nat→Prop}(hR:Equ N R){a b ma mb:Nat}(ha:a<N)(hb:b<N)(hma:ma≤a)(hmb:mb≤b)(ra:R ma a)(rb:R mb b)(la:∀k,k<ma → ¬R k a)(lb:∀k,k<mb → ¬R k b)(hlt:ma<mb) :
  cls R N=cls (xZ R a b) N+1:=by
 have hmbN:mb<N:=by omega
 have hmaN:ma<N:=by omega
 have key:∀h,h<N→((∀k,k<h → ¬xZ R a b k h)↔(∀k,k<h → ¬R k h)∧h≠mb):=by
  intro h hh;constructor
  ·intro g;refine ⟨fun k hk hr=>g k hk (.inl hr),fun e=>?_⟩;subst e;exact g ma hlt (.inr (.inl ⟨ra,hR.symm _ _ hmbN hb rb⟩))
  ·rintro ⟨g,hne⟩ k hk hM;have hkN:k<N:=by omega
   rcases hM with h1 | ⟨h1,h2⟩ | ⟨h1,h2⟩
   ·exact g k hk h1
   · -- h in b's class, least of it: it is mb
    have hhb:R h b:=hR.symm _ _ hb hh h2;rcases Nat.lt_trichotomy h mb with h3 | h3 | h3
    ·exact lb h h3 hhb
    ·exact hne h3
    ·exact g mb h3 (hR.trans _ _ _ hmbN hb hh rb h2)
   · -- h in a's class: it is ma; k in b's class and less
    have hha:R h a:=hR.symm _ _ ha hh h2;rcases Nat.lt_trichotomy h ma with h3 | h3 | h3
    ·exact la h h3 hha
    ·subst h3;exact lb k (by omega) h1
    ·exact g ma h3 (hR.trans _ _ _ hmaN ha hh ra h2)
 have e:cls (xZ R a b) N=(List.range N).countP fun h=>tst (∀k,k<h → ¬R k h) && !decide (h=mb):=by
  unfold cls;apply List.countP_congr;intro x hx;rw [jB,key x (List.mem_range.1 hx),Bool.and_eq_true,jB];simp
 rw [e];unfold cls
 have h:=vt (p:=fun h=>tst (∀k,k<h → ¬R k h)) (q:=fun h=>tst (∀k,k<h → ¬R k h) && !decide (h=mb)) (m:=mb) (by
  rw [jB];intro k hk hr
  exact lb k hk (hR.trans _ _ _ (by omega) hmbN hb hr rb)) (fun h=>rfl) N
 rw [h,if_pos hmbN]
theorem xZ.comm{R:Nat→Nat→Prop}{a b x y:Nat}:xZ R a b x y↔xZ R b a x y:=by
 unfold xZ;constructor
 ·rintro (h | h | h)
  ·exact .inl h
  ·exact .inr (.inr h)
  ·exact .inr (.inl h)
 ·rintro (h | h | h)
  ·exact .inl h
  ·exact .inr (.inr h)
  ·exact .inr (.inl h)
theorem QZ{N:Nat}{R:Nat→Nat→Prop}(hR:Equ N R){a b:Nat}(ha:a<N)(hb:b<N)(hab:¬R a b):cls R N=cls (xZ R a b) N+1:=by
 obtain ⟨ma,h1,ra,la⟩:=xG (P:=fun k=>R k a) (hR.refl a ha);obtain ⟨mb,h2,rb,lb⟩:=xG (P:=fun k=>R k b) (hR.refl b hb);rcases Nat.lt_trichotomy ma mb with h | h | h
 ·exact Kv hR ha hb h1 h2 ra rb la lb h
 ·subst h;exact absurd (hR.trans _ _ _ ha (by omega) hb (hR.symm _ _ (by omega) ha ra) rb) hab
 ·rw [ke (S:=xZ R b a) (fun x y _ _=>xZ.comm)];exact Kv hR hb ha h2 h1 rb ra lb la h
theorem ZL{N:Nat}{R:Nat→Nat→Prop}(hR:Equ N R){a b:Nat}(ha:a<N)(hb:b<N)(hab:R a b):cls (xZ R a b) N=cls R N:=by
 apply ke;intro x y hx hy;constructor
 ·rintro (h | ⟨h1,h2⟩ | ⟨h1,h2⟩)
  ·exact h
  ·exact hR.trans _ _ _ hx ha hy h1 (hR.trans _ _ _ ha hb hy hab h2)
  ·exact hR.trans _ _ _ hx hb hy h1 (hR.trans _ _ _ hb ha hy (hR.symm _ _ ha hb hab) h2)
 ·exact .inl
theorem GB{N a b x:Nat}(ha:a<N)(hb:b<N)(hx:x<N):swp a b x<N:=by
 unfold swp
 split
 ·exact hb
 ·split
  ·exact ha
  ·exact hx
theorem Gk(a b x:Nat):swp a b (swp a b x)=x:=by
 unfold swp;by_cases h1:x=a
 ·subst h1;by_cases h2:b=x<;>simp [h2]
 ·by_cases h2:x=b
  ·subst h2;simp [h1]
  ·simp [h1,h2]
theorem Perm.swp{N:Nat}{f:Nat→Nat}(h:Perm N f){a b:Nat}(ha:a<N)(hb:b<N):Perm N (fun x=>f (swp a b x)):=
 ⟨fun x hx=>h.lt _ (GB ha hb hx),fun x y hx hy e=>by
  have:=h.inj _ _ (GB ha hb hx) (GB ha hb hy) e;have:=congrArg (Go.Proofs.YtneeknlhlkpnpaaGreat.swp a b) this
  rwa [Gk,Gk] at this⟩
theorem Perm.equ{N:Nat}{f:Nat→Nat}(h:Perm N f):Equ N (Orb f):=
 ⟨fun x _=>Orb.refl f x,fun _ _ hx _ o=>Orb.symm h hx o,fun _ _ _ _ _ _ o p=>o.trans p⟩
section
variable {N:Nat}{f:Nat→Nat}{a b:Nat}
theorem Vq(h:Perm N f)(ha:a<N)(hb:b<N)(hab:¬Orb f a b){x y:Nat}(hx:x<N)(hy:y<N):Orb (fun z=>f (swp a b z)) x y↔xZ (Orb f) a b x y:=by
 have hne:a≠b:=fun e=>hab (e▸Orb.refl f a);have hba:¬Orb f b a:=fun o=>hab (o.symm h hb);have ga:(fun z=>f (swp a b z)) a=f b:=by simp [swp]
 have gb:(fun z=>f (swp a b z)) b=f a:=by simp [swp,Ne.symm hne]
 have gx:∀z,z≠a→z≠b→(fun z=>f (swp a b z)) z=f z:=fun z h1 h2=>by simp [swp,h1,h2]
 generalize (fun z=>f (swp a b z))=g at *;constructor
 ·rintro ⟨i,rfl⟩;clear hy
  induction i generalizing x with
  | zero=>exact .inl (Orb.refl f x)
  | succ i ih=>
   have hgx:g x<N:=by
    by_cases h1:x=a
    ·rw [h1,ga];exact h.lt b hb
    ·by_cases h2:x=b
     ·rw [h2,gb];exact h.lt a ha
     ·rw [gx x h1 h2];exact h.lt x hx
   have hM:=ih hgx
   show xZ (Orb f) a b x (qQ g i (g x))
   by_cases h1:x=a
   ·subst h1;rw [ga] at hM ⊢;rcases hM with o | ⟨o1,o2⟩ | ⟨o1,o2⟩
    ·exact .inr (.inl ⟨Orb.refl f x,(Orb.step f b).trans o⟩)
    ·exact absurd ((Orb.step f b).trans o1) hba
    ·exact .inl o2
   ·by_cases h2:x=b
    ·subst h2;rw [gb] at hM ⊢;rcases hM with o | ⟨o1,o2⟩ | ⟨o1,o2⟩
     ·exact .inr (.inr ⟨Orb.refl f x,(Orb.step f a).trans o⟩)
     ·exact .inl o2
     ·exact absurd ((Orb.step f a).trans o1) hab
    ·rw [gx x h1 h2] at hM ⊢;rcases hM with o | ⟨o1,o2⟩ | ⟨o1,o2⟩
     ·exact .inl ((Orb.step f x).trans o)
     ·exact .inr (.inl ⟨(Orb.step f x).trans o1,o2⟩)
     ·exact .inr (.inr ⟨(Orb.step f x).trans o1,o2⟩)
 · -- along f towards c where the other one isn't met
  have toB:∀i z,qQ f i z=b→Orb g z b:=by
   intro i
   induction i with
   | zero=>rintro z rfl;exact Orb.refl g _
   | succ i ih=>
    intro z hz;by_cases h2:z=b
    ·subst h2;exact Orb.refl g _
    ·have h1:z≠a:=fun e=>hab (e▸⟨i+1,hz⟩);have:=ih (f z) hz;rw [←gx z h1 h2] at this;exact (Orb.step g z).trans this
  have toA:∀i z,qQ f i z=a→Orb g z a:=by
   intro i
   induction i with
   | zero=>rintro z rfl;exact Orb.refl g _
   | succ i ih=>
    intro z hz;by_cases h1:z=a
    ·subst h1;exact Orb.refl g _
    ·have h2:z≠b:=fun e=>hba (e▸⟨i+1,hz⟩);have:=ih (f z) hz;rw [←gx z h1 h2] at this;exact (Orb.step g z).trans this
  have oab:Orb g a b:=by
   obtain ⟨i,hi⟩:=(Orb.step f b).symm h hb;have:=toB i (f b) hi;rw [←ga] at this;exact (Orb.step g a).trans this
  have oba:Orb g b a:=by
   obtain ⟨i,hi⟩:=(Orb.step f a).symm h ha;have:=toA i (f a) hi;rw [←gb] at this;exact (Orb.step g b).trans this
  have all:∀z,Orb g z (f z):=fun z=>by
   by_cases h1:z=a
   ·subst h1;have:=Orb.step g b;rw [gb] at this;exact oab.trans this
   ·by_cases h2:z=b
    ·subst h2;have:=Orb.step g a;rw [ga] at this;exact oba.trans this
    ·have:=Orb.step g z;rw [gx z h1 h2] at this;exact this
  have up:∀ {z v},Orb f z v→Orb g z v:=fun o=>Orb.induct (R:=Orb g) (fun x=>Orb.refl g x) (fun _ _ _ p q=>p.trans q) all o;rintro (o | ⟨o1,o2⟩ | ⟨o1,o2⟩)
  ·exact up o
  ·exact (up o1).trans (oab.trans (up o2))
  ·exact (up o1).trans (oba.trans (up o2))
theorem UZ(h:Perm N f)(ha:a<N)(hb:b<N)(hne:a≠b)(hab:Orb f a b):¬Orb (fun z=>f (swp a b z)) a b:=by
 have ga:(fun z=>f (swp a b z)) a=f b:=by simp [swp]
 have gx:∀z,z≠a→z≠b→(fun z=>f (swp a b z)) z=f z:=fun z h1 h2=>by simp [swp,h1,h2]
 generalize (fun z=>f (swp a b z))=g at *
 have hS:∀i z,(∃k,qQ f k z=a ∧ ∀j,j≤k→qQ f j z≠b) → ∃k,qQ f k (qQ g i z)=a ∧ ∀j,j≤k→qQ f j (qQ g i z)≠b:=by
  intro i
  induction i with
  | zero=>exact fun z h=>h
  | succ i ih=>
   rintro z ⟨k,hk,hj⟩;refine ih (g z) ?_;have h2:z≠b:=hj 0 (Nat.zero_le _);by_cases h1:z=a
   ·subst h1;rw [ga];obtain ⟨k0,hk0⟩:Orb f (f b) z:=((Orb.step f b).symm h hb).trans (hab.symm h ha);obtain ⟨m,_,hm,hl⟩:=xG (P:=fun k=>qQ f k (f b)=z) hk0;refine ⟨m,hm,fun j hjm e=>?_⟩
    have hjlt:j<m:=by
     rcases Nat.lt_or_ge j m with h3 | h3
     ·exact h3
     ·have:j=m:=by omega
      subst this;rw [hm] at e;exact absurd e hne
    have e2:qQ f (j+1) (f b)=f b:=by rw [ua,e]
    have:qQ f (m-(j+1)) (f b)=z:=by
     rw [←hm]
     conv=>rhs;rw [show m=(j+1)+(m-(j+1)) by omega,kv,e2]
    exact hl _ (by omega) this
   ·rw [gx z h1 h2]
    obtain ⟨k,rfl⟩:∃k',k=k'+1:=by
     cases k with
     | zero=>exact absurd hk h1
     | succ k=>exact ⟨k,rfl⟩
    exact ⟨k,hk,fun j hjk=>hj (j+1) (by omega)⟩
 rintro ⟨i,hi⟩
 obtain ⟨k,_,hj⟩:=hS i a ⟨0,rfl,fun j hj=>by
  have:j=0:=by omega
  subst this;exact hne⟩
 exact hj 0 (Nat.zero_le _) hi
theorem aN(f:Nat→Nat)(a b:Nat):(fun z=>(fun z=>f (swp a b z)) (swp a b z))=f:=by
 funext z;simp only [Gk]
theorem VF(h:Perm N f)(ha:a<N)(hb:b<N)(hab:¬Orb f a b):cls (Orb f) N=cls (Orb (fun z=>f (swp a b z))) N+1:=by
 rw [QZ h.equ ha hb hab,ke (fun x y hx hy=>(Vq h ha hb hab hx hy).symm)]
theorem JK(h:Perm N f)(ha:a<N)(hb:b<N)(hne:a≠b)(hab:Orb f a b):cls (Orb (fun z=>f (swp a b z))) N=cls (Orb f) N+1:=by
 have:=VF (h.swp ha hb) ha hb (UZ h ha hb hne hab);rw [aN] at this;exact this
end
end Go.Proofs.YtneeknlhlkpnpaaGreat
namespace Go.Proofs.YtneeknlhlkpnpaaGreat
open Go.RowKit
def nxf(es:List (Int×Int))(rs:List (List Int))(h:Nat):Nat:=((vg es.length rs).getD h 0).toNat
def sig(es:List (Int×Int))(rs:List (List Int))(h:Nat):Nat:=nxf es rs (ot h)
def vtx(es:List (Int×Int))(h:Nat):Nat:=(atE es h).toNat
def KY(es:List (Int×Int))(rs:List (List Int))(k h:Nat):Nat:=sig es rs (if h<2*k then ot h else h)
def Q(es:List (Int×Int))(k:Nat):Nat→Nat→Prop:=Star (zZ true (fun i=>decide (i<k)) es)
def iso(rs:List (List Int)):Nat:=(List.range rs.length).countP fun x=>decide ((rs.getD x []).length=0)
section
variable {n:Int}{es:List (Int×Int)}{rs:List (List Int)}
theorem RightP.pos(h:RightP n es rs){d:Nat}(hd:d<2*es.length):∃x i,∃hx:x<rs.length,∃hi:i<rs[x].length,rs[x][i]=(d:Int)∧vtx es d=x:=by
 obtain ⟨x,hx,hm⟩:=h.cov d hd;obtain ⟨i,hi,he⟩:=List.mem_iff_getElem.1 hm;refine ⟨x,i,hx,hi,he,?_⟩;have:=(h.at_ x hx _ hm).2.2;unfold vtx;rw [show ((d:Nat):Int).toNat=d from rfl] at this;rw [this];rfl
theorem RightP.nat(h:RightP n es rs){x i:Nat}(hx:x<rs.length)(hi:i<rs[x].length):∃d:Nat,rs[x][i]=(d:Int)∧d<2*es.length∧vtx es d=x:=by
 obtain ⟨a1,a2,a3⟩:=h.at_ x hx _ (List.getElem_mem hi);refine ⟨rs[x][i].toNat,by omega,by omega,?_⟩;unfold vtx;rw [a3];rfl
theorem KR(h:RightP n es rs){x i:Nat}(hx:x<rs.length)(hi:i<rs[x].length){d:Nat}(hd:rs[x][i]=(d:Int)):sig es rs d=(rs[x][(i+1)%rs[x].length]'(Nat.mod_lt _ (by omega))).toNat:=by
 have:=KJ h hx hi;rw [hd] at this;unfold sig nxf;rw [show ((d:Nat):Int).toNat=d from rfl] at this;rw [this]
theorem kR(h:RightP n es rs){x i:Nat}(hx:x<rs.length)(hi:i<rs[x].length){d:Nat}(hd:rs[x][i]=(d:Int)):rs[x][(i+1)%rs[x].length]'(Nat.mod_lt _ (by omega))=(sig es rs d:Nat):=by
 obtain ⟨e,he,_,_⟩:=h.nat hx (i:=(i+1)%rs[x].length) (Nat.mod_lt _ (by omega));rw [KR h hx hi hd,he];rfl
theorem yl(h:RightP n es rs){d:Nat}(hd:d<2*es.length):sig es rs d<2*es.length∧vtx es (sig es rs d)=vtx es d:=by
 obtain ⟨x,i,hx,hi,he,hv⟩:=h.pos hd;obtain ⟨e,h1,h2,h3⟩:=h.nat hx (i:=(i+1)%rs[x].length) (Nat.mod_lt _ (by omega));have:=kR h hx hi he;rw [h1] at this;have:e=sig es rs d:=by omega
 rw [←this];exact ⟨h2,h3.trans hv.symm⟩
theorem Zn{a b n:Nat}(ha:a<n)(hb:b<n)(h:(a+1)%n=(b+1)%n):a=b:=by
 by_cases h1:a+1=n
 ·by_cases h2:b+1=n
  ·omega
  ·rw [h1,Nat.mod_self,Nat.mod_eq_of_lt (by omega)] at h;omega
 ·by_cases h2:b+1=n
  ·rw [h2,Nat.mod_self,Nat.mod_eq_of_lt (by omega)] at h;omega
  ·rw [Nat.mod_eq_of_lt (by omega),Nat.mod_eq_of_lt (by omega)] at h;omega
theorem QA(h:RightP n es rs):Perm (2*es.length) (sig es rs):=by
 refine ⟨fun d hd=>(yl h hd).1,fun d e hd he hde=>?_⟩;obtain ⟨x,i,hx,hi,h1,hv⟩:=h.pos hd;obtain ⟨y,j,hy,hj,h2,hw⟩:=h.pos he
 have hxy:x=y:=by
  rw [←hv,←hw,←(yl h hd).2,←(yl h he).2,hde]
 subst hxy;have e1:=kR h hx hi h1;have e2:=kR h hx hj h2;rw [hde,←e2] at e1;have:=Zn hi hj (Vr (h.nd x hx) _ _ e1);subst this;rw [h1] at h2;omega
theorem US:KY es rs 0=sig es rs:=by funext d;simp [KY]
theorem kT(k:Nat):ot (2*k)=2*k+1:=by unfold ot;rw [if_pos (by omega)]
theorem uy(k:Nat):ot (2*k+1)=2*k:=by unfold ot;rw [if_neg (by omega)];omega
theorem Vl(k:Nat):KY es rs (k+1)=fun z=>KY es rs k (swp (2*k) (2*k+1) z):=by
 funext z
 unfold KY swp;by_cases h1:z=2*k
 ·subst h1;rw [if_pos (by omega),if_pos rfl,if_neg (by omega),kT]
 ·by_cases h2:z=2*k+1
  ·subst h2;rw [if_pos (by omega),if_neg h1,if_pos rfl,if_neg (by omega),uy]
  ·rw [if_neg h1,if_neg h2];by_cases h3:z<2*k
   ·rw [if_pos h3,if_pos (by omega)]
   ·rw [if_neg h3,if_neg (by omega)]
theorem Jf(h:RightP n es rs):∀k,k≤es.length→Perm (2*es.length) (KY es rs k)
 | 0,_=>by rw [US];exact QA h
 | k+1,hk=>by rw [Vl];exact (Jf h k (by omega)).swp (by omega) (by omega)
theorem ZA{d:Nat}(hd:d<2*es.length):KY es rs es.length d=nxf es rs d:=by
 unfold KY sig;rw [if_pos hd,Qf]
theorem pc{k:Nat}(hk:k<es.length):atE es (2*k)=es[k].1:=by
 unfold atE;rw [if_pos (by omega),show 2*k/2=k by omega,List.getD_eq_getElem?_getD,List.getElem?_eq_getElem hk];rfl
theorem pR{k:Nat}(hk:k<es.length):atE es (2*k+1)=es[k].2:=by
 unfold atE;rw [if_neg (by omega),show (2*k+1)/2=k by omega,List.getD_eq_getElem?_getD,List.getElem?_eq_getElem hk];rfl
theorem xD{N:Nat}(hin:InN N es){k:Nat}(hk:k<es.length):es[k]=((vtx es (2*k):Int),(vtx es (2*k+1):Int))∧vtx es (2*k)<N∧vtx es (2*k+1)<N:=by
 obtain ⟨t,u,e,ht,hu⟩:=hin.at_ hk;unfold vtx;rw [pc hk,pR hk,e];exact ⟨rfl,ht,hu⟩
theorem xS{N:Nat}(hin:InN N es){d:Nat}(hd:d<2*es.length):vtx es d<N:=by
 obtain ⟨_,h1,h2⟩:=xD hin (k:=d/2) (by omega);rcases Nat.mod_two_eq_zero_or_one d with h | h
 ·rw [show d=2*(d/2) by omega];exact h1
 ·rw [show d=2*(d/2)+1 by omega];exact h2
theorem Q.symm{k x y:Nat}(h:Q es k x y):Q es k y x:=Star.sym (fun _ _ e=>e.symm) h
theorem Q.mono{k x y:Nat}(h:Q es k x y):Q es (k+1) x y:=Star.mono (fun _ _ ⟨i,hi,hc,r⟩=>⟨i,hi,by simp at hc ⊢;omega,r⟩) h
theorem fK(N k:Nat):Equ N (Q es k):=⟨fun x _=>.refl x,fun _ _ _ _ h=>h.symm,fun _ _ _ _ _ _ h g=>h.trans g⟩
theorem pS{x y:Nat}:Q es 0 x y↔x=y:=by
 constructor
 ·intro h
  cases h with
  | refl=>rfl
  | head e _=>obtain ⟨i,_,hc,_⟩:=e;simp at hc
 ·rintro rfl;exact .refl _
theorem nm{N:Nat}(hin:InN N es){k j:Nat}(hj:j<es.length)(hjk:j<k):Q es k (vtx es (2*j)) (vtx es (2*j+1)):=
 .one ⟨j,hj,by simpa using hjk,.inl (xD hin hj).1⟩
theorem pT{N:Nat}(hin:InN N es){k:Nat}(hk:k<es.length){x y:Nat}:Q es (k+1) x y↔xZ (Q es k) (vtx es (2*k)) (vtx es (2*k+1)) x y:=by
 obtain ⟨he,_,_⟩:=xD hin hk;generalize ht:vtx es (2*k)=t at *;generalize hu:vtx es (2*k+1)=u at *;constructor
 ·intro h
  induction h with
  | refl x=>exact .inl (.refl x)
  | @head x y z e _ ih=>
   obtain ⟨i,hi,hc,r⟩:=e;have hc:i<k+1:=by simpa using hc
   by_cases hik:i=k
   ·subst hik
    have hxy:(x=t∧y=u)∨(x=u∧y=t):=by
     rw [he] at r;rcases r with r | ⟨_,r⟩<;>simp only [Prod.mk.injEq] at r
     ·exact .inl ⟨by omega,by omega⟩
     ·exact .inr ⟨by omega,by omega⟩
    rcases hxy with ⟨rfl,rfl⟩ | ⟨rfl,rfl⟩
    ·rcases ih with h1 | ⟨h1,h2⟩ | ⟨h1,h2⟩
     ·exact .inr (.inl ⟨.refl _,h1⟩)
     ·exact .inr (.inl ⟨.refl _,h2⟩)
     ·exact .inl h2
    ·rcases ih with h1 | ⟨h1,h2⟩ | ⟨h1,h2⟩
     ·exact .inr (.inr ⟨.refl _,h1⟩)
     ·exact .inl h2
     ·exact .inr (.inr ⟨.refl _,h2⟩)
   ·have hq:Q es k x y:=.one ⟨i,hi,by simp;omega,r⟩;rcases ih with h1 | ⟨h1,h2⟩ | ⟨h1,h2⟩
    ·exact .inl (hq.trans h1)
    ·exact .inr (.inl ⟨hq.trans h1,h2⟩)
    ·exact .inr (.inr ⟨hq.trans h1,h2⟩)
 ·have htu:Q es (k+1) t u:=by rw [←ht,←hu];exact nm hin hk (by omega)
  rintro (h | ⟨h1,h2⟩ | ⟨h1,h2⟩)
  ·exact h.mono
  ·exact (h1.mono.trans htu).trans h2.mono
  ·exact (h1.mono.trans htu.symm).trans h2.mono
theorem rr(h:RightP n es rs){N:Nat}(hin:InN N es){k:Nat}(hk:k≤es.length){x y:Nat}(hx:x<2*es.length)(o:Orb (KY es rs k) x y):Q es k (vtx es x) (vtx es y):=by
 obtain ⟨i,rfl⟩:=o
 induction i generalizing x with
 | zero=>exact .refl _
 | succ i ih=>
  have hlt:=(Jf h k hk).lt x hx;refine Star.trans ?_ (ih hlt);unfold KY
  split
  ·rename_i h1;rw [(yl h (xY hx)).2];have hj:x/2<es.length:=by omega
   have hq:=nm (k:=k) hin hj (by omega);rcases Nat.mod_two_eq_zero_or_one x with h2 | h2
   ·have e1:x=2*(x/2):=by omega
    rw [show ot x=2*(x/2)+1 by unfold ot;rw [if_pos h2];omega];have e2:vtx es x=vtx es (2*(x/2)):=congrArg _ e1;rw [e2];exact hq
   ·have e1:x=2*(x/2)+1:=by omega
    rw [show ot x=2*(x/2) by unfold ot;rw [if_neg (by omega)];omega];have e2:vtx es x=vtx es (2*(x/2)+1):=congrArg _ e1;rw [e2];exact hq.symm
  ·rw [(yl h hx).2];exact .refl _
theorem XB{v:Nat→Nat}{M:Nat}:∀N,(∀h,h<N→v h<M)→cls (fun x y=>v x=v y) N=(List.range M).countP (fun x=>tst (∃h,h<N∧v h=x))
 | 0,_=>by
  unfold cls;rw [List.range_zero,List.countP_nil,eq_comm,List.countP_eq_zero];intro x _ h;obtain ⟨h,hh,_⟩:=jB.1 h;omega
 | N+1,hv=>by
  have ih:=XB N (fun h hh=>hv h (by omega));unfold cls at ih ⊢;rw [List.range_succ,List.countP_append,ih];simp only [List.countP_cons,List.countP_nil,Nat.zero_add];by_cases hN:∃k,k<N∧v k=v N
  ·rw [if_neg (by
    rw [jB];intro g;obtain ⟨k,hk,e⟩:=hN
    exact g k hk e),Nat.add_zero]
   apply List.countP_congr;intro x _;rw [jB,jB];constructor
   ·rintro ⟨h,hh,e⟩;exact ⟨h,by omega,e⟩
   ·rintro ⟨h,hh,e⟩;by_cases hhN:h=N
    ·obtain ⟨k,hk,e2⟩:=hN;exact ⟨k,hk,by rw [e2,←hhN,e]⟩
    ·exact ⟨h,by omega,e⟩
  ·rw [if_pos (by
    rw [jB];intro k hk e
    exact hN ⟨k,hk,e⟩)]
   have:=vt (p:=fun x=>tst (∃h,h<N+1∧v h=x)) (q:=fun x=>tst (∃h,h<N+1∧v h=x) && !decide (x=v N)) (m:=v N) (by rw [jB];exact ⟨N,by omega,rfl⟩) (fun _=>rfl) M;rw [this,if_pos (hv N (by omega))];congr 1;apply List.countP_congr;intro x _;rw [Bool.and_eq_true,jB,jB,Bool.not_eq_true',decide_eq_false_iff_not];constructor
   ·rintro ⟨h,hh,e⟩;exact ⟨⟨h,by omega,e⟩,fun e2=>hN ⟨h,hh,by rw [e,e2]⟩⟩
   ·rintro ⟨⟨h,hh,e⟩,hne⟩;refine ⟨h,?_,e⟩;have:h≠N:=fun e2=>hne (by rw [←e,e2]);omega
theorem bz(h:RightP n es rs){x i:Nat}(hx:x<rs.length)(hi:i<rs[x].length){d:Nat}(hd:rs[x][i]=(d:Int)):∀t,rs[x][(i+t)%rs[x].length]'(Nat.mod_lt _ (by omega))=(qQ (sig es rs) t d:Nat)
 | 0=>by
  have:(i+0)%rs[x].length=i:=Nat.mod_eq_of_lt hi;simp only [this];exact hd
 | t+1=>by
  have:=kR h hx (Nat.mod_lt (i+t) (by omega)) (bz h hx hi hd t);rw [ua,←this];congr 1;rw [←Nat.add_assoc,Nat.mod_add_mod]
theorem Yh(h:RightP n es rs){a b:Nat}(ha:a<2*es.length)(hb:b<2*es.length):Orb (sig es rs) a b↔vtx es a=vtx es b:=by
 constructor
 ·rintro ⟨i,rfl⟩;clear hb
  induction i generalizing a with
  | zero=>rfl
  | succ i ih=>
   obtain ⟨h1,h2⟩:=yl h ha;exact h2.symm.trans (ih h1)
 ·intro e;obtain ⟨x,i,hx,hi,h1,hv⟩:=h.pos ha;obtain ⟨y,j,hy,hj,h2,hw⟩:=h.pos hb;have hxy:x=y:=by rw [←hv,←hw,e]
  subst hxy;refine ⟨j+rs[x].length-i,?_⟩;have:=bz h hx hi h1 (j+rs[x].length-i)
  have e1:(i+(j+rs[x].length-i))%rs[x].length=j:=by
   rw [show i+(j+rs[x].length-i)=j+rs[x].length by omega,Nat.add_mod_right,Nat.mod_eq_of_lt hj]
  simp only [e1] at this;rw [h2] at this;omega
theorem oY(h:RightP n es rs)(hin:InN rs.length es):cls (Orb (sig es rs)) (2*es.length)+iso rs=rs.length:=by
 rw [ke (S:=fun x y=>vtx es x=vtx es y) (fun x y hx hy=>Yh h hx hy),XB (M:=rs.length) _ (fun d hd=>xS hin hd)]
 have e:(List.range rs.length).countP (fun x=>tst (∃h,h<2*es.length∧vtx es h=x))=(List.range rs.length).countP (fun a=>decide ¬(decide ((rs.getD a []).length=0))=true):=by
  apply List.countP_congr;intro x hx;have hx:=List.mem_range.1 hx;have e1:rs.getD x []=rs[x]:=by rw [List.getD_eq_getElem?_getD,List.getElem?_eq_getElem hx];rfl
  rw [e1,jB,decide_eq_true_eq,decide_eq_true_eq];constructor
  ·rintro ⟨d,hd,e2⟩;obtain ⟨y,i,hy,hi,_,hv⟩:=h.pos hd;have:y=x:=by rw [←hv,e2]
   subst this;omega
  ·intro hne;obtain ⟨d,_,hd,hv⟩:=h.nat hx (i:=0) (by omega);exact ⟨d,hd,hv⟩
 have e2:=List.length_eq_countP_add_countP (fun x=>decide ((rs.getD x []).length=0)) (l:=List.range rs.length);rw [List.length_range] at e2;unfold iso;rw [e];omega
theorem pp(h:RightP n es rs)(hin:InN rs.length es):∀k,k≤es.length → ∃g:Nat,2*cls (Q es k) rs.length+k=rs.length+iso rs+cls (Orb (KY es rs k)) (2*es.length)+2*g
 | 0,_=>by
  refine ⟨0,?_⟩
  have h1:cls (Q es 0) rs.length=rs.length:=by
   unfold cls
   have:(List.range rs.length).countP (fun h=>tst (∀k,k<h → ¬Q es 0 k h))=(List.range rs.length).length:=by
    rw [List.countP_eq_length];intro x _;rw [jB];intro k hk hq;rw [pS] at hq;omega
   rw [this,List.length_range]
  have h2:=oY h hin;rw [US];omega
 | k+1,hk=>by
  obtain ⟨g,hg⟩:=pp h hin k (by omega);have hP:=Jf h k (by omega);have hkl:k<es.length:=by omega
  obtain ⟨_,ht,hu⟩:=xD hin hkl;have hQ:cls (Q es (k+1)) rs.length=cls (xZ (Q es k) (vtx es (2*k)) (vtx es (2*k+1))) rs.length:=ke fun x y _ _=>pT hin hkl;have h2a:2*k<2*es.length:=by omega
  have h2b:2*k+1<2*es.length:=by omega
  by_cases ho:Orb (KY es rs k) (2*k) (2*k+1)
  ·have e1:=JK hP h2a h2b (by omega) ho;rw [←Vl] at e1;have hq:=rr h hin (by omega) h2a ho;rw [ZL (fK _ k) ht hu hq] at hQ;exact ⟨g,by omega⟩
  ·have e1:=VF hP h2a h2b ho;rw [←Vl] at e1;by_cases hq:Q es k (vtx es (2*k)) (vtx es (2*k+1))
   ·rw [ZL (fK _ k) ht hu hq] at hQ;exact ⟨g+1,by omega⟩
   ·have:=QZ (fK rs.length k) ht hu hq;exact ⟨g,by omega⟩
end
end Go.Proofs.YtneeknlhlkpnpaaGreat
namespace Go.Proofs.YtneeknlhlkpnpaaGreat
open Go.RowKit
open Classical in
noncomputable def per(f:Nat→Nat)(h:Nat):Nat:=if H:∃p,(0<p∧qQ f p h=h) ∧ ∀q,q<p → ¬(0<q∧qQ f q h=h) then Classical.choose H else 0
theorem uo{N:Nat}{f:Nat→Nat}(hf:Perm N f){h:Nat}(hh:h<N):0<per f h∧per f h≤N∧qQ f (per f h) h=h ∧ ∀q,0<q→q<per f h→qQ f q h≠h:=by
 obtain ⟨p,hp,hpN,hpe⟩:=hf.period hh;obtain ⟨m,hmp,hm,hl⟩:=xG (P:=fun p=>0<p∧qQ f p h=h) ⟨hp,hpe⟩;have H:∃p,(0<p∧qQ f p h=h) ∧ ∀q,q<p → ¬(0<q∧qQ f q h=h):=⟨m,hm,hl⟩;have e:per f h=Classical.choose H:=by unfold per;rw [dif_pos H]
 obtain ⟨⟨c1,c2⟩,c3⟩:=Classical.choose_spec H;rw [e];refine ⟨c1,?_,c2,fun q h1 h2 h3=>c3 q h2 ⟨h1,h3⟩⟩;rcases Nat.lt_or_ge N (Classical.choose H) with h4 | h4
 ·exact absurd hm (c3 m (by omega))
 ·exact h4
theorem oy{N:Nat}{f:Nat→Nat}(hf:Perm N f){h:Nat}(hh:h<N){i j:Nat}(hij:i<j)(hj:j<per f h):qQ f i h≠qQ f j h:=by
 intro e
 have e2:qQ f i h=qQ f i (qQ f (j-i) h):=by
  rw [←kv f (j-i) i h,show j-i+i=j by omega];exact e
 exact (uo hf hh).2.2.2 (j-i) (by omega) (by omega) (hf.iter_inj i hh (hf.iter_lt _ hh) e2).symm
theorem Gq{N:Nat}{f:Nat→Nat}(hf:Perm N f){h:Nat}(hh:h<N)(x:Nat):Orb f h x ↔ ∃i,i<per f h∧qQ f i h=x:=by
 obtain ⟨h1,_,h3,_⟩:=uo hf hh;constructor
 ·rintro ⟨i,rfl⟩;refine ⟨i%per f h,Nat.mod_lt _ h1,?_⟩
  conv=>rhs;rw [←Nat.div_add_mod i (per f h),kv,bA h3]
 ·rintro ⟨i,_,e⟩;exact ⟨i,e⟩
noncomputable def uk(f:Nat→Nat)(h:Nat):List Int:=(List.range (per f h)).map fun i=>((qQ f i h:Nat):Int)
noncomputable def ko(f:Nat→Nat)(h:Nat):Bool:=tst (∀j,j<h → ¬Orb f j h)
noncomputable def yr(f:Nat→Nat)(k:Nat):List (List Int):=((List.range k).filter (ko f)).map (uk f)
theorem Yu(f:Nat→Nat)(k:Nat):yr f (k+1)=yr f k++if ko f k=true then [uk f k] else []:=by
 unfold yr;rw [List.range_succ,List.filter_append,List.map_append];by_cases h:ko f k=true<;>simp [h]
theorem ky(f:Nat→Nat)(N:Nat):(yr f N).length=cls (Orb f) N:=by
 unfold yr cls;rw [List.length_map,List.countP_eq_length_filter];rfl
section
variable {N:Nat}{f:Nat→Nat}{nx:List Int}
theorem Wm(hf:Perm N f)(hl:nx.length=N)(hnx:∀h,h<N→nx.getD h 0=(f h:Nat)){k:Nat}(hk:k<N){seen0:List Bool}(h0:∀i,seen0.getD (qQ f i k) false=false):∀(d i fuel:Nat) (seen:List Bool) (face:List Int),i+d=per f k→d<fuel→seen.length=N →
  (∀h,seen.getD h false=true↔seen0.getD h false=true ∨ ∃j,j<i∧qQ f j k=h) →
  ∃seen':List Bool,Ja nx fuel seen (qQ f i k) face=(seen',face++(List.range' i d).map fun j=>((qQ f j k:Nat):Int))∧seen'.length=N ∧ ∀h,seen'.getD h false=true↔seen0.getD h false=true ∨ ∃j,j<per f k∧qQ f j k=h
 | 0,i,fuel,seen,face,hi,hfu,hsl,hs=>by
  have hi:i=per f k:=by omega
  obtain ⟨h1,_,h3,_⟩:=uo hf hk;have:seen.getD (qQ f i k) false=true:=(hs _).2 (.inr ⟨0,by omega,by rw [hi,h3];rfl⟩);refine ⟨seen,by rw [YN this];simp,hsl,fun h=>by rw [hs h,hi]⟩
 | d+1,i,fuel,seen,face,hi,hfu,hsl,hs=>by
  obtain ⟨fu,rfl⟩:∃fu,fuel=fu+1:=⟨fuel-1,by omega⟩;have hlt:=hf.iter_lt i hk
  have hno:seen.getD (qQ f i k) false=false:=by
   rw [←Bool.not_eq_true,hs];rintro (h | ⟨j,hj,e⟩)
   ·rw [h0] at h;cases h
   ·exact oy hf hk hj (by omega) e
  rw [bK hno,hnx _ hlt,show ((f (qQ f i k):Nat):Int).toNat=qQ f (i+1) k by rw [ua];rfl]
  obtain ⟨seen',e1,e2,e3⟩:=Wm hf hl hnx hk h0 d (i+1) fu (seen.set (qQ f i k) true) (face++[((qQ f i k:Nat):Int)]) (by omega) (by omega) (by simp [hsl]) (fun h=>by
   rw [Ji _ _ _ (by omega),Bool.or_eq_true,decide_eq_true_eq,hs h];constructor
   ·rintro (h1 | h1 | ⟨j,hj,e⟩)
    ·exact .inr ⟨i,by omega,h1.symm⟩
    ·exact .inl h1
    ·exact .inr ⟨j,by omega,e⟩
   ·rintro (h1 | ⟨j,hj,e⟩)
    ·exact .inr (.inl h1)
    ·by_cases hji:j=i
     ·subst hji;exact .inl e.symm
     ·exact .inr (.inr ⟨j,by omega,e⟩))
  refine ⟨seen',?_,e2,e3⟩;rw [e1,List.range'_succ,List.map_cons,List.append_assoc];rfl
theorem bL(hf:Perm N f)(hl:nx.length=N)(hnx:∀h,h<N→nx.getD h 0=(f h:Nat)):∀k,k≤N→(∀h,(ul nx k).1.getD h false=true↔h<N ∧ ∃j,j<k∧Orb f j h)∧(ul nx k).2=yr f k
 | 0,_=>by
  refine ⟨fun h=>?_,rfl⟩
  have:(ul nx 0).1.getD h false=false:=by
   show (List.replicate nx.length false).getD h false=false
   rw [List.getD_eq_getElem?_getD,List.getElem?_replicate]
   split<;>rfl
  rw [this];exact ⟨fun h=>(by cases h),fun ⟨_,j,hj,_⟩=>(by omega)⟩
 | k+1,hk=>by
  obtain ⟨h1,h2⟩:=bL hf hl hnx k (by omega);have hkN:k<N:=by omega
  have hsl:(ul nx k).1.length=N:=(Wo nx k).trans hl;rw [VB,Yu];unfold Ue
  have hlk:ko f k=true ↔ ¬ ∃j,j<k∧Orb f j k:=by
   unfold ko;rw [jB];exact ⟨fun g ⟨j,hj,o⟩=>g j hj o,fun g j hj o=>g ⟨j,hj,o⟩⟩
  by_cases hs:(ul nx k).1.getD k false=true
  ·have hex:∃j,j<k∧Orb f j k:=((h1 k).1 hs).2;rw [YN hs,if_neg (fun h=>hlk.1 h hex)];simp only [List.length_nil,Nat.lt_irrefl,if_false,List.append_nil];refine ⟨fun h=>?_,h2⟩;rw [h1 h];constructor
   ·rintro ⟨hh,j,hj,o⟩;exact ⟨hh,j,by omega,o⟩
   ·rintro ⟨hh,j,hj,o⟩;refine ⟨hh,?_⟩;by_cases hjk:j=k
    ·subst hjk;obtain ⟨j',hj',o'⟩:=hex;exact ⟨j',hj',o'.trans o⟩
    ·exact ⟨j,by omega,o⟩
  ·have hno:¬ ∃j,j<k∧Orb f j k:=fun h=>hs ((h1 k).2 ⟨hkN,h⟩)
   have h0:∀i,(ul nx k).1.getD (qQ f i k) false=false:=fun i=>by
    rw [←Bool.not_eq_true,h1];rintro ⟨_,j,hj,o⟩;exact hno ⟨j,hj,o.trans (Orb.symm hf hkN ⟨i,rfl⟩)⟩
   obtain ⟨p1,p2,_,_⟩:=uo hf hkN;obtain ⟨seen',e1,_,e3⟩:=Wm hf hl hnx hkN h0 (per f k) 0 (nx.length+1) (ul nx k).1 [] (by omega) (by omega) hsl (fun h=>⟨.inl,fun g=>g.resolve_right fun ⟨j,hj,_⟩=>by omega⟩);rw [show qQ f 0 k=k from rfl] at e1;rw [e1,if_pos (hlk.2 hno)];simp only [List.nil_append]
   have er:(List.range' 0 (per f k)).map (fun j=>((qQ f j k:Nat):Int))=uk f k:=by
    unfold uk;rw [List.range_eq_range']
   rw [er];have hlen:0<(uk f k).length:=by unfold uk;simpa using p1
   rw [if_pos hlen];refine ⟨fun h=>?_,by rw [h2]⟩;rw [e3 h,h1 h,←Gq hf hkN];constructor
   ·rintro (⟨hh,j,hj,o⟩ | o)
    ·exact ⟨hh,j,by omega,o⟩
    ·exact ⟨o.lt hf hkN,k,by omega,o⟩
   ·rintro ⟨hh,j,hj,o⟩;by_cases hjk:j=k
    ·subst hjk;exact .inr o
    ·exact .inl ⟨hh,j,by omega,o⟩
end
theorem vI{n:Int}{es:List (Int×Int)}{rs:List (List Int)}(h:RightP n es rs):Perm (2*es.length) (nxf es rs):=
 ⟨fun x hx=>by rw [←ZA hx];exact (Jf h _ (Nat.le_refl _)).lt x hx,fun x y hx hy e=>(Jf h _ (Nat.le_refl _)).inj x y hx hy (by rw [ZA hx,ZA hy,e])⟩
theorem pK{n:Int}{es:List (Int×Int)}{rs:List (List Int)}(h:RightP n es rs){d:Nat}(hd:d<2*es.length):(vg es.length rs).getD d 0=(nxf es rs d:Nat):=by
 obtain ⟨v,hv,_⟩:=Wb (m:=es.length) (k:=d) hd (fun l hl a ha=>by
  obtain ⟨x,hx,rfl⟩:=List.mem_iff_getElem.1 hl
  exact ⟨(h.at_ x hx a ha).1,(h.at_ x hx a ha).2.1⟩)
 unfold nxf;rw [hv];rfl
theorem vy{n:Int}{es:List (Int×Int)}{rs:List (List Int)}(h:RightP n es rs):jE n es rs=yr (nxf es rs) (2*es.length):=by
 unfold jE GH;rw [if_pos (qZ.2 h)];have hl:(vg es.length rs).length=2*es.length:=vo _ _ _;rw [hl];exact (bL (vI h) hl (fun d hd=>pK h hd) _ (Nat.le_refl _)).2
theorem Wa{N:Nat}{f g:Nat→Nat}(hf:Perm N f)(e:∀x,x<N→f x=g x){x y:Nat}(hx:x<N):Orb f x y↔Orb g x y:=by
 have key:∀i x,x<N→qQ f i x=qQ g i x:=by
  intro i
  induction i with
  | zero=>exact fun _ _=>rfl
  | succ i ih=>intro x hx;show qQ f i (f x)=qQ g i (g x);rw [ih _ (hf.lt x hx),e x hx]
 exact ⟨fun ⟨i,h⟩=>⟨i,by rw [←key i x hx];exact h⟩,fun ⟨i,h⟩=>⟨i,by rw [key i x hx];exact h⟩⟩
theorem iF{n:Int}{es:List (Int×Int)}{rs:List (List Int)}(h:RightP n es rs)(hin:InN rs.length es) :
  ∃g:Nat,2*cls (Q es es.length) rs.length+es.length=rs.length+iso rs+(jE n es rs).length+2*g:=by
 obtain ⟨g,hg⟩:=pp h hin es.length (Nat.le_refl _);refine ⟨g,?_⟩;rw [vy h,ky,ke (fun x y hx _=>Wa (vI h) (fun d hd=>(ZA hd).symm) hx)];exact hg
end Go.Proofs.YtneeknlhlkpnpaaGreat
namespace Go.Proofs.YtneeknlhlkpnpaaGreat
open Go.RowKit
noncomputable def gen(n:Int)(es:List (Int×Int))(rs:List (List Int)):Nat:=(2*cls (Q es es.length) rs.length+es.length-(rs.length+iso rs+(jE n es rs).length))/2
theorem QK{n:Int}{es:List (Int×Int)}{rs:List (List Int)}(h:RightP n es rs)(hin:InN rs.length es):2*cls (Q es es.length) rs.length+es.length=rs.length+iso rs+(jE n es rs).length+2*gen n es rs:=by
 obtain ⟨g,hg⟩:=iF h hin;unfold gen;omega
theorem yV{n:Int}{es:List (Int×Int)}{rs:List (List Int)}(h:RightP n es rs):InN rs.length es:=by
 have:=XD h.may;rw [←h.len] at this;exact this
theorem xn{n:Int}{es:List (Int×Int)}{rs:List (List Int)}(h:RightP n es rs):(jE n es rs).length≤2*es.length:=by
 rw [vy h,ky];unfold cls;exact Nat.le_trans List.countP_le_length (by simp)
theorem gS{n:Nat}{es:List (Int×Int)}{T:List Nat}(hin:InN n es)(hn:n≤64)(hT:KV true (vH 0 es) n es T):(qp T 0 n).1.length=cls (Q es es.length) n:=by
 have hK:∀x y,Kin 0 es x y↔Q es es.length x y:=fun x y=>by
  unfold Kin Q;refine Star.congr fun i hi=>?_;unfold vH;have h0:∀a,yP 0 a=false:=fun a=>by simp [yP]
  rw [h0,h0,decide_eq_true hi];rfl
 suffices ∀k,k≤n→(qp T 0 k).1.length=(List.range k).countP fun x=>tst (∀z,z<x → ¬Q es es.length z x) from this n (Nat.le_refl _)
 intro k
 induction k with
 | zero=>intro _;rfl
 | succ k ih=>
  intro hk;rw [xi,List.range_succ,List.countP_append,←ih (by omega)];have hd:=mJ hin hn hT k (by omega) k (by omega);simp only [List.countP_cons,List.countP_nil,Nat.zero_add];by_cases h:yP (qp T 0 k).2 k=true
  ·rw [if_pos h,if_neg]
   ·rfl
   ·rw [jB];intro g;rcases hd.1 h with h1 | ⟨z,hz,_,hk2⟩
    ·simp at h1
    ·exact g z hz ((hK _ _).1 hk2)
  ·rw [if_neg h,if_pos]
   ·simp
   ·rw [jB];intro z hz hq;exact h (hd.2 (.inr ⟨z,hz,by simp,(hK _ _).2 hq⟩))
theorem UT(N:Nat)(A:Option Addr)(cap:Nat)(es:List (Int×Int))(w:World)(hes:jr w w.heap.size A (jA es))(hm:vj N es=true) :
  Calls Tryz.prog 106 #[.agg #[.int .i64 N,.slice A es.length cap],.int .u64 0] w (fun e w'=>∃A c,e = .returned (.slice A (cls (Q es es.length) N) c)∧Below w.heap.size w w'):=by
 refine (gT N A cap es 0 (by omega) w hes).mono ?_;rintro e w5 ⟨v5,rfl,hb6,hv5,_⟩;obtain ⟨T,hT,ho⟩:=hv5 hm;have hin:InN N es:=XD hm;have hn:=(jP hm).2.1;have hpc:=gS hin (by omega) hT;have ho:w5.ownsRow w.heap.size 157 1 v5 (qp T 0 N).1.length (xE (qp T 0 N).1):=ho;have hpc:(qp T 0 N).1.length=cls (Q es es.length) N:=hpc;rw [hpc] at ho;obtain ⟨A5,c5,rfl⟩:=jv ho;exact ⟨A5,c5,rfl,hb6⟩
def Yr(rs:List (List Int))(k:Nat):Nat:=(List.range k).countP fun x=>decide ((rs.getD x []).length=0)
theorem Wh(rs:List (List Int))(k:Nat):Yr rs (k+1)=Yr rs k+if (rs.getD k []).length=0 then 1 else 0:=by
 unfold Yr;rw [List.range_succ,List.countP_append];simp
theorem eT(rs:List (List Int))(k:Nat):Yr rs k≤k:=Nat.le_trans List.countP_le_length (by simp)
theorem oT{P N m F u g:Nat}(h:2*P+m=N+u+F+2*g)(hP:P≤1000)(hN:N≤1000)(hm:m≤1000)(hF:F≤1000)(hu:u≤1000) :
  IntKind.i64.wrap ((IntKind.i64.wrap (IntKind.i64.wrap (IntKind.i64.wrap (IntKind.i64.wrap (2*(P:Int))-(N:Int))+(m:Int))-((F:Int)+(u:Int)))).tdiv 2)=(g:Int):=by
 have e1:IntKind.i64.wrap (2*(P:Int))=2*(P:Int):=by rw [IntKind.wrap_i64];omega
 have e2:IntKind.i64.wrap (2*(P:Int)-(N:Int))=2*(P:Int)-(N:Int):=by rw [IntKind.wrap_i64];omega
 have e3:IntKind.i64.wrap (2*(P:Int)-(N:Int)+(m:Int))=2*(P:Int)-(N:Int)+(m:Int):=by rw [IntKind.wrap_i64];omega
 have e4:IntKind.i64.wrap (2*(P:Int)-(N:Int)+(m:Int)-((F:Int)+(u:Int)))=2*(g:Int):=by rw [IntKind.wrap_i64];omega
 have e5:Int.tdiv (2*(g:Int)) 2=(g:Int):=by rw [Int.tdiv_eq_ediv_of_nonneg (by omega)];omega
 rw [e1,e2,e3,e4,e5,IntKind.wrap_i64];omega
def iW(n:Int)(es:List (Int×Int))(rs:List (List Int))(w:World)(e:Ending)(w':World):Prop:=
 Below w.heap.size w w'∧(yn n es rs=true→e = .returned (.tuple #[.int .i64 (gen n es rs:Nat),.int .i64 0]))∧(yn n es rs=false→e = .returned (.tuple #[.int .i64 0,.int .i64 1]))
set_option maxRecDepth 20000 in
set_option maxHeartbeats 2000000 in
theorem iu(n:Int)(A C:Option Addr)(cap ccap:Nat)(es:List (Int×Int))(rs:List (List Int))(w:World)(hes:jr w w.heap.size A (jA es))(hrs:qm w w.heap.size C rs)(hr1:rs.length≤1000)(hr2:∀l∈rs,l.length≤1000) :
  Calls Tryz.prog 104 #[.agg #[.int .i64 n,.slice A es.length cap],.slice C rs.length ccap] w (iW n es rs w):=by
 go_enter Tryz.func104,Tryz.ntmps104
 go_wp2_with fail;have b0:=World.cell?_alloc_new w #[.int .i64 n,.slice A es.length cap] 24 0;have b1:=World.cell?_alloc_new w #[.int .i64 n,.slice A es.length cap] 24 1;simp only [List.getElem?_toArray,List.getElem?_cons_zero,List.getElem?_cons_succ] at b0 b1;have hbw:=(Below.refl w.heap.size w).alloc (Nat.le_refl _) (.cells #[.int .i64 n,.slice A es.length cap] 24);have s1:=World.size_alloc w (.cells #[.int .i64 n,.slice A es.length cap] 24);generalize w.alloc (.cells #[.int .i64 n,.slice A es.length cap] 24)=w1 at *;refine (Vi n A C cap ccap es rs w1 ((hes.below hbw).more (by omega)) ((hrs.below hbw).more (by omega)) hr1 hr2).mono ?_;rintro e w2 ⟨rfl,hb2⟩;have c0:=(hb2.cell (p:=⟨w.heap.size,0,none⟩) (by simp;omega)).trans b0;have c1:=(hb2.cell (p:=⟨w.heap.size,1,none⟩) (by simp;omega)).trans b1;have hb3:=hbw.trans (hb2.mono (by omega));have l2:w.heap.size<w2.heap.size:=by have:=hb2.size;omega
 clear b0 b1 hb2 hbw s1
 cases hm:yn n es rs with
 | false=>
  have Hm:=Lib.hid hm;clear hm;go_wp2_with fail;go_ret2;exact ⟨hb3,fun h=>(by rw [Hm.out] at h;cases h),fun _=>rfl⟩
 | true=>
  have HP:=Lib.hid (qZ.1 hm);have Hm:=Lib.hid hm;obtain ⟨hn0,hn1,hn2⟩:=jP (QR hm);clear hm;have hF:=xn HP.out;go_wp2_with fail;refine (Wl n A C cap ccap es rs w2 ((hes.below hb3).more (by omega)) ((hrs.below hb3).more (by omega)) hr1 hr2).mono ?_;rintro e w3 ⟨Af,cf,rfl,hb4,_⟩;have c0:=(hb4.cell (p:=⟨w.heap.size,0,none⟩) l2).trans c0;have c1:=(hb4.cell (p:=⟨w.heap.size,1,none⟩) l2).trans c1;have hb5:=hb3.trans (hb4.mono (Nat.le_of_lt l2));have l3:w.heap.size<w3.heap.size:=by have:=hb4.size;omega
  clear hb3 hb4 l2;have hG:=QK HP.out (yV HP.out);have HG:=Lib.hid hG;clear hG;generalize hFl:(jE n es rs).length=F at *;clear hFl;have hrs3:=hrs.below hb5;go_wp2_with fail
  go_loopg [6,19] rs.length (fun k s6 s19 wr=>∃i:Nat,s19 = .int .i64 i∧i≤rs.length∧k=rs.length-i∧wr=w3∧s6 = .int .i64 ((F:Int)+(Yr rs i:Nat)))
  case atStart=>exact ⟨0,rfl,Nat.zero_le _,rfl,rfl,by simp [Yr]⟩
  case round=>
   obtain ⟨i,rfl,hi,hk,hwr,rfl⟩:=hrel;have Hk:=Lib.hid hk;clear hk;have hiU:=eT rs i;by_cases hlt:i<rs.length
   ·have hlt':(i:Int)<rs.length:=by omega
    obtain ⟨b,off,rfl,hbb,hc⟩:=hrs3 (by omega);obtain ⟨Ai,ci,e0,_⟩:=hc i hlt;have e0:wr.cell? ⟨b,off+i,none⟩=some (.slice Ai rs[i].length ci):=by rw [hwr];exact e0
    have HS:=Lib.hid (show Yr rs (i+1)=Yr rs i+if rs[i].length=0 then 1 else 0 by rw [Wh,List.getD_eq_getElem?_getD,List.getElem?_eq_getElem hlt];rfl);have Hwr:=Lib.hid hwr;clear hc hwr;generalize rs[i]=l at *;generalize Yr rs i=u at *;by_cases hl0:l.length=0
    ·have hl0':((l.length:Int)==0)=true:=by simp [hl0]
     rw [if_pos hl0] at HS;clear hl0;go_wp2_with fail
     go_roundg (rs.length-(i+1))
     case measure=>rw [Hk.out];omega
     case rel=>exact ⟨i+1,by go_num,by omega,rfl,Hwr.out,by rw [HS.out];go_num⟩
    ·have hl0':((l.length:Int)==0)=false:=by simp;intro hh;apply hl0;rw [hh];rfl
     rw [if_neg hl0] at HS;clear hl0;go_wp2_with fail
     go_roundg (rs.length-(i+1))
     case measure=>rw [Hk.out];omega
     case rel=>exact ⟨i+1,by go_num,by omega,rfl,Hwr.out,by rw [HS.out];go_num⟩
   ·have hie:i=rs.length:=by omega
    subst hie;subst hwr;have HG2:=HG.out;have hln:=HP.out.len;change 2*cls (Q es es.length) rs.length+es.length=rs.length+Yr rs rs.length+F+2*gen n es rs at HG2;obtain ⟨N,rfl⟩:=Int.eq_ofNat_of_zero_le (Int.le_of_lt hn0);have hNr:rs.length=N:=by omega
    have hes3:=hes.below hb5
    have ks:∀w',Below wr.heap.size wr w'→w'.cell? ⟨w.heap.size,0,none⟩=some (.int .i64 N)∧w'.cell? ⟨w.heap.size,1,none⟩=some (.slice A es.length cap):=
     fun w' h=>⟨(h.cell (p:=⟨w.heap.size,0,none⟩) l3).trans c0,(h.cell (p:=⟨w.heap.size,1,none⟩) l3).trans c1⟩
    have Ks:=Lib.hid ks;have Hes:=Lib.hid hes3;clear ks hes3;generalize Yr rs rs.length=u at *;go_wp2_with fail
    go_region_held3 (fun w'=>w'.cell? ⟨w.heap.size,0,none⟩=some (.int .i64 N)∧w'.cell? ⟨w.heap.size,1,none⟩=some (.slice A es.length cap))
     (first | exact ⟨c0,c1⟩ | exact Ks.out _ hb7)
     (first
      | (go_at_call 106;refine (UT N A cap es _ (by exact Hes.out.more (Nat.le_of_lt l3)) HP.out.may).mono ?_;rintro e w5 ⟨A5,c5,rfl,hb6⟩;have hb7:=yZ hb6))
    have hcl:cls (Q es es.length) N≤N:=Nat.le_trans List.countP_le_length (by simp);rw [hNr] at HG2;have hv:=oT HG2 (by omega) (by omega) (by omega) (by omega) (by omega);rw [hv];have HB:=Lib.hid (hb5.trans (hb7.mono (Nat.le_of_lt l3)));generalize cls (Q es es.length) N=P at *;clear hv hb7 hb6;go_wp2_with fail;go_ret2;exact ⟨HB.out,fun _=>rfl,fun h=>(by rw [Hm.out] at h;cases h)⟩
end Go.Proofs.YtneeknlhlkpnpaaGreat
