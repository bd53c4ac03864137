import Derived.Test.YtneeknlhlkpnpaaGreatZEul
/-
 The document's Right: it tells what the program's tells. Written by an AI agent.
-/
namespace Go.Proofs.YtneeknlhlkpnpaaGreat
open Go.RowKit
theorem GJ(n:Int)(A:Option Addr)(cap:Nat)(es:List (Int×Int))(h:Nat)(w:World)(hes:jr w w.heap.size A (jA es))(hh:h<2*es.length)(hlen:es.length≤1000) :
  Calls Tryz.prog 78 #[.agg #[.int .i64 n,.slice A es.length cap],.int .i64 h] w (fun e w'=>e = .returned (.int .i64 (atE es h))∧Below w.heap.size w w'):=by
 obtain ⟨b,off,rfl,hb,hc⟩:=hes.edges (by omega);have hk:h/2<es.length:=by omega
 obtain ⟨c0,c1⟩:=hc (h/2) hk;clear hc;have e0:es.getD (h/2) (0,0)=es[h/2]:=by simp [hk]
 have ha:atE es h=if h%2=0 then es[h/2].1 else es[h/2].2:=by unfold atE;rw [e0]
 have Ha:=Lib.hid ha;clear ha e0;generalize es[h/2].1=t at *;generalize es[h/2].2=u at *;have hq:Int.tdiv (h:Int) 2=((h/2:Nat):Int):=by rw [Int.tdiv_eq_ediv_of_nonneg (by omega)];simp
 have hk':((h/2:Nat):Int)<es.length:=by omega
 have hbw:=(Below.refl w.heap.size w).alloc (Nat.le_refl _) (.cells #[.int .i64 n,.slice (some ⟨b,off,none⟩) es.length cap] 24);by_cases h2:h%2=0
 ·have hr:Int.tmod (h:Int) 2=0:=by rw [Int.tmod_eq_emod_of_nonneg (by omega)];omega
  rw [if_pos h2] at Ha
  go_enter Tryz.func78,Tryz.ntmps78
  go_wp2_with fail;go_ret;exact ⟨vP Ha.out.symm,hbw⟩
 ·have hr:Int.tmod (h:Int) 2=1:=by rw [Int.tmod_eq_emod_of_nonneg (by omega)];omega
  rw [if_neg h2] at Ha
  go_enter Tryz.func78,Tryz.ntmps78
  go_wp2_with fail;go_ret;exact ⟨vP Ha.out.symm,hbw⟩
def Zd(o:List Int)(m:Nat)(P:List Int):Prop:=o.length=2*m ∧ ∀h,h<2*m→o.getD h 0=(P.count (h:Int):Nat)
theorem Zd.start(m:Nat):Zd (List.replicate (2*m) 0) m []:=⟨by simp,fun h hh=>by rw [List.getD_eq_getElem?_getD,List.getElem?_replicate,if_pos hh];rfl⟩
theorem Zd.step{o:List Int}{m:Nat}{P:List Int}(h:Zd o m P){a:Nat}(ha:a<2*m):Zd (o.set a (o.getD a 0+1)) m (P++[(a:Int)]):=by
 refine ⟨by simp [h.1],fun k hk=>?_⟩;rw [VA _ _ _ _ (by rw [h.1];exact ha),List.count_append,List.count_singleton];by_cases hka:k=a
 ·subst hka;rw [if_pos rfl,h.2 k hk];simp
 ·rw [if_neg hka,h.2 k hk,if_neg (by simp;omega)];simp
theorem ae{n:Int}{es:List (Int×Int)}{rs:List (List Int)}(hm:vj n es=true)(hl:(rs.length:Int)=n)(hat:∀x (hx:x<rs.length),∀a∈rs[x],0≤a∧a<2*(es.length:Int)∧atE es a.toNat=(x:Int)) :
  RightP n es rs ↔ ∀h:Nat,h<2*es.length→rs.flatten.count (h:Int)=1:=by
 constructor
 ·intro h k hk
  have hnd:rs.flatten.Nodup:=by
   rw [List.nodup_iff_pairwise_ne,List.pairwise_flatten];refine ⟨fun l hl=>?_,?_⟩
   ·obtain ⟨x,hx,rfl⟩:=List.mem_iff_getElem.1 hl;exact List.nodup_iff_pairwise_ne.1 (h.nd x hx)
   ·rw [List.pairwise_iff_getElem];intro i j hi hj hij a ha b hb e;subst e;have h1:=(hat i hi a ha).2.2;have h2:=(hat j hj a hb).2.2;rw [h1] at h2;omega
  obtain ⟨x,hx,hmx⟩:=h.cov k hk;have hmem:(k:Int)∈rs.flatten:=List.mem_flatten.2 ⟨_,List.getElem_mem hx,hmx⟩;rw [hnd.count,if_pos hmem]
 ·intro h;refine ⟨hm,hl,hat,fun x hx=>?_,fun k hk=>?_⟩
  ·have hnd:rs.flatten.Nodup:=by
    rw [List.nodup_iff_count];intro a;by_cases ha:a∈rs.flatten
    ·obtain ⟨l,hl,hal⟩:=List.mem_flatten.1 ha;obtain ⟨y,hy,rfl⟩:=List.mem_iff_getElem.1 hl;obtain ⟨a1,a2,_⟩:=hat y hy a hal;have:=h a.toNat (by omega);rw [show ((a.toNat:Nat):Int)=a by omega] at this;omega
    ·rw [List.count_eq_zero_of_not_mem ha];omega
   rw [List.nodup_iff_pairwise_ne,List.pairwise_flatten] at hnd;exact List.nodup_iff_pairwise_ne.2 (hnd.1 _ (List.getElem_mem hx))
  ·have:0<rs.flatten.count (k:Int):=by rw [h k hk];omega
   obtain ⟨l,hl,hkl⟩:=List.mem_flatten.1 (List.count_pos_iff.1 this);obtain ⟨y,hy,rfl⟩:=List.mem_iff_getElem.1 hl;exact ⟨y,hy,hkl⟩
theorem aU{n:Int}{es:List (Int×Int)}{rs:List (List Int)}(h:¬RightP n es rs):yn n es rs=false:=by
 rw [←Bool.not_eq_true,qZ];exact h
theorem gw{n:Int}{es:List (Int×Int)}{rs:List (List Int)}{x i:Nat}(hx:x<rs.length)(hi:i<rs[x].length)(h:¬(0≤rs[x][i]∧rs[x][i]<2*(es.length:Int)∧atE es rs[x][i].toNat=(x:Int))):yn n es rs=false:=
 aU fun g=>h (g.at_ x hx _ (List.getElem_mem hi))
set_option maxHeartbeats 4000000 in
theorem Jy(n:Int)(A C:Option Addr)(cap ccap:Nat)(es:List (Int×Int))(rs:List (List Int))(w:World)(hes:jr w w.heap.size A (jA es))(hrs:qm w w.heap.size C rs)(hr1:rs.length≤1000)(hr2:∀l∈rs,l.length≤1000) :
  Calls Tryz.prog 28 #[.agg #[.int .i64 n,.slice A es.length cap],.slice C rs.length ccap] w (fun e w'=>e = .returned (.bool (yn n es rs))∧Below w.heap.size w w'):=by
 go_enter Tryz.func28,Tryz.ntmps28
 go_wp2_with fail;have b0:=World.cell?_alloc_new w #[.int .i64 n,.slice A es.length cap] 24 0;have b1:=World.cell?_alloc_new w #[.int .i64 n,.slice A es.length cap] 24 1;simp only [List.getElem?_toArray,List.getElem?_cons_zero,List.getElem?_cons_succ] at b0 b1;have hbw:=(Below.refl w.heap.size w).alloc (Nat.le_refl _) (.cells #[.int .i64 n,.slice A es.length cap] 24);have s1:=World.size_alloc w (.cells #[.int .i64 n,.slice A es.length cap] 24);generalize w.alloc (.cells #[.int .i64 n,.slice A es.length cap] 24)=w1 at *;refine (XW n A cap es w1 ((hes.below hbw).more (by omega))).mono ?_;rintro e w2 ⟨rfl,hb2⟩;have c0:=(hb2.cell (p:=⟨w.heap.size,0,none⟩) (by simp;omega)).trans b0;have c1:=(hb2.cell (p:=⟨w.heap.size,1,none⟩) (by simp;omega)).trans b1;have hb3:=hbw.trans (hb2.mono (by omega));have l2:w.heap.size<w2.heap.size:=by have:=hb2.size;omega
 clear b0 b1 hb2 hbw s1
 cases hm:vj n es with
 | false=>
  have HR:=Lib.hid (show yn n es rs=false by unfold yn;rw [hm];rfl);clear hm;go_wp2_with fail;go_ret;exact ⟨jx HR.out.symm,hb3⟩
 | true=>
  have Hm:=Lib.hid hm;clear hm;obtain ⟨hn0,hn1,hn2⟩:=jP Hm.out;by_cases hn:(rs.length:Int)=n
  ·have hne:((rs.length:Int) != n)=false:=by simp [hn]
   have Hn:=Lib.hid hn;clear hn
   have hmk:∀W,(Instr.makeSlice 25 (.int .i64 (2*(es.length:Int))) (.int .i64 (2*(es.length:Int)))).run Tryz.prog W = .ok (.slice (some ⟨W.heap.size,0,none⟩) (2*es.length) (2*es.length)) (W.alloc (.cells (List.replicate (2*es.length) (Value.int .i64 0)).toArray 3)):=fun W=>by
    have:=yz qz rfl (2*es.length) (by omega) (by omega) W;rw [show ((2*es.length:Nat):Int)=2*(es.length:Int) by omega] at this;exact this
   go_wp2_with fail
   have g0:Blk (w2.alloc (.cells (Array.replicate (2*es.length) (Value.int .i64 0)) 3)) w2.heap.size 3 (jf (List.replicate (2*es.length) 0)).toArray:=by
    have:=Blk.new w2 3 (Array.replicate (2*es.length) (Value.int .i64 0));rw [←kQ];simpa using this
   have hb4:=hb3.alloc hb3.size (.cells (Array.replicate (2*es.length) (Value.int .i64 0)) 3);have hk4:∀p:Addr,p.block<w2.heap.size→(w2.alloc (.cells (Array.replicate (2*es.length) (Value.int .i64 0)) 3)).cell? p=w2.cell? p:=fun p hp=>World.cell?_alloc_lt _ _ p hp;have hes2:=hes.below hb3;have hrs2:=hrs.below hb3;generalize w2.alloc (.cells (Array.replicate (2*es.length) (Value.int .i64 0)) 3)=w3 at *;generalize hg:w2.heap.size=g at *;have Hg:=Lib.hid hg;clear hg
   go_loopg [6] rs.length (fun k s6 wr=>∃(x:Nat) (o:List Int),s6 = .int .i64 x∧x≤rs.length∧k=rs.length-x∧Zd o es.length (rs.take x).flatten∧(∀y (hy:y<rs.length),y<x → ∀a∈rs[y],0≤a∧a<2*(es.length:Int)∧atE es a.toNat=(y:Int))∧Below w.heap.size w wr∧Blk wr g 3 (jf o).toArray ∧ ∀p:Addr,p.block<g→wr.cell? p=w2.cell? p)
   case atStart=>exact ⟨0,_,rfl,Nat.zero_le _,rfl,Zd.start _,fun y _ hy=>absurd hy (by omega),hb4,g0,hk4⟩
   case round=>
    clear hb4 g0 hk4 hmk hb3 hne;obtain ⟨x,o,rfl,hx,hk,hcnt,hat,hb,hbl,hkp⟩:=hrel;have Hk:=Lib.hid hk;clear hk;have Hcnt:=Lib.hid hcnt;clear hcnt;have Hat:=Lib.hid hat;clear hat;have Hkp:=Lib.hid hkp;clear hkp;by_cases hlt:x<rs.length
    ·have hlt':(x:Int)<rs.length:=by omega
     obtain ⟨b,off,rfl,hbb,hrow⟩:=hrs2 (by omega);obtain ⟨Ai,ci,hcell,hCi⟩:=hrow x hlt;have hll:rs[x].length≤1000:=hr2 _ (List.getElem_mem hlt);have HF:=Lib.hid (show (rs.take (x+1)).flatten=(rs.take x).flatten++rs[x] by rw [List.take_succ_eq_append_getElem hlt,List.flatten_append];simp);have HD:=Lib.hid (fun (i:Nat) (hi:i<rs[x].length)=>gw (n:=n) (es:=es) hlt hi)
     have HA:=Lib.hid (fun (h:∀a∈rs[x],0≤a∧a<2*(es.length:Int)∧atE es a.toNat=(x:Int))=>(fun y (hy:y<rs.length) (hyx:y<x+1)=>(by
      by_cases hyx2:y=x
      ·subst hyx2;exact h
      ·exact Hat.out y hy (by omega):∀a∈rs[y],0≤a∧a<2*(es.length:Int)∧atE es a.toNat=(y:Int))))
     have HC:=Lib.hid hCi;have Hcell:=Lib.hid hcell;clear hrow hcell hCi;generalize rs[x]=l at *;go_wp2_with fail
     go_loopg [7] l.length (fun k s7 wr=>∃(i:Nat) (o:List Int),s7 = .int .i64 i∧i≤l.length∧k=l.length-i∧Zd o es.length ((rs.take x).flatten++l.take i)∧(∀a∈l.take i,0≤a∧a<2*(es.length:Int)∧atE es a.toNat=(x:Int))∧Below w.heap.size w wr∧Blk wr g 3 (jf o).toArray ∧ ∀p:Addr,p.block<g→wr.cell? p=w2.cell? p)
     case atStart=>exact ⟨0,o,rfl,Nat.zero_le _,rfl,by simpa using Hcnt.out,fun a ha=>absurd ha (by simp),hb,hbl,Hkp.out⟩
     case round=>
      clear hb hbl Hkp Hcnt;obtain ⟨i,o,rfl,hi,hk,hcnt,hrow,hb,hbl,hkp⟩:=hrel;have Hk2:=Lib.hid hk;clear hk;have Hrow:=Lib.hid hrow;clear hrow;have Hcnt:=Lib.hid hcnt;clear hcnt;have Hkp:=Lib.hid hkp;clear hkp;have e0:=(Hkp.out ⟨b,off+x,none⟩ (by simp;omega)).trans Hcell.out;by_cases hlt2:i<l.length
      ·have hlt2':(i:Int)<l.length:=by omega
       obtain ⟨bi,offi,rfl,hbi,hci⟩:=HC.out.ints (by omega);have f0:=(Hkp.out ⟨bi,offi+i,none⟩ (by simp;omega)).trans (hci i hlt2);have HDi:=Lib.hid (HD.out i hlt2);have HT:=Lib.hid (List.take_succ_eq_append_getElem hlt2);clear hci;generalize l[i]=h at *;have y0:=(Hkp.out ⟨w.heap.size,0,none⟩ (by simp;omega)).trans c0;have y1:=(Hkp.out ⟨w.heap.size,1,none⟩ (by simp;omega)).trans c1;by_cases h0:h<0
       ·have HR:=Lib.hid (HDi.out (fun hh=>by omega));go_wp2_with fail;go_ret;exact ⟨jx HR.out.symm,hb⟩
       by_cases h1:(2*es.length:Int)≤h
       ·have HR:=Lib.hid (HDi.out (fun hh=>by omega));go_wp2_with fail;go_ret;exact ⟨jx HR.out.symm,hb⟩
       obtain ⟨h,rfl⟩:=Int.eq_ofNat_of_zero_le (show 0≤h by omega);have h2:h<2*es.length:=by omega
       have hesr:=hes2.keep (w':=wr) (fun p hp=>Hkp.out p (by omega));have hgl:=hbl.lt;have Hv:=Lib.hid (GJ n A cap es h wr (hesr.more (by omega)) h2 (by omega));clear hesr;go_wp2_with fail;refine Hv.out.mono ?_;rintro e w5 ⟨rfl,hb5⟩;have hb6:=hb.trans (hb5.mono (by have:=hb.size;omega));have hbl6:=hbl.below hb5 hgl;have hkp6:∀p:Addr,p.block<g→w5.cell? p=w2.cell? p:=fun p hp=>(hb5.cell (Nat.lt_trans hp hgl)).trans (Hkp.out p hp);have Hkp6:=Lib.hid hkp6;clear hb hbl hb5 hkp6 y0 y1 f0 e0 Hkp;by_cases hv:atE es h=(x:Int)
       ·have HV:=Lib.hid hv;rw [hv];have hxx:((x:Int) != (x:Int))=false:=by simp
        have hcl:=Hcnt.out.1;have hcv:=Hcnt.out.2 h h2;have HS:=Lib.hid (Hcnt.out.step h2);have d0:=hbl6.int_ (k:=h) (by omega);rw [hcv] at d0
        have hcb:List.count ((h:Nat):Int) ((rs.take x).flatten++l.take i)≤1000000:=by
         refine Nat.le_trans List.count_le_length ?_;rw [List.length_append,List.length_take]
         have:∀k,k≤rs.length→(rs.take k).flatten.length≤k*1000:=by
          intro k
          induction k with
          | zero=>intro _;simp
          | succ k ih=>
           intro hk;have hkl:k<rs.length:=by omega
           rw [List.take_succ_eq_append_getElem hkl,List.flatten_append,List.length_append];have:=hr2 _ (List.getElem_mem hkl);have:=ih (by omega);simp only [List.flatten_cons,List.flatten_nil,List.append_nil];omega
         have:=this x (by omega);omega
        have f0:=hbl6.frozen h;have S1:=hbl6.setInt h ((List.count ((h:Nat):Int) ((rs.take x).flatten++l.take i):Int)+1);rw [hcv] at HS;generalize List.count ((h:Nat):Int) ((rs.take x).flatten++l.take i)=q at *;have hb7:=hb6.setCell (p:=⟨g,h,none⟩) (by simp;omega) (.int .i64 ((q:Int)+1));have hk7:∀p:Addr,p.block<g→(w5.setCell ⟨g,h,none⟩ (.int .i64 ((q:Int)+1))).cell? p=w2.cell? p:=fun p hp=>(World.cell?_setCell_other w5 ⟨g,h,none⟩ p _ (fun e=>by subst e;simp at hp)).trans (Hkp6.out p hp);have Hk7:=Lib.hid hk7;clear hv hbl6 hk7 hcv;go_wp2_with fail
        go_roundg (l.length-(i+1))
        case measure=>rw [Hk2.out];omega
        case rel=>exact ⟨i+1,o.set h ((q:Int)+1),by go_num,by omega,rfl,by rw [HT.out,←List.append_assoc];exact HS.out,fun a ha=>by
         rw [HT.out] at ha;rcases List.mem_append.1 ha with h3 | h3
         ·exact Hrow.out a h3
         ·have:a=(h:Int):=by simpa using h3
          subst this
          exact ⟨by omega,by omega,HV.out⟩,hb7,S1,Hk7.out⟩
       ·have HR:=Lib.hid (HDi.out (fun hh=>hv hh.2.2));have hxx:(atE es h != (x:Int))=true:=by simp [hv]
        clear hv;go_wp2_with fail;go_ret;exact ⟨jx HR.out.symm,hb6⟩
      ·have hie:i=l.length:=by omega
       subst hie;have HQ:=Lib.hid (show Zd o es.length (rs.take (x+1)).flatten by rw [HF.out];simpa using Hcnt.out);have HA2:=Lib.hid (HA.out (by simpa using Hrow.out));go_wp2_with fail
       go_roundg (rs.length-(x+1))
       case measure=>rw [Hk.out];omega
       case rel=>exact ⟨x+1,o,by go_num,by omega,rfl,HQ.out,HA2.out,hb,hbl,Hkp.out⟩
    ·have hxe:x=rs.length:=by omega
     subst hxe;have HC2:=Lib.hid (show Zd o es.length rs.flatten by simpa using Hcnt.out);have HI:=Lib.hid (ae (n:=n) (es:=es) (rs:=rs) Hm.out Hn.out (fun y hy=>Hat.out y hy hy));have hol:=HC2.out.1;clear Hkp Hcnt Hat;obtain ⟨w6,rfl⟩:∃x,x=wr:=⟨_,rfl⟩;go_wp2_with fail
     go_loopg [9] (2*es.length) (fun k s9 wr=>∃h:Nat,s9 = .int .i64 h∧h≤2*es.length∧k=2*es.length-h∧wr=w6 ∧ ∀j,j<h→rs.flatten.count (j:Int)=1)
     case atStart=>exact ⟨0,rfl,Nat.zero_le _,rfl,rfl,fun j hj=>absurd hj (by omega)⟩
     case round=>
      obtain ⟨h,rfl,hh,hk,hwr,hc⟩:=hrel;have Hk3:=Lib.hid hk;clear hk;have Hc:=Lib.hid hc;clear hc;by_cases hlt3:h<2*es.length
      ·have d0:wr.cell? ⟨g,h,none⟩=some (.int .i64 (o.getD h 0)):=by rw [hwr];exact hbl.int_ (by omega)
       rw [HC2.out.2 h hlt3] at d0;have Hwr:=Lib.hid hwr;clear hwr;have hlt3':(h:Int)<2*(es.length:Int):=by omega
       have HH:=Lib.hid (fun (e:¬rs.flatten.count (h:Int)=1)=>aU (n:=n) (es:=es) (rs:=rs) (fun g=>e (HI.out.1 g h hlt3)))
       have HH2:=Lib.hid (fun (e:rs.flatten.count (h:Int)=1)=>(fun j (hj:j<h+1)=>(by
        by_cases hjh:j=h
        ·subst hjh;exact e
        ·exact Hc.out j (by omega):rs.flatten.count (j:Int)=1)))
       generalize List.count ((h:Nat):Int) rs.flatten=q at *;by_cases hq:q=1
       ·subst hq;have H2:=Lib.hid (HH2.out rfl);go_wp2_with fail
        go_roundg (2*es.length-(h+1))
        case measure=>rw [Hk3.out];omega
        case rel=>exact ⟨h+1,by go_num,by omega,rfl,Hwr.out,H2.out⟩
       ·have HR:=Lib.hid (HH.out hq);have hq1:((q:Int) != 1)=true:=by simp;omega
        have hbw:Below w.heap.size w wr:=by rw [Hwr.out];exact hb
        clear hq;go_wp2_with fail;go_ret;exact ⟨jx HR.out.symm,hbw⟩
      ·have HR:=Lib.hid (qZ.2 (HI.out.2 (fun j hj=>Hc.out j (by omega))));go_wp2_with fail;go_ret;exact ⟨jx HR.out.symm,hb⟩
  ·have hne:((rs.length:Int) != n)=true:=by simp [hn]
   have HR:=Lib.hid (show yn n es rs=false by unfold yn;rw [decide_eq_false hn];simp);clear hn;go_wp2_with fail;go_ret;exact ⟨jx HR.out.symm,hb3⟩
end Go.Proofs.YtneeknlhlkpnpaaGreat
namespace Go.Proofs.YtneeknlhlkpnpaaGreat
open Go.RowKit
theorem uA.mono{w:World}{base base':Nat}{A:Option Addr}{rs:List (List Int)}(h:uA w base A rs)(hb:base'≤base):uA w base' A rs:=fun hn=>by
 obtain ⟨b,off,e,h1,h2,hc⟩:=h hn;refine ⟨b,off,e,by omega,h2,fun i hi=>?_⟩;obtain ⟨Ai,ci,h3,h4⟩:=hc i hi;refine ⟨Ai,ci,h3,fun hp=>?_⟩;obtain ⟨bi,oi,e2,h5,h6,h7⟩:=h4 hp;exact ⟨bi,oi,e2,by omega,h6,h7⟩
theorem qo.below{w w':World}{b0 B:Nat}{v:Value}{F:List (List Int)}(h:qo w b0 v F)(hb:Below B w w')(hB:w.heap.size≤B):qo w' b0 v F:=by
 obtain ⟨sl,h1,h2⟩:=h;refine ⟨sl,jT h1 hb hB,fun i hi=>?_⟩;obtain ⟨Ai,ci,h3,h4⟩:=h2 i hi;exact ⟨Ai,ci,h3,jT h4 hb hB⟩
def cq(f:Nat→Nat)(h i:Nat):List Int:=(List.range i).map fun j=>((qQ f j h:Nat):Int)
theorem ac(f:Nat→Nat)(h i:Nat):(cq f h i).length=i:=by simp [cq]
theorem gm(f:Nat→Nat)(h i:Nat):cq f h (i+1)=cq f h i++[((qQ f i h:Nat):Int)]:=by
 unfold cq;rw [List.range_succ,List.map_append];rfl
def cA(f:Nat→Nat)(h i:Nat):Bool:=(List.range' 1 (i-1)).all fun j=>decide (h<qQ f j h)
theorem ib(f:Nat→Nat)(h:Nat){i:Nat}(hi:1≤i):cA f h (i+1)=(cA f h i&&decide (h<qQ f i h)):=by
 unfold cA;rw [show i+1-1=(i-1)+1 by omega,List.range'_concat,List.all_append];simp [show 1+(i-1)=i by omega]
theorem dk{N:Nat}{f:Nat→Nat}(hf:Perm N f){h:Nat}(hh:h<N):cA f h (per f h)=ko f h:=by
 obtain ⟨h1,_,_,h4⟩:=uo hf hh;rw [Bool.eq_iff_iff];unfold cA ko;rw [jB,List.all_eq_true];constructor
 ·intro g y hy o;obtain ⟨i,hi,e⟩:=(Gq hf hh y).1 (Orb.symm hf (by omega) o)
  cases i with
  | zero=>have:h=y:=e;omega
  | succ i=>
   have:=g (i+1) (by rw [List.mem_range'_1];omega);rw [decide_eq_true_eq,e] at this;omega
 ·intro g j hj;rw [List.mem_range'_1] at hj;rw [decide_eq_true_eq];have hne:=h4 j (by omega) (by omega);rcases Nat.lt_trichotomy h (qQ f j h) with h5 | h5 | h5
  ·exact h5
  ·exact absurd h5.symm hne
  ·exact absurd (Orb.symm hf hh ⟨j,rfl⟩) (g _ h5)
set_option maxHeartbeats 1000000 in
theorem mf(n:Int)(A C:Option Addr)(cap ccap:Nat)(es:List (Int×Int))(rs:List (List Int))(d:Nat)(w:World)(hes:jr w w.heap.size A (jA es))(hrs:qm w w.heap.size C rs)(hr1:rs.length≤1000)(hr2:∀l∈rs,l.length≤1000)(hP:RightP n es rs)(hd:d<2*es.length) :
  Calls Tryz.prog 118 #[.agg #[.int .i64 n,.slice A es.length cap],.slice C rs.length ccap,.int .i64 d] w (fun e w'=>e = .returned (.int .i64 (nxf es rs d:Nat))∧Below w.heap.size w w'):=by
 have hm:=(jP hP.may).2.2;have hot:=xY hd;obtain ⟨x,i0,hx,hi0,he,hv⟩:=hP.pos hot
 have hat:atE es (ot d)=(x:Int):=by
  have:=(hP.at_ x hx _ (List.getElem_mem hi0)).2.2;rw [he] at this;exact this
 have hsig:=kR hP hx hi0 he;have HN:=Lib.hid (show sig es rs (ot d)=nxf es rs d by unfold sig;rw [Qf]);have hnd:=hP.nd x hx;have gd:∀i (hi:i<rs[x].length),rs[x].getD i 0=rs[x][i]:=fun i hi=>by rw [List.getD_eq_getElem?_getD,List.getElem?_eq_getElem hi];rfl
 have HND:=Lib.hid (fun i (hi:i<rs[x].length) (e:rs[x].getD i 0=((ot d:Nat):Int))=>Vr hnd hi hi0 (((gd i hi).symm.trans e).trans he.symm));have hll:=hr2 _ (List.getElem_mem hx);obtain ⟨b,off,rfl,hbb,hrow⟩:=hrs (by omega);obtain ⟨Ai,ci,hcell,hCi⟩:=hrow x hx;have Hcell:=Lib.hid hcell;have HC:=Lib.hid hCi;have HE:=Lib.hid (show rs[x].getD i0 0=((ot d:Nat):Int) from (gd i0 hi0).trans he);have HS:=Lib.hid (show rs[x].getD ((i0+1)%rs[x].length) 0=(sig es rs (ot d):Nat) from (gd _ (Nat.mod_lt _ (by omega))).trans hsig);clear hrow hcell hCi he hsig hnd gd;generalize rs[x]=l at *;have hx':(x:Int)<rs.length:=by omega
 have hod:(if d%2=0 then ((d:Int)+1) else ((d:Int)-1))=((ot d:Nat):Int):=by unfold ot;split<;>omega
 have hbw:=(Below.refl w.heap.size w).alloc (Nat.le_refl _) (.cells #[.int .i64 n,.slice A es.length cap] 24);by_cases h2:d%2=0
 ·have hr:Int.tmod (d:Int) 2=0:=by rw [Int.tmod_eq_emod_of_nonneg (by omega)];omega
  rw [if_pos h2] at hod
  go_enter Tryz.func118,Tryz.ntmps118
  go_wp2_with fail;refine (GJ n A cap es (ot d) _ ((hes.below hbw).more (by simp)) hot (by omega)).mono ?_;rintro e w2 ⟨rfl,hb2⟩;rw [hat];have hb3:=hbw.trans (hb2.mono (by simp));have e0:=(hb3.cell (p:=⟨b,off+x,none⟩) hbb).trans Hcell.out;have HC2:=Lib.hid (HC.out.below hb3);generalize ot d=od at *;clear hb2 hbw;go_wp2_with fail
  go_loopg [9] l.length (fun k s9 wr=>∃i:Nat,s9 = .int .i64 i∧i≤i0∧k=l.length-i∧wr=w2)
  case atStart=>exact ⟨0,rfl,Nat.zero_le _,rfl,rfl⟩
  case round=>
   obtain ⟨i,rfl,hi,hk,hwr⟩:=hrel;have Hk:=Lib.hid hk;clear hk;have hil:(i:Int)<l.length:=by omega
   obtain ⟨bi,offi,rfl,hbi,hci⟩:=HC2.out.ints (by omega);have f0:wr.cell? ⟨bi,offi+i,none⟩=some (.int .i64 (l.getD i 0)):=by rw [hwr,hci i (by omega),List.getD_eq_getElem?_getD,List.getElem?_eq_getElem (by omega)];rfl
   by_cases hii:i=i0
   ·subst hii;have hj:(i+1)%l.length<l.length:=Nat.mod_lt _ (by omega);have f1:wr.cell? ⟨bi,offi+(i+1)%l.length,none⟩=some (.int .i64 (l.getD ((i+1)%l.length) 0)):=by rw [hwr,hci _ hj,List.getD_eq_getElem?_getD,List.getElem?_eq_getElem hj];rfl
    have hmm:Int.tmod ((i:Int)+1) l.length=(((i+1)%l.length:Nat):Int):=by rw [Int.tmod_eq_emod_of_nonneg (by omega)];simp
    have hl0:¬((l.length:Int)=0):=by omega
    have hj':(((i+1)%l.length:Nat):Int)<l.length:=by omega
    rw [HE.out] at f0;rw [HS.out,HN.out] at f1;have Hwr:=Lib.hid hwr;clear hci hwr;generalize (i+1)%l.length=jj at *;have hqq:((od:Int)==(od:Int))=true:=by simp
    have HB:=Lib.hid (show Below w.heap.size w wr by rw [Hwr.out];exact hb3);go_wp2_with fail;go_ret;exact ⟨rfl,HB.out⟩
   ·have hne:((l.getD i 0)==(od:Int))=false:=by
     simp only [beq_eq_false_iff_ne];exact fun e=>hii (HND.out i (by omega) e)
    have Hwr:=Lib.hid hwr;clear hci hwr;generalize l.getD i 0=q at *;go_wp2_with fail
    go_roundg (l.length-(i+1))
    case measure=>rw [Hk.out];omega
    case rel=>exact ⟨i+1,by go_num,by omega,rfl,Hwr.out⟩
 ·have hr:Int.tmod (d:Int) 2=1:=by rw [Int.tmod_eq_emod_of_nonneg (by omega)];omega
  rw [if_neg h2] at hod
  go_enter Tryz.func118,Tryz.ntmps118
  go_wp2_with fail;refine (GJ n A cap es (ot d) _ ((hes.below hbw).more (by simp)) hot (by omega)).mono ?_;rintro e w2 ⟨rfl,hb2⟩;rw [hat];have hb3:=hbw.trans (hb2.mono (by simp));have e0:=(hb3.cell (p:=⟨b,off+x,none⟩) hbb).trans Hcell.out;have HC2:=Lib.hid (HC.out.below hb3);generalize ot d=od at *;clear hb2 hbw;go_wp2_with fail
  go_loopg [9] l.length (fun k s9 wr=>∃i:Nat,s9 = .int .i64 i∧i≤i0∧k=l.length-i∧wr=w2)
  case atStart=>exact ⟨0,rfl,Nat.zero_le _,rfl,rfl⟩
  case round=>
   obtain ⟨i,rfl,hi,hk,hwr⟩:=hrel;have Hk:=Lib.hid hk;clear hk;have hil:(i:Int)<l.length:=by omega
   obtain ⟨bi,offi,rfl,hbi,hci⟩:=HC2.out.ints (by omega);have f0:wr.cell? ⟨bi,offi+i,none⟩=some (.int .i64 (l.getD i 0)):=by rw [hwr,hci i (by omega),List.getD_eq_getElem?_getD,List.getElem?_eq_getElem (by omega)];rfl
   by_cases hii:i=i0
   ·subst hii;have hj:(i+1)%l.length<l.length:=Nat.mod_lt _ (by omega);have f1:wr.cell? ⟨bi,offi+(i+1)%l.length,none⟩=some (.int .i64 (l.getD ((i+1)%l.length) 0)):=by rw [hwr,hci _ hj,List.getD_eq_getElem?_getD,List.getElem?_eq_getElem hj];rfl
    have hmm:Int.tmod ((i:Int)+1) l.length=(((i+1)%l.length:Nat):Int):=by rw [Int.tmod_eq_emod_of_nonneg (by omega)];simp
    have hl0:¬((l.length:Int)=0):=by omega
    have hj':(((i+1)%l.length:Nat):Int)<l.length:=by omega
    rw [HE.out] at f0;rw [HS.out,HN.out] at f1;have Hwr:=Lib.hid hwr;clear hci hwr;generalize (i+1)%l.length=jj at *;have hqq:((od:Int)==(od:Int))=true:=by simp
    have HB:=Lib.hid (show Below w.heap.size w wr by rw [Hwr.out];exact hb3);go_wp2_with fail;go_ret;exact ⟨rfl,HB.out⟩
   ·have hne:((l.getD i 0)==(od:Int))=false:=by
     simp only [beq_eq_false_iff_ne];exact fun e=>hii (HND.out i (by omega) e)
    have Hwr:=Lib.hid hwr;clear hci hwr;generalize l.getD i 0=q at *;go_wp2_with fail
    go_roundg (l.length-(i+1))
    case measure=>rw [Hk.out];omega
    case rel=>exact ⟨i+1,by go_num,by omega,rfl,Hwr.out⟩
set_option maxHeartbeats 4000000 in
theorem Yw(n:Int)(A C:Option Addr)(cap ccap:Nat)(es:List (Int×Int))(rs:List (List Int))(w:World)(hes:jr w w.heap.size A (jA es))(hrs:qm w w.heap.size C rs)(hr1:rs.length≤1000)(hr2:∀l∈rs,l.length≤1000)(hP:RightP n es rs) :
  Calls Tryz.prog 65 #[.agg #[.int .i64 n,.slice A es.length cap],.slice C rs.length ccap] w (Ky (jE n es rs) w):=by
 have hm:=(jP hP.may).2.2;have HP:=Lib.hid hP;have Hf:=Lib.hid (vI hP);have HFO:=Lib.hid (vy hP);clear hP;have HNX:=Lib.hid (fun (d:Nat) (hd:d<2*es.length) (wv:World) (hb:Below w.heap.size w wv)=>mf n A C cap ccap es rs d wv ((hes.below hb).more hb.size) ((hrs.below hb).more hb.size) hr1 hr2 HP.out hd);clear hes hrs;generalize nxf es rs=f at *
 go_enter Tryz.func65,Tryz.ntmps65
 go_wp2_with fail;have b0:=World.cell?_alloc_new w #[.int .i64 n,.slice A es.length cap] 24 0;have b1:=World.cell?_alloc_new w #[.int .i64 n,.slice A es.length cap] 24 1;simp only [List.getElem?_toArray,List.getElem?_cons_zero,List.getElem?_cons_succ] at b0 b1;have hbw:=(Below.refl w.heap.size w).alloc (Nat.le_refl _) (.cells #[.int .i64 n,.slice A es.length cap] 24);have s1:=World.size_alloc w (.cells #[.int .i64 n,.slice A es.length cap] 24);generalize w.alloc (.cells #[.int .i64 n,.slice A es.length cap] 24)=w1 at *;have hbw1:=(Below.refl w1.heap.size w1).alloc (Nat.le_refl _) (.cells #[] 25)
 have hF0:qo (w1.alloc (.cells #[] 25)) (w.heap.size+1) (.slice (some ⟨w.heap.size+1,0,none⟩) 0 0) (yr f 0):=by
  have:=Blk.new w1 25 #[];rw [s1] at this;exact ⟨[],vl (R:=#[]) (Nat.le_refl _) (by simpa using this) (by simp) (Nat.le_refl _) (by unfold maxLen;omega) (by simp),fun i hi=>absurd hi (by simp [yr])⟩
 have l1:w.heap.size<w1.heap.size:=by omega
 go_loopg [5,6] (2*es.length) (fun k s5 s6 wr=>∃h:Nat,s6 = .int .i64 h∧h≤2*es.length∧k=2*es.length-h∧Below w1.heap.size w1 wr∧qo wr (w.heap.size+1) s5 (yr f h))
 case atStart=>exact ⟨0,rfl,Nat.zero_le _,rfl,hbw1,hF0⟩
 case round=>
  clear hbw1 hF0;obtain ⟨h,rfl,hh,hk,hb,hF⟩:=hrel;have Hk:=Lib.hid hk;clear hk
  have hFl:(yr f h).length≤h:=by
   unfold yr;rw [List.length_map];exact Nat.le_trans (List.length_filter_le _ _) (by simp)
  have c0:=(hb.cell (p:=⟨w.heap.size,0,none⟩) l1).trans b0;have c1:=(hb.cell (p:=⟨w.heap.size,1,none⟩) l1).trans b1;by_cases hlt:h<2*es.length
  ·have hlt':(h:Int)<2*(es.length:Int):=by omega
   have HRU:=Lib.hid (Yu f h);obtain ⟨p1,p2,p3,p4⟩:=uo Hf.out hlt;have HLL:=Lib.hid (dk Hf.out hlt);have hbw0:=hbw.trans (hb.mono (Nat.le_of_lt l1));have HF0:=Lib.hid hF;have ls:=hb.size;obtain ⟨w0,rfl⟩:∃x,x=wr:=⟨_,rfl⟩;clear hF;have hba:=(Below.refl w0.heap.size w0).alloc (Nat.le_refl _) (.cells #[.int .i64 (h:Int)] 3)
   have hoa:(w0.alloc (.cells #[.int .i64 (h:Int)] 3)).ownsRow w0.heap.size 3 1 (.slice (some ⟨w0.heap.size,0,none⟩) 1 1) 1 (jf (cq f h 1)):=
    vx (Blk.new w0 3 #[.int .i64 (h:Int)]) (Nat.le_refl _) (by simp [jf,cq]) (by omega)
   have lw0:w.heap.size<w0.heap.size:=by omega
   have c0a:=(hba.cell (p:=⟨w.heap.size,0,none⟩) lw0).trans c0;have c1a:=(hba.cell (p:=⟨w.heap.size,1,none⟩) lw0).trans c1;go_wp2_with fail;refine (HNX.out h hlt _ (hbw0.trans (hba.mono hbw0.size))).mono ?_;rintro e w2 ⟨rfl,hb2⟩;have hs2:w0.heap.size≤(w0.alloc (.cells #[.int .i64 (h:Int)] 3)).heap.size:=by simp
   have hb3:=hba.trans (hb2.mono hs2);have ho3:=jT hoa hb2 (Nat.le_refl _);clear hba hoa hb2 hs2 c0 c1 c0a c1a;go_wp2_with fail
   go_loopg [7,8,9] (per f h-1) (fun k s7 s8 s9 wr=>∃(i:Nat) (Af:Option Addr) (cf:Nat) (q:Bool),s9 = .int .i64 (qQ f i h:Nat)∧1≤i∧i≤per f h∧s7 = .slice Af i cf∧s8 = .bool q∧q=cA f h i∧k=per f h-i∧Below w0.heap.size w0 wr∧wr.ownsRow w0.heap.size 3 1 (.slice Af i cf) i (jf (cq f h i)))
   case atStart=>exact ⟨1,_,1,true,rfl,Nat.le_refl _,p1,rfl,rfl,rfl,rfl,hb3,ho3⟩
   case round=>
    clear hb3 ho3;obtain ⟨i,Af,cf,q,rfl,hi1,hip,rfl,rfl,hq,hk,hbr,hown⟩:=hrel;have Hk2:=Lib.hid hk;clear hk;have Hq:=Lib.hid hq;clear hq;have c0:=(hbr.cell (p:=⟨w.heap.size,0,none⟩) (by simp;omega)).trans ((hb.cell (p:=⟨w.heap.size,0,none⟩) l1).trans b0);have c1:=(hbr.cell (p:=⟨w.heap.size,1,none⟩) (by simp;omega)).trans ((hb.cell (p:=⟨w.heap.size,1,none⟩) l1).trans b1);have hsr:=hbr.size;by_cases hie:i=per f h
    ·subst hie;rw [p3];have hhh:((h:Int) != (h:Int))=false:=by simp
     have hF1:=HF0.out.below hbr (Nat.le_refl _);have hbo:=hb.trans (hbr.mono ls);have HQL:=Lib.hid (Hq.out.trans HLL.out);have hrow:cq f h (per f h)=uk f h:=rfl;rw [hrow] at hown;have hrl:(uk f h).length=per f h:=ac f h _;have Hrl:=Lib.hid hrl;rw [←hrl] at hown;have HU2:=Lib.hid (show yr f (h+1)=yr f h++if q=true then [uk f h] else [] by rw [HRU.out,←HQL.out]);clear hrow hrl Hq HLL HRU HQL p2 p3 p4
     cases q with
     | true=>
      obtain ⟨sl,ho,h2⟩:=hF1;have Ho:=Lib.hid h2;clear h2;rw [←Hrl.out];generalize uk f h=R at *;go_wp2_with (at_builtin;refine yC KO rfl _ _ rfl (w.heap.size+1) u5 _ _ rfl wr.heap.size [.slice Af R.length cf] rfl rfl ho rfl rfl ?h2 ?h3 ?h4 ?_)
      case h2=>omega
      case h3=>omega
      case h4=>omega
      intro v' w' hown' hg' _;have hb':=qb hbo ho hg' (by omega) (by omega);have hF':=qo.push ho Ho.out (qh hown (by omega)) hg' hown';have HX:=Lib.hid (And.intro hb' hF');clear hb' hF' ho hown' hg' hown Ho;go_wp2_with fail
      go_roundg (2*es.length-(h+1))
      case measure=>rw [Hk.out];omega
      case rel=>exact ⟨h+1,by go_num,by omega,rfl,HX.out.1,by rw [HU2.out];exact HX.out.2⟩
     | false=>
      have HX:=Lib.hid (And.intro hbo hF1);clear hbo hF1 hown;go_wp2_with fail
      go_roundg (2*es.length-(h+1))
      case measure=>rw [Hk.out];omega
      case rel=>exact ⟨h+1,by go_num,by omega,rfl,HX.out.1,by rw [HU2.out];simpa using HX.out.2⟩
    ·have hne:=p4 i (by omega) (by omega);have hki:(((qQ f i h:Nat):Int) != (h:Int))=true:=by simp;omega
     have hkN:=Hf.out.iter_lt i hlt;have HR:=Lib.hid (gm f h i);have HL:=Lib.hid (ib f h hi1);have HI:=Lib.hid (ua f i h);have hpl:per f h≤256:=by omega
     clear p2 p3 p4 hne HLL HRU;generalize qQ f i h=k at *;go_wp2_with (at_builtin;refine yC qz rfl _ _ rfl w0.heap.size (.slice Af i cf) _ _ rfl wr.heap.size [.int .i64 (k:Int)] rfl rfl hown rfl rfl ?h2 ?h3 ?h4 ?_)
     case h2=>omega
     case h3=>omega
     case h4=>omega
     intro v' w' hown' hg' _;have hb':=qb hbr hown hg' (by omega) (Nat.le_refl _);obtain ⟨A5,c5,rfl⟩:=jv hown';have c0:=(hb'.cell (p:=⟨w.heap.size,0,none⟩) (by simp;omega)).trans ((hb.cell (p:=⟨w.heap.size,0,none⟩) l1).trans b0);have c1:=(hb'.cell (p:=⟨w.heap.size,1,none⟩) (by simp;omega)).trans ((hb.cell (p:=⟨w.heap.size,1,none⟩) l1).trans b1);have hbn:=hbw0.trans (hb'.mono hbw0.size);have Hn:=Lib.hid (HNX.out k hkN w' hbn);have hs':=hb'.size;clear hown hg' hbr hbn
     cases q with
     | true=>
      by_cases hkh:h<k
      ·have hkh':((k:Int))>(h:Int):=by omega
       have HL2:=Lib.hid (show cA f h (i+1)=true by rw [HL.out,←Hq.out,decide_eq_true hkh];rfl);clear hkh;go_wp2_with fail;refine Hn.out.mono ?_;rintro e w5 ⟨rfl,hb5⟩;have hb6:=hb'.trans (hb5.mono hs');have ho6:=jT hown' hb5 (Nat.le_refl _);clear hown' hb5 hb' c0 c1;go_wp2_with fail
       go_roundg (per f h-(i+1))
       case measure=>rw [Hk2.out];omega
       case rel=>exact ⟨i+1,A5,c5,true,by rw [HI.out],by omega,by omega,rfl,rfl,HL2.out.symm,rfl,hb6,by rw [HR.out];simpa [jf] using ho6⟩
      ·have hkh':¬((k:Int))>(h:Int):=by omega
       have HL2:=Lib.hid (show cA f h (i+1)=false by rw [HL.out,decide_eq_false hkh,Bool.and_false]);clear hkh;go_wp2_with fail;refine Hn.out.mono ?_;rintro e w5 ⟨rfl,hb5⟩;have hb6:=hb'.trans (hb5.mono hs');have ho6:=jT hown' hb5 (Nat.le_refl _);clear hown' hb5 hb' c0 c1;go_wp2_with fail
       go_roundg (per f h-(i+1))
       case measure=>rw [Hk2.out];omega
       case rel=>exact ⟨i+1,A5,c5,false,by rw [HI.out],by omega,by omega,rfl,rfl,HL2.out.symm,rfl,hb6,by rw [HR.out];simpa [jf] using ho6⟩
     | false=>
      have HL2:=Lib.hid (show cA f h (i+1)=false by rw [HL.out,←Hq.out,Bool.false_and]);go_wp2_with fail;refine Hn.out.mono ?_;rintro e w5 ⟨rfl,hb5⟩;have hb6:=hb'.trans (hb5.mono hs');have ho6:=jT hown' hb5 (Nat.le_refl _);clear hown' hb5 hb' c0 c1;go_wp2_with fail
      go_roundg (per f h-(i+1))
      case measure=>rw [Hk2.out];omega
      case rel=>exact ⟨i+1,A5,c5,false,by rw [HI.out],by omega,by omega,rfl,rfl,HL2.out.symm,rfl,hb6,by rw [HR.out];simpa [jf] using ho6⟩
  ·have hie:h=2*es.length:=by omega
   obtain ⟨A4,c4,rfl,hR0⟩:=hF.hi;have hR:=hR0.mono (Nat.le_succ w.heap.size);have HX:=Lib.hid (show jE n es rs=yr f h by rw [HFO.out,hie]);have hbo:=hbw.trans (hb.mono (Nat.le_of_lt l1));generalize yr f h=F at *;go_wp2_with fail;go_ret;exact ⟨A4,c4,by rw [HX.out];rfl,hbo,by rw [HX.out];exact hR⟩
theorem Jz(n:Int)(A C:Option Addr)(cap ccap:Nat)(es:List (Int×Int))(rs:List (List Int))(w:World)(hes:jr w w.heap.size A (jA es))(hrs:qm w w.heap.size C rs)(hr1:rs.length≤1000)(hr2:∀l∈rs,l.length≤1000)(hP:RightP n es rs) :
  Calls Tryz.prog 65 #[.agg #[.int .i64 n,.slice A es.length cap],.slice C rs.length ccap] w (Wz (jE n es rs) w):=
 (Yw n A C cap ccap es rs w hes hrs hr1 hr2 hP).mono fun _ _ ⟨A',c',h1,h2,h3⟩=>⟨A',c',h1,h2,h3.at_⟩
end Go.Proofs.YtneeknlhlkpnpaaGreat
namespace Go.Proofs.YtneeknlhlkpnpaaGreat
open Go.RowKit
def pU(wo:List Bool)(es:List (Int×Int))(n k:Nat):Nat:=(List.range k).countP fun x=>decide (YX wo es n x=(x:Int))
theorem oz(wo:List Bool)(es:List (Int×Int))(n k:Nat):pU wo es n (k+1)=pU wo es n k+if YX wo es n k=(k:Int) then 1 else 0:=by
 unfold pU;rw [List.range_succ,List.countP_append];simp
theorem rq(wo:List Bool)(es:List (Int×Int))(n k:Nat):pU wo es n k≤k:=Nat.le_trans List.countP_le_length (by simp)
theorem pF{es:List (Int×Int)}{N:Nat}(hin:InN N es)(hn:N≤64):pU (List.replicate N false) es N N=cls (Q es es.length) N:=by
 have hK:∀x y,Kin 0 es x y↔Q es es.length x y:=fun x y=>by
  unfold Kin Q;refine Star.congr fun i hi=>?_;unfold vH;have h0:∀a,yP 0 a=false:=fun a=>by simp [yP]
  rw [h0,h0,decide_eq_true hi];rfl
 unfold pU cls;apply List.countP_congr;intro x hx;have hx:=List.mem_range.1 hx;rw [decide_eq_true_eq,jB,gj (wo:=0) hin hn (fun y hy=>by rw [List.getD_eq_getElem?_getD,List.getElem?_replicate,if_pos hy];simp) hx x hx];constructor
 ·rintro ⟨_,_,g⟩ k hk q;exact g k hk (Kin.symm ((hK _ _).2 q))
 ·intro g;exact ⟨by simp,.refl _,fun y hy q=>g y hy ((hK _ _).1 (Kin.symm q))⟩
theorem lW(N:Nat)(A:Option Addr)(cap:Nat)(es:List (Int×Int))(W:World)(hes:jr W W.heap.size A (jA es))(hin:InN N es)(h0:0<N)(h1:N≤64)(hlen:es.length≤128) :
  Calls Tryz.prog 79 #[.agg #[.int .i64 N,.slice A es.length cap],.slice (some ⟨W.heap.size,0,none⟩) N N] (W.alloc (.cells (Array.replicate N (Value.bool false)) 4)).drew
   (fun e w'=>∃g c,e = .returned (.slice (some ⟨g,0,none⟩) N c)∧Below W.heap.size W w' ∧ ∀k,k<N→w'.cell? ⟨g,k,none⟩=some (.int .i64 (YX (List.replicate N false) es N k))):=by
 have g0:Blk (W.alloc (.cells (Array.replicate N (Value.bool false)) 4)) W.heap.size 4 (jD (List.replicate N false)).toArray:=by
  have:=Blk.new W 4 (Array.replicate N (Value.bool false));rw [←xa];simpa using this
 have hb:=(Below.refl W.heap.size W).alloc (Nat.le_refl _) (.cells (Array.replicate N (Value.bool false)) 4);have hs:W.heap.size≤(W.alloc (.cells (Array.replicate N (Value.bool false)) 4)).heap.size:=by simp
 have ho:jr (W.alloc (.cells (Array.replicate N (Value.bool false)) 4)) (W.alloc (.cells (Array.replicate N (Value.bool false)) 4)).heap.size (some ⟨W.heap.size,0,none⟩) (jD (List.replicate N false)):=(jr.of_blk (R:=#[]) (by simpa using g0)).more (by simp);refine (ah N A (some ⟨W.heap.size,0,none⟩) cap N es (List.replicate N false) (W.alloc (.cells (Array.replicate N (Value.bool false)) 4)).drew ((hes.below hb).more hs) ho hin h1 hlen (by simp)).mono ?_;rintro e w2 ⟨v,rfl,hb2,hv⟩;rw [show (jf (km (List.replicate N false) es N N)).length=N by simp [jf,km]] at hv;obtain ⟨g2,cap2,R2,rfl,hg2,hk2,_⟩:=xO hv (by omega);refine ⟨g2,cap2,rfl,hb.trans ((yZ hb2).mono hs),fun k hk=>?_⟩;rw [hk2.cell k,Array.getElem?_append_left (by simp [jf,km,hk])];simp [jf,km,hk]
set_option maxRecDepth 20000 in
set_option maxHeartbeats 2000000 in
theorem Zk(n:Int)(A C:Option Addr)(cap ccap:Nat)(es:List (Int×Int))(rs:List (List Int))(w:World)(hes:jr w w.heap.size A (jA es))(hrs:qm w w.heap.size C rs)(hr1:rs.length≤1000)(hr2:∀l∈rs,l.length≤1000)(hP:RightP n es rs) :
  Calls Tryz.prog 29 #[.agg #[.int .i64 n,.slice A es.length cap],.slice C rs.length ccap] w (fun e w'=>e = .returned (.int .i64 (gen n es rs:Nat))∧Below w.heap.size w w'):=by
 obtain ⟨hn0,hn1,hn2⟩:=jP hP.may;have hF:=xn hP;have HG:=Lib.hid (QK hP (yV hP));have HP:=Lib.hid hP;obtain ⟨N,rfl⟩:=Int.eq_ofNat_of_zero_le (Int.le_of_lt hn0);have hNr:rs.length=N:=by have:=hP.len;omega
 have hin:InN N es:=by have:=yV hP;rwa [hNr] at this
 have Hin:=Lib.hid hin;clear hP hin
 go_enter Tryz.func29,Tryz.ntmps29
 go_wp2_with fail;have b0:=World.cell?_alloc_new w #[.int .i64 N,.slice A es.length cap] 24 0;have b1:=World.cell?_alloc_new w #[.int .i64 N,.slice A es.length cap] 24 1;simp only [List.getElem?_toArray,List.getElem?_cons_zero,List.getElem?_cons_succ] at b0 b1;have hbw:=(Below.refl w.heap.size w).alloc (Nat.le_refl _) (.cells #[.int .i64 N,.slice A es.length cap] 24);have s1:=World.size_alloc w (.cells #[.int .i64 N,.slice A es.length cap] 24);generalize w.alloc (.cells #[.int .i64 N,.slice A es.length cap] 24)=w1 at *;have hfc:=Jz N A C cap ccap es rs w1 ((hes.below hbw).more (by omega)) ((hrs.below hbw).more (by omega)) hr1 hr2 HP.out;rw [hNr] at hfc ⊢;refine hfc.mono ?_;rintro e w3 ⟨Af,cf,rfl,hb4,_⟩;have c0:=(hb4.cell (p:=⟨w.heap.size,0,none⟩) (by simp;omega)).trans b0;have c1:=(hb4.cell (p:=⟨w.heap.size,1,none⟩) (by simp;omega)).trans b1;have hb5:=hbw.trans (hb4.mono (by omega));have l3:w.heap.size<w3.heap.size:=by have:=hb4.size;omega
 clear b0 b1 hb4 hbw s1 hfc;generalize hFl:(jE (N:Int) es rs).length=F at *;clear hFl;have hrs3:=hrs.below hb5;have Hes:=Lib.hid (hes.below hb5);have Hrs:=Lib.hid hrs3;clear hes hrs hrs3
 have ks:∀w',Below w3.heap.size w3 w'→w'.cell? ⟨w.heap.size,0,none⟩=some (.int .i64 N)∧w'.cell? ⟨w.heap.size,1,none⟩=some (.slice A es.length cap):=
  fun w' h=>⟨(h.cell (p:=⟨w.heap.size,0,none⟩) l3).trans c0,(h.cell (p:=⟨w.heap.size,1,none⟩) l3).trans c1⟩
 have Ks:=Lib.hid ks;clear ks;have hmk:=fun W=>yz kw rfl N (by omega) (by omega) W;go_wp2_with fail
 go_region_held3 (fun w'=>w'.cell? ⟨w.heap.size,0,none⟩=some (.int .i64 N)∧w'.cell? ⟨w.heap.size,1,none⟩=some (.slice A es.length cap))
  (first | exact ⟨c0,c1⟩ | exact Ks.out _ ((Below.refl _ _).alloc (Nat.le_refl _) _) | exact Ks.out _ ((Below.refl _ _).alloc (Nat.le_refl _) _).drew | exact Ks.out _ hb7)
  (first
   | (go_at_call 79;refine (lW N A cap es w3 (Hes.out.more (Nat.le_of_lt l3)) Hin.out (by omega) (by omega) (by omega)).mono ?_;rintro e w5 ⟨g5,c5,rfl,hb7,hc5⟩))
 have Hc5:=Lib.hid hc5;obtain ⟨d0,d1⟩:=Ks.out _ hb7;have HB:=Lib.hid (hb5.trans (hb7.mono (Nat.le_of_lt l3)));have hrs5:=Hrs.out.below (hb7.mono (Nat.le_of_lt l3));clear hc5 hb7 hb5 c0 c1 Ks Hrs Hes hmk;have HPU:=Lib.hid (pF Hin.out (by omega));generalize List.replicate N false=wo at *;go_wp2_with fail
 go_loopg [5,6,8] N (fun k s5 s6 s8 wr=>∃i:Nat,s8 = .int .i64 i∧i≤N∧k=N-i∧wr=w5∧s5 = .int .i64 ((F:Int)+(Yr rs i:Nat))∧s6 = .int .i64 (pU wo es N i:Nat))
 case atStart=>exact ⟨0,rfl,Nat.zero_le _,rfl,rfl,by simp [Yr],rfl⟩
 case round=>
  obtain ⟨i,rfl,hi,hk,hwr,rfl,rfl⟩:=hrel;have Hk:=Lib.hid hk;clear hk;have hiU:=eT rs i;have hpU:=rq wo es N i;have d0:wr.cell? ⟨w.heap.size,0,none⟩=some (.int .i64 N):=by rw [hwr];exact d0
  have d1:wr.cell? ⟨w.heap.size,1,none⟩=some (.slice A es.length cap):=by rw [hwr];exact d1
  by_cases hlt:i<N
  ·have hlt':(i:Int)<N:=by omega
   have hltr:i<rs.length:=by omega
   obtain ⟨b,off,rfl,hbb,hc⟩:=hrs5 (by omega);obtain ⟨Ai,ci,e0,_⟩:=hc i hltr;have e0:wr.cell? ⟨b,off+i,none⟩=some (.slice Ai rs[i].length ci):=by rw [hwr];exact e0
   have f0:wr.cell? ⟨g5,i,none⟩=some (.int .i64 (YX wo es N i)):=by rw [hwr];exact Hc5.out i hlt
   have HS:=Lib.hid (show Yr rs (i+1)=Yr rs i+if rs[i].length=0 then 1 else 0 by rw [Wh,List.getD_eq_getElem?_getD,List.getElem?_eq_getElem hltr];rfl);have HS2:=Lib.hid (oz wo es N i);have Hwr:=Lib.hid hwr;clear hc hwr;generalize rs[i]=l at *;generalize Yr rs i=u at *;generalize pU wo es N i=v at *;generalize YX wo es N i=q at *;by_cases hq:q=(i:Int)
   ·subst hq;have hqq:((i:Int)==(i:Int))=true:=by simp
    rw [if_pos rfl] at HS2;by_cases hl0:l.length=0
    ·have hl0':((l.length:Int)==0)=true:=by simp [hl0]
     rw [if_pos hl0] at HS;clear hl0;go_wp2_with fail
     go_roundg (N-(i+1))
     case measure=>rw [Hk.out];omega
     case rel=>exact ⟨i+1,by go_num,by omega,rfl,Hwr.out,by rw [HS.out];go_num,by rw [HS2.out];go_num⟩
    ·have hl0':((l.length:Int)==0)=false:=by simp;intro hh;apply hl0;rw [hh];rfl
     rw [if_neg hl0] at HS;clear hl0;go_wp2_with fail
     go_roundg (N-(i+1))
     case measure=>rw [Hk.out];omega
     case rel=>exact ⟨i+1,by go_num,by omega,rfl,Hwr.out,by rw [HS.out];go_num,by rw [HS2.out];go_num⟩
   ·have hqq:(q==(i:Int))=false:=by simp [hq]
    rw [if_neg hq] at HS2;clear hq;by_cases hl0:l.length=0
    ·have hl0':((l.length:Int)==0)=true:=by simp [hl0]
     rw [if_pos hl0] at HS;clear hl0;go_wp2_with fail
     go_roundg (N-(i+1))
     case measure=>rw [Hk.out];omega
     case rel=>exact ⟨i+1,by go_num,by omega,rfl,Hwr.out,by rw [HS.out];go_num,by rw [HS2.out];go_num⟩
    ·have hl0':((l.length:Int)==0)=false:=by simp;intro hh;apply hl0;rw [hh];rfl
     rw [if_neg hl0] at HS;clear hl0;go_wp2_with fail
     go_roundg (N-(i+1))
     case measure=>rw [Hk.out];omega
     case rel=>exact ⟨i+1,by go_num,by omega,rfl,Hwr.out,by rw [HS.out];go_num,by rw [HS2.out];go_num⟩
  ·have hie:i=N:=by omega
   subst hie;have HG2:=HG.out;change 2*cls (Q es es.length) rs.length+es.length=rs.length+Yr rs rs.length+F+2*gen (i:Int) es rs at HG2;rw [hNr,←HPU.out] at HG2;have HBw:=Lib.hid (show Below w.heap.size w wr by rw [hwr];exact HB.out);generalize pU wo es i i=P at *;generalize Yr rs i=u at *;have Hwr:=Lib.hid hwr;have HGG:=Lib.hid HG2;clear HG2 hwr;go_wp2_with fail;go_ret;exact ⟨vP (by have:=HGG.out;rw [Int.tdiv_eq_ediv_of_nonneg (by omega)];omega),HBw.out⟩
end Go.Proofs.YtneeknlhlkpnpaaGreat
