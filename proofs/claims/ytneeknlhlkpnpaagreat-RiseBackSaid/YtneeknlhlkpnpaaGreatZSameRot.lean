import Derived.Test.YtneeknlhlkpnpaaGreatZEul
import Derived.Test.YtneeknlhlkpnpaaGreatZRSw
/-
 rotation.turned, slices.EqualFunc, rotation.Same: what they compute. Written by an AI agent.
-/
namespace Go.Proofs.YtneeknlhlkpnpaaGreat
open Go.RowKit
set_option maxRecDepth 20000 in
set_option maxHeartbeats 2000000 in
theorem cN(A B:Option Addr)(c d:Nat)(a b:List Int)(w:World)(ha:jr w w.heap.size A (jf a))(hb:jr w w.heap.size B (jf b))(hac:a.length≤c)(hla:a.length≤1000)(hlb:b.length≤1000) :
  Calls Tryz.prog 60 #[.slice A a.length c,.slice B b.length d] w (fun e w'=>e = .returned (.bool (zr a b))∧Below w.heap.size w w'):=by
 go_enter Tryz.func60,Tryz.ntmps60
 go_wp2_with fail
 go_loopg [8] a.length (fun k s8 wr=>∃i:Nat,s8 = .int .i64 i∧i≤a.length∧k=a.length-i∧Below w.heap.size w wr ∧ ∀j,j<i→rot a j≠b)
 case atStart=>exact ⟨0,rfl,Nat.zero_le _,rfl,Below.refl _ _,fun j hj=>absurd hj (by omega)⟩
 case round=>
  obtain ⟨i,rfl,hi,hk,hbr,hno⟩:=hrel;have Hk:=Lib.hid hk;clear hk;have Hno:=Lib.hid hno;clear hno;by_cases hlt:i<a.length
  ·have hlt':(i:Int)<a.length:=by omega
   obtain ⟨ba,offa,rfl,hba,_⟩:=ha.ints (by omega);have Hd:=Lib.hid (Wj i c hac (ha.below hbr));have Ht:=Lib.hid (Wi i (ha.below hbr));have hic:(i:Int)≤c:=by omega
   have hi0:(0:Int)≤i:=by omega
   have hil:(i:Int)≤a.length:=by omega
   go_upto_region 4 with fail
   have hal:=ha.below hbr;have hbl:=hb.below hbr;have hs:=hbr.size;have tok1:True:=trivial
   go_region_held3 (fun _=>True) (trivial)
    (first
     | (go_at_call 74;have _t:=tok1;refine (dE a i hi _ _ _ _ wr (Hd.out.more hs) (Ht.out.more hs) (by omega)).mono ?_;rintro e w5 ⟨A5,c5,rfl,hb5,hC5⟩;clear tok1)
     | (go_at_call 41;refine (VD A5 B c5 d (rot a i) b _ _ (by exact hC5) (by exact (hbl.below (hb5.mono hs)).more (Nat.le_trans hs hb5.size)) (by rw [qM];omega) (by omega)).mono ?_;rintro e w6 ⟨rfl,m6,rfl⟩))
   have hb9:=below_drewN (hbr.trans (hb5.mono hs)) m6;have HB:=Lib.hid hb9;clear hb9 hb5 hC5 hbl hal Hd Ht;by_cases he:rot a i=b
   ·have HT:=Lib.hid (YG hlt he);rw [decide_eq_true he];clear he;go_wp2_with fail;go_ret;exact ⟨jx HT.out.symm,HB.out⟩
   ·rw [decide_eq_false he];have He:=Lib.hid he;clear he;go_wp2_with fail
    go_roundg (a.length-(i+1))
    case measure=>rw [Hk.out];omega
    case rel=>exact ⟨i+1,by go_num,by omega,rfl,HB.out,fun j hj=>by
     by_cases h:j=i
     ·rw [h];exact He.out
     ·exact Hno.out j (by omega)⟩
  ·have hie:i=a.length:=by omega
   subst hie;have HT:=Lib.hid (fP Hno.out);by_cases h0:a.length=0
   ·have h0':((a.length:Int)==0)=true:=by simp [h0]
    by_cases h1:b.length=0
    ·have h1':((b.length:Int)==0)=true:=by simp [h1]
     have HR:=Lib.hid (show zr a b=true by rw [HT.out,decide_eq_true h0,decide_eq_true h1];rfl);clear h0 h1;go_wp2_with fail;go_ret;exact ⟨jx HR.out.symm,hbr⟩
    ·have h1':((b.length:Int)==0)=false:=by simp;intro hh;apply h1;rw [hh];rfl
     have HR:=Lib.hid (show zr a b=false by rw [HT.out,decide_eq_false h1];simp);clear h0 h1;go_wp2_with fail;go_ret;exact ⟨jx HR.out.symm,hbr⟩
   ·have h0':((a.length:Int)==0)=false:=by simp;intro hh;apply h0;rw [hh];rfl
    have HR:=Lib.hid (show zr a b=false by rw [HT.out,decide_eq_false h0];simp);clear h0;go_wp2_with fail;go_ret;exact ⟨jx HR.out.symm,hbr⟩
set_option maxHeartbeats 1000000 in
theorem dA(A B:Option Addr)(ca cb:Nat)(xs ys:List (List Int))(w:World)(ha:vn w w.heap.size A xs)(hb:vn w w.heap.size B ys)(hla:xs.length≤1000)(hlb:ys.length≤1000)(hra:∀l∈xs,l.length≤1000)(hrb:xs.length=ys.length → ∀l∈ys,l.length≤1000) :
  Calls Tryz.prog 59 #[.slice A xs.length ca,.slice B ys.length cb,.func (.func 60) #[] #[]] w (fun e w'=>e = .returned (.bool (xo xs ys))∧Below w.heap.size w w'):=by
 by_cases hl:xs.length=ys.length
 ·have H1:((xs.length:Int) != (ys.length:Int))=false:=by rw [xd];simp [hl]
  have HL:=Lib.hid hl;have hl1:xs.length≤ys.length:=by omega
  clear hl
  go_enter Tryz.func59,Tryz.ntmps59
  go_wp2_with fail
  go_loopg [17] xs.length (fun k s17 wr=>∃i:Nat,s17 = .int .i64 i∧i≤xs.length∧k=xs.length-i∧Below w.heap.size w wr ∧ ∀j,j<i→zr (xs.getD j []) (ys.getD j [])=true)
  case atStart=>exact ⟨0,rfl,Nat.zero_le _,rfl,Below.refl _ _,fun j hj=>absurd hj (by omega)⟩
  case round=>
   obtain ⟨i,rfl,hi,hk,hbr,hy⟩:=hrel;have Hk:=Lib.hid hk;clear hk;have Hy:=Lib.hid hy;clear hy;by_cases hlt:i<xs.length
   ·have hlt':(i:Int)<xs.length:=by omega
    have hltb:i<ys.length:=by omega
    have hltb':(i:Int)<ys.length:=by omega
    obtain ⟨b1,o1,rfl,hb1,hc1⟩:=ha (by omega);obtain ⟨b2,o2,rfl,hb2,hc2⟩:=hb (by omega);obtain ⟨A1,c1,e1,hC1,hr1⟩:=hc1 i hlt;obtain ⟨A2,c2,e2,hC2,_⟩:=hc2 i hltb;have e1:=(hbr.cell (p:=⟨b1,o1+i,none⟩) hb1).trans e1;have e2:=(hbr.cell (p:=⟨b2,o2+i,none⟩) hb2).trans e2;have hs:=hbr.size;have Ht:=Lib.hid (cN A1 A2 c1 c2 xs[i] ys[i] wr ((hC1.below hbr).more hs) ((hC2.below hbr).more hs) hr1 (hra _ (List.getElem_mem hlt)) (hrb HL.out _ (List.getElem_mem hltb)));have HN:=Lib.hid (nT (xs:=xs) (ys:=ys) hlt hltb);have HG:=Lib.hid (show zr (xs.getD i []) (ys.getD i [])=zr xs[i] ys[i] by rw [vJ hlt,vJ hltb]);clear hc1 hc2 hC1 hC2 hr1;generalize xs[i]=x at *;generalize ys[i]=y at *;go_wp2_with fail;refine Ht.out.mono ?_;rintro e w5 ⟨rfl,hb5⟩;have hb6:=hbr.trans (hb5.mono hs);clear Ht
    cases ht:zr x y with
    | true=>
     rw [ht] at HG;clear ht;go_wp2_with fail
     go_roundg (xs.length-(i+1))
     case measure=>rw [Hk.out];omega
     case rel=>exact ⟨i+1,by go_num,by omega,rfl,hb6,fun j hj=>by
      by_cases h:j=i
      ·rw [h];exact HG.out
      ·exact Hy.out j (by omega)⟩
    | false=>
     have HR:=Lib.hid (HN.out ht);clear ht;go_wp2_with fail;go_ret;exact ⟨jx HR.out.symm,hb6⟩
   ·have HR:=Lib.hid (show xo xs ys=true by
     unfold xo;rw [decide_eq_true HL.out,Bool.true_and,List.all_eq_true]
     exact fun j hj=>Hy.out j (by have:=List.mem_range.1 hj;omega))
    go_wp2_with fail;go_ret;exact ⟨jx HR.out.symm,hbr⟩
 ·have H1:((xs.length:Int) != (ys.length:Int))=true:=by rw [xd];simp [hl]
  have HR:=Lib.hid (show xo xs ys=false by unfold xo;rw [decide_eq_false hl];rfl);clear hl
  go_enter Tryz.func59,Tryz.ntmps59
  go_wp2_with fail;go_ret;exact ⟨jx HR.out.symm,Below.refl _ _⟩
theorem fV(A B:Option Addr)(ca cb:Nat)(xs ys:List (List Int))(w:World)(ha:vn w w.heap.size A xs)(hb:vn w w.heap.size B ys)(hla:xs.length≤1000)(hlb:ys.length≤1000)(hra:∀l∈xs,l.length≤1000)(hrb:xs.length=ys.length → ∀l∈ys,l.length≤1000) :
  Calls Tryz.prog 18 #[.slice A xs.length ca,.slice B ys.length cb] w (fun e w'=>e = .returned (.bool (xo xs ys))∧Below w.heap.size w w'):=by
 have H:=Lib.hid (dA A B ca cb xs ys w ha hb hla hlb hra hrb)
 go_enter Tryz.func18,Tryz.ntmps18
 go_wp2_with fail;refine H.out.mono ?_;rintro e w' ⟨rfl,hb⟩;go_wp2_with fail;go_ret;exact ⟨rfl,hb⟩
end Go.Proofs.YtneeknlhlkpnpaaGreat
