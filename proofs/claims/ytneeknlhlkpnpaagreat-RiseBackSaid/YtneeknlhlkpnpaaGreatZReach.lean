import Derived.Test.YtneeknlhlkpnpaaGreatZMem
namespace Go.Proofs.YtneeknlhlkpnpaaGreat
open Go.RowKit
def Yb(s:Nat)(x:Int):Nat:=if 0≤x∧x<64 then s ||| (1 <<< x.toNat) else s
def YY(l:List Int):Nat:=l.foldl Yb 0
def jf(l:List Int):List Value:=l.map (Value.int .i64)
theorem md(l:List Int):YY l<18446744073709551616:=by
 unfold YY
 suffices ∀s,s<18446744073709551616→l.foldl Yb s<18446744073709551616 from this 0 (by omega)
 induction l with
 | nil=>intro s hs;exact hs
 | cons x l ih=>
  intro s hs;refine ih _ ?_;unfold Yb
  split
  ·refine fH hs ?_;rw [Nat.shiftLeft_eq,Nat.one_mul];exact Nat.pow_lt_pow_right (by omega) (show x.toNat<64 by omega)
  ·exact hs
theorem pz(s:Nat)(x:Int)(hs:s<18446744073709551616)(h0:0≤x)(h1:x<64) :
  bits .or .u64 (s:Int) (IntKind.u64.wrap (2 ^ x.toNat))=((s ||| (1 <<< x.toNat):Nat):Int):=by
 have h2:2 ^ x.toNat<18446744073709551616:=Nat.pow_lt_pow_right (a:=2) (m:=x.toNat) (n:=64) (by omega) (by omega)
 have e:IntKind.u64.wrap (2 ^ x.toNat)=((2 ^ x.toNat:Nat):Int):=by
  rw [IntKind.wrap_u64];have:((2:Int) ^ x.toNat)=((2 ^ x.toNat:Nat):Int):=by simp
  rw [this];exact Int.emod_eq_of_lt (Int.natCast_nonneg _) (Int.ofNat_lt.2 h2)
 rw [e,u64_or_nat s _ hs h2,Nat.shiftLeft_eq,Nat.one_mul]
theorem jr.ints{w:World}{B:Nat}{A:Option Addr}{l:List Int}(h:jr w B A (jf l))(hn:0<l.length) :
  ∃b off,A=some ⟨b,off,none⟩∧b<B ∧ ∀k (hk:k<l.length),w.cell? ⟨b,off+k,none⟩=some (.int .i64 l[k]):=by
 obtain ⟨b,off,e,hb,hc⟩:=h (by simpa [jf] using hn);exact ⟨b,off,e,hb,fun k hk=>hc k _ (by simp [jf,hk])⟩
set_option maxHeartbeats 400000 in
theorem pJ(A:Option Addr)(cap:Nat)(l:List Int)(w:World)(hl:jr w w.heap.size A (jf l))(hlen:l.length≤1000) :
  Calls Tryz.prog 161 #[.slice A l.length cap] w fun e w'=>e = .returned (.int .u64 (YY l:Nat))∧w=w':=by
 go_enter Tryz.func161,Tryz.ntmps161
 go_wp2
 go_loop [2,7] (fun s2 s7=>∃i:Nat,i≤l.length∧s7 = .int .i64 i∧s2 = .int .u64 (YY (l.take i):Nat)) (fun _ s7=>l.length-(intOf s7).toNat)
 case atStart=>exact ⟨0,Nat.zero_le _,rfl,rfl⟩
 case round=>
  obtain ⟨i,hi,rfl,rfl⟩:=hrel;have hlt2:=md (l.take i);by_cases hlt:i<l.length
  ·obtain ⟨b,off,rfl,hb,hc⟩:=hl.ints (by omega);have c0:=hc i hlt;clear hc;have E:=Lib.hid (show YY (l.take (i+1))=Yb (YY (l.take i)) l[i] by unfold YY;rw [List.take_succ_eq_append_getElem hlt,List.foldl_append];rfl);generalize YY (l.take i)=s at *;generalize l[i]=x at *;by_cases h0:0≤x
   ·by_cases h1:x<64
    ·have eo:=pz s x hlt2 h0 h1
     go_wp2
     go_round
     case rel=>exact ⟨i+1,by omega,by go_num,by rw [E.out];unfold Yb;rw [if_pos ⟨by omega,by omega⟩]⟩
     case measure=>simp [intOf];omega
    ·go_wp2
     go_round
     case rel=>exact ⟨i+1,by omega,by go_num,by rw [E.out];unfold Yb;rw [if_neg (by omega)]⟩
     case measure=>simp [intOf];omega
   ·go_wp2
    go_round
    case rel=>exact ⟨i+1,by omega,by go_num,by rw [E.out];unfold Yb;rw [if_neg (by omega)]⟩
    case measure=>simp [intOf];omega
  ·go_wp2
   go_ret;exact ⟨vP (by rw [List.take_of_length_le (by omega)]),rfl⟩
theorem fb:kP Tryz.prog 154 157 (.int .u64 0) 1 8:=kP.mk' Tryz.underlying154 (by kernel_rfl) rfl (by omega)
theorem qz:kP Tryz.prog 25 3 (.int .i64 0) 1 8:=kP.mk' Tryz.underlying25 (by kernel_rfl) rfl (by omega)
def xE(l:List Nat):List Value:=l.map fun s:Nat=>Value.int .u64 (s:Int)
def uK(n:Nat):List Nat:=(List.range n).map fun x=>1 <<< x
def nb(n:Int)(es:List (Int×Int))(w:World)(e:Ending)(w':World):Prop:=
 ∃v,e = .returned v∧Below w.heap.size w w'∧(vj n es=true→w'.ownsRow w.heap.size 157 1 v n.toNat (xE (uK n.toNat)))∧(vj n es=false→v = .slice none 0 0)
set_option maxHeartbeats 400000 in
theorem bS(n:Int)(A:Option Addr)(cap:Nat)(es:List (Int×Int))(w:World)(hes:jr w w.heap.size A (jA es)) :
  Calls Tryz.prog 138 #[.agg #[.int .i64 n,.slice A es.length cap]] w fun e w'=>
   nb n es w e w':=by
 cases hm:vj n es with
 | false=>
  have Hm:=Lib.hid hm;clear hm
  go_enter Tryz.func138,Tryz.ntmps138
  go_wp2_with fail;refine (ZP n A cap es _ ((hes.alloc (Nat.le_refl _) _).more (by simp))).mono ?_;rintro e w' ⟨rfl,hb⟩;rw [Hm.out];go_wp2_with fail;go_ret;exact ⟨_,rfl,((Below.refl _ _).alloc (Nat.le_refl _) _).trans (hb.mono (by simp)),fun h=>(by rw [Hm.out] at h;cases h),fun _=>rfl⟩
 | true=>
  have hn:0<n∧n≤64:=by
   simp only [vj,Bool.and_eq_true,decide_eq_true_eq] at hm;exact ⟨hm.1.1.1,hm.1.1.2⟩
  have Hm:=Lib.hid hm;clear hm;obtain ⟨hn0,hn1⟩:=hn;obtain ⟨n,rfl⟩:=Int.eq_ofNat_of_zero_le (Int.le_of_lt hn0)
  go_enter Tryz.func138,Tryz.ntmps138
  go_wp2_with fail;refine (ZP n A cap es _ ((hes.alloc (Nat.le_refl _) _).more (by simp))).mono ?_;rintro e w' ⟨rfl,hb⟩;have b0:=hb.cell (p:=⟨w.heap.size,0,none⟩) (by simp);rw [World.cell?_alloc_new] at b0;have hb2:=((Below.refl w.heap.size w).alloc (Nat.le_refl _) (.cells #[.int .i64 n,.slice A es.length cap] 24)).trans (hb.mono (by simp));clear hb;rw [Hm.out];go_wp2_with fail
  go_loopg [2,9] n (fun k s2 s9 wr=>∃i:Nat,s9 = .int .i64 i∧i≤n∧k=n-i∧Below w.heap.size w wr∧wr.ownsRow w.heap.size 157 1 s2 i (xE (uK i)))
  case atStart=>exact ⟨0,rfl,Nat.zero_le _,rfl,hb2,World.ownsRow_nil _ _ _ _⟩
  case round=>
   obtain ⟨i,rfl,hi,hk,hb,hown⟩:=hrel;have Hk:=Lib.hid hk;clear hk b0 hb2;by_cases hlt:i<n
   ·go_wp2_with fail;refine (pJ (some ⟨wr.heap.size,0,none⟩) 1 [(i:Int)] _ (fun _=>⟨_,_,rfl,by simp,fun j u hj=>?_⟩) (by simp)).mono ?_
    ·cases j with
     | zero=>simp [jf] at hj;subst hj;simp [go_sem]
     | succ j=>simp [jf] at hj
    rintro e w' ⟨rfl,rfl⟩
    have e1:YY [(i:Int)]=1 <<< i:=by
     simp only [YY,List.foldl_cons,List.foldl_nil,Yb];rw [if_pos ⟨by omega,by omega⟩];simp
    rw [e1];have hbs:=hb.size;go_wp2_with (at_builtin;go_loud (refine yC fb rfl _ _ rfl w.heap.size u2 i _ rfl (wr.heap.size+1) [.int .u64 ((1 <<< i:Nat):Int)] rfl ?h0 (hown.alloc _) rfl rfl ?h2 ?h3 ?h4 ?_))
    case h0=>simp
    case h2=>omega
    case h3=>omega
    case h4=>simp;omega
    intro v' w' hown' hg' _;have hb':=qb (hb.alloc hbs (.cells #[.int .i64 i] 3)) (hown.alloc _) hg' (by simp;omega) (Nat.le_refl _);clear hown hg' hb hbs;go_wp2_with fail
    go_roundg (n-(i+1))
    case measure=>rw [Hk.out];omega
    case rel=>exact ⟨i+1,by go_num,by omega,rfl,hb',by
     have:xE (uK (i+1))=xE (uK i)++[.int .u64 ((1 <<< i:Nat):Int)]:=by simp [xE,uK,List.range_succ]
     rw [this];exact hown'⟩
   ·go_wp2_with fail;have e:i=n:=by omega
    subst e;go_ret;exact ⟨_,rfl,hb,fun _=>hown,fun h=>by rw [Hm.out] at h;cases h⟩
theorem kG(n:Nat):(uK n).length=n:=by simp [uK]
theorem mI(n:Nat)(hn:n≤64):∀s∈uK n,s<18446744073709551616:=by
 intro s hs;simp only [uK,List.mem_map,List.mem_range] at hs;obtain ⟨x,hx,rfl⟩:=hs;rw [Nat.shiftLeft_eq,Nat.one_mul];exact Nat.pow_lt_pow_right (a:=2) (m:=x) (n:=64) (by omega) (by omega)
theorem XD{n:Int}{es:List (Int×Int)}(h:vj n es=true):∀e∈es,0≤e.1∧e.1<n∧0≤e.2∧e.2<n:=by
 intro e he;simp only [vj,Bool.and_eq_true,Bool.not_eq_true',Xt,List.any_eq_false,List.mem_range] at h;obtain ⟨k,hk,rfl⟩:=List.mem_iff_getElem.1 he;have:=h.2 k hk;simp [hk,UB,ZZ] at this;omega
def KV(both:Bool)(cnt:Nat→Bool)(n:Nat)(es:List (Int×Int))(T:List Nat):Prop:=
 GrowOk (uK n) T∧GN both cnt es (uK n) T ∧ ∀i,i<es.length→xH both cnt es T i=T
theorem pL{n:Int}{es:List (Int×Int)}{p:Prop}(h:vj n es=false)(k:vj n es=true):p:=by rw [h] at k;cases k
theorem oI{n:Int}{es:List (Int×Int)}{p:Prop}(h:vj n es=true)(k:vj n es=false):p:=by rw [h] at k;cases k
theorem jP{n:Int}{es:List (Int×Int)}(hm:vj n es=true):0<n∧n≤64∧es.length≤128:=by
 simp only [vj,Bool.and_eq_true,decide_eq_true_eq] at hm;exact ⟨hm.1.1.1,hm.1.1.2,hm.1.2⟩
end Go.Proofs.YtneeknlhlkpnpaaGreat
