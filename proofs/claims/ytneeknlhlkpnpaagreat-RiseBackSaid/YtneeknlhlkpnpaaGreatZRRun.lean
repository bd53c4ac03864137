import Derived.Test.YtneeknlhlkpnpaaGreatZRPl
import Derived.Test.YtneeknlhlkpnpaaGreatZRSw
import Derived.Test.YtneeknlhlkpnpaaGreatZEul
/-
 sweep.Run. (Printed by rungen.py.) Written by an AI agent.
-/
namespace Go.Proofs.YtneeknlhlkpnpaaGreat
open Go.RowKit
def kt(es:List (Int×Int))(outs:List (List Int))(st:Option (List Itm×List Int×List (List Itm)))(x:Int):Option (List Itm×List Int×List (List Itm)):=
 match st with
 | none=>none
 | some (r,pl,en)=>if qT es r pl x.toNat=true then some (yf es r x.toNat (outs.getD x.toNat []),pl++[((x.toNat:Nat):Int)],en.set x.toNat (zA r x.toNat)) else none
def Qd(n:Nat)(es:List (Int×Int))(outs:List (List Int))(ord:List Int):Option (List Itm×List Int×List (List Itm)):=ord.foldl (kt es outs) (some ([],[],List.replicate n []))
def xk(n:Nat)(es:List (Int×Int))(ord:List Int)(outs:List (List Int)):Option (List (List Itm)):=if ofB n es ord outs=true then (Qd n es outs ord).map (·.2.2) else none
theorem Vh{es:List (Int×Int)}{outs:List (List Int)}(l:List Int):l.foldl (kt es outs) none=none:=by
 induction l with
 | nil=>rfl
 | cons a r ih=>exact ih
theorem UH{n:Nat}{es:List (Int×Int)}{outs:List (List Int)}{ord:List Int}{i:Nat}(h:i<ord.length):Qd n es outs (ord.take (i+1))=kt es outs (Qd n es outs (ord.take i)) ord[i]:=by
 unfold Qd;rw [List.take_succ_eq_append_getElem h,List.foldl_append];rfl
theorem UJ{n:Nat}{es:List (Int×Int)}{outs:List (List Int)}{ord:List Int}{i:Nat}(h:Qd n es outs (ord.take i)=none):Qd n es outs ord=none:=by
 have:Qd n es outs ord=(ord.drop i).foldl (kt es outs) (Qd n es outs (ord.take i)):=by
  unfold Qd;rw [←List.foldl_append,List.take_append_drop]
 rw [this,h,Vh]
theorem uM{es:List (Int×Int)}{r:List Itm}{x:Nat}{outs:List Int}:(yf es r x outs).length≤r.length+outs.length+1:=by
 unfold yf xI;have h1:=kh (es:=es) (x:=x) (outs:=outs);have h2:=kX (x:Int) r r.length;simp only [List.length_append,List.length_take,List.length_drop];rcases h2 with ⟨_,h⟩ | ⟨f,t,e1,e2,h3,h4,_⟩
 ·rw [h];simp;omega
 ·rw [e1,e2];simp only [Int.toNat_natCast];omega
structure EndsW(w:World)(base ge:Nat)(en:List (List Itm)):Prop where
 g:base≤ge
 st:∃vs:List Value,vs.length=en.length∧Blk w ge 41 vs.toArray ∧ ∀k (h:k<vs.length) (h':k<en.length),w.ownsRow base 81 3 vs[k] en[k].length (ju en[k])
theorem EndsW.evo{B base ge:Nat}{T:List TypeId}{w w':World}{en:List (List Itm)}(h:EndsW w base ge en)(he:Evo B T w w')(h1:41∉T)(h2:81∉T):EndsW w' base ge en:=by
 obtain ⟨vs,hl,hb,hr⟩:=h.st;exact ⟨h.g,vs,hl,hb.evo he (.inr h1),fun k k1 k2=>qA (hr k k1 k2) he h2⟩
theorem EndsW.set_{base ge x:Nat}{w:World}{en:List (List Itm)}{v:Value}{l:List Itm}(h:EndsW w base ge en)(ho:w.ownsRow base 81 3 v l.length (ju l)):EndsW (w.setCell ⟨ge,x,none⟩ v) base ge (en.set x l):=by
 obtain ⟨vs,hl,hb,hr⟩:=h.st;have he:=Evo.set_ (B:=0) (T:=[41]) hb (List.mem_singleton.2 rfl) (Nat.zero_le _) x v;refine ⟨h.g,vs.set x v,by simp [hl],by simpa using hb.set_ x v,fun k k1 k2=>?_⟩;simp only [List.length_set] at k1 k2;by_cases hk:x=k
 ·subst hk;simp only [List.getElem_set_self];exact qA ho he (by decide)
 ·simp only [List.getElem_set_ne hk];exact qA (hr k k1 k2) he (by decide)
theorem EndsW.at_{base ge:Nat}{w:World}{en:List (List Itm)}(h:EndsW w base ge en):yO w w.heap.size (some ⟨ge,0,none⟩) en:=fun _=>by
 obtain ⟨vs,hl,hb,hr⟩:=h.st;refine ⟨ge,0,rfl,hb.lt,fun i hi=>?_⟩;have h1:=hr i (by omega) hi;obtain ⟨Ai,ci,e⟩:=jv h1;rw [e] at h1;refine ⟨Ai,ci,?_,jr.of_own h1⟩;rw [Nat.zero_add,hb.cell i];simp [show i<vs.length by omega,e]
theorem EndsW.cell{base ge x:Nat}{w:World}{en:List (List Itm)}(h:EndsW w base ge en)(hx:x<en.length):(∃v,w.cell? ⟨ge,x,none⟩=some v)∧w.frozen? ⟨ge,x,none⟩=false:=by
 obtain ⟨vs,hl,hb,hr⟩:=h.st;refine ⟨⟨vs[x]'(by omega),?_⟩,hb.frozen x⟩;rw [hb.cell x];simp [show x<vs.length by omega]
def R5.BFact.viewF(n:Nat)(es:List (Int×Int)):R5.BFact [[]]:=⟨[],fun v w=>∃gv,v = .pointer (some ⟨gv,0,none⟩)∧zC w gv n es,fun c _ _ _ w' hb ⟨gv,h1,h2⟩=>⟨gv,h1,by
 have hS:([[]]:List (List Nat)).getD c []=[]:=by cases c<;>rfl
 rw [hS] at hb
 exact h2.below (hb.below (Nat.le_refl _) (by simp)) (Nat.le_refl _)⟩⟩
theorem Wq:kP Tryz.prog 72 41 (.slice none 0 0) 1 24:=kP.mk' Tryz.underlying72 (by kernel_rfl) rfl (by omega)
theorem uE{tmps:Array Value}{W:World}{g:Nat}{a b:Value}{cs:Array Value}(h4:tmps.getD 4 undef=a)(h5:tmps.getD 5 undef=b)(hp:tmps.getD 6 undef = .pointer (some ⟨g,0,none⟩))(hb:Blk W g 74 cs)(hs:cs.size=3) :
  (results Tryz.f35 tmps).run Tryz.prog W = .ok (.tuple #[a,b,.agg cs]) W:=by
 have hp':tmps[6]?.getD undef = .pointer (some ⟨g,0,none⟩):=by simpa using hp
 have h4':tmps[4]?.getD undef=a:=by simpa using h4
 have h5':tmps[5]?.getD undef=b:=by simpa using h5
 simp [results,Tryz.results35,hp',h4',h5',asAddr,run_loadVar_row W g _ _ cs _ _ hb Tryz.underlying74 rfl (by rw [hs];kernel_rfl)]
theorem nX(g:Nat)(A:Option Addr)(c:Nat)(r:List Itm)(w:World)(hg:w.cell? ⟨g,0,none⟩=some (.slice A r.length c))(hr:jr w w.heap.size A (ju r))(hl:r.length≤50000) :
  Calls Tryz.prog 89 #[.pointer (some ⟨g,0,none⟩)] w (fun e w'=>∃v,e = .returned v∧Below w.heap.size w w'):=by
 have HC:=Lib.hid (VZ A c r w hr hl);clear hr
 go_enter Tryz.func89,Tryz.ntmps89
 go_wp2_with fail;refine HC.out.mono ?_;rintro e w2 ⟨v,rfl,hb,_⟩;have HB:=Lib.hid hb;clear hb;go_wp2_with fail;go_ret;exact ⟨v,rfl,HB.out⟩
def pe(n:Int)(es:List (Int×Int))(ord:List Int)(outs:List (List Int))(w:World)(e:Ending)(w':World):Prop:=
 Below w.heap.size w w'∧((∃en V L,GoodP n es∧xk n.toNat es ord outs=some en∧en.length=n.toNat∧e = .returned (.tuple #[.slice (some ⟨V,0,none⟩) n.toNat n.toNat,L,.agg #[.int .i64 0,.int .i64 0,.slice none 0 0]])∧yO w' w'.heap.size (some ⟨V,0,none⟩) en) ∨
  (¬(GoodP n es∧(xk n.toNat es ord outs).isSome=true) ∧ ∃c a,c≠0∧e = .returned (.tuple #[.slice none 0 0,.slice none 0 0,.agg #[.int .i64 c,.int .i64 a,.slice none 0 0]])))
set_option maxRecDepth 20000 in
set_option maxHeartbeats 8000000 in
theorem fZ(n:Int)(A O U:Option Addr)(cap co cu:Nat)(es:List (Int×Int))(ord:List Int)(outs:List (List Int))(w:World)(hes:jr w w.heap.size A (jA es))(hcap:es.length≤cap)(hO:jr w w.heap.size O (jf ord))(hU:qm w w.heap.size U outs)(hl:es.length≤500)(hol:∀l∈outs,l.length≤100000) :
  Calls Tryz.prog 35 #[.agg #[.int .i64 n,.slice A es.length cap],.agg #[.slice O ord.length co,.slice U outs.length cu]] w (pe n es ord outs w):=by
 obtain ⟨wb,hwb⟩:∃wb,wb=w.alloc (.cells #[.int .i64 n,.slice A es.length cap] 24):=⟨_,rfl⟩;have hb0:Below w.heap.size w wb:=by rw [hwb];exact (Below.refl _ _).alloc (Nat.le_refl _) _
 have hz0:wb.heap.size=w.heap.size+1:=by rw [hwb];simp
 have hGB:Blk wb w.heap.size 24 #[.int .i64 n,.slice A es.length cap]:=by rw [hwb];exact Blk.new _ _ _
 have S1:=Lib.hid (PlanS.start (w:=wb) co cu ((hO.below hb0).more hb0.size) ((hU.below hb0).more hb0.size));have HES0:=Lib.hid ((hes.below hb0).more hb0.size);have HGB0:=Lib.hid hGB;have HB0:=Lib.hid hb0;have HOL:=Lib.hid hol;clear hes hO hU hol hGB hb0
 go_enter Tryz.func35,Tryz.ntmps35
 go_upto_region 1 with fail
 rw [←hwb];obtain ⟨gG,hgG⟩:∃g,g=w.heap.size:=⟨_,rfl⟩;obtain ⟨gP,hgP⟩:∃g,g=wb.heap.size:=⟨_,rfl⟩;rw [←hgP] at S1;rw [show w.heap.size+1=gP by omega];rw [←hgG] at HGB0 ⊢;have HGG:=Lib.hid (And.intro hgG hgP);have hb1:=S1.out.bel;have HSZ:=Lib.hid (show (wb.alloc (.cells #[.slice O ord.length co,.slice U outs.length cu] 28)).heap.size=gP+1 by simp [hgP]);have HGB1:=Lib.hid (HGB0.out.below hb1 HGB0.out.lt);have HES1:=Lib.hid ((HES0.out.below hb1).more hb1.size);generalize wb.alloc (.cells #[.slice O ord.length co,.slice U outs.length cu] 28)=w1 at *;clear hwb hgG hgP hz0;obtain ⟨gF,hgF⟩:∃g,g=gP+1:=⟨_,rfl⟩;obtain ⟨w2,hw2⟩:∃w2,w2=w1.alloc (.cells #[.int .i64 0,.int .i64 0,.slice none 0 0] 74):=⟨_,rfl⟩;have hb2:Below w1.heap.size w1 w2:=by rw [hw2];exact (Below.refl _ _).alloc (Nat.le_refl _) _
 have hF2:Blk w2 w1.heap.size 74 #[.int .i64 0,.int .i64 0,.slice none 0 0]:=by rw [hw2];exact Blk.new _ _ _
 have hz1:w1.heap.size=gF:=by
  have h1:=S1.out.b;rw [hgF];exact HSZ.out
 rw [hz1] at hF2;rw [←hw2,←hgF];have SP2:=Lib.hid (S1.out.next hb2);have HGB2:=Lib.hid (HGB1.out.below hb2 HGB1.out.lt);have HES2:=Lib.hid ((HES1.out.below hb2).more hb2.size);have HF2:=Lib.hid hF2;have HB2:=Lib.hid ((HB0.out.trans (hb1.mono HB0.out.size)).trans (hb2.mono (Nat.le_trans HB0.out.size hb1.size)));have HGF:=Lib.hid (show w.heap.size≤gF by have:=HB0.out.size;have:=hb1.size;omega);clear hb2 hF2 hw2 hb1 hz1 hgF S1 HGB1 HES1 HES0 HGB0 HB0 HSZ;have q0:=HGB2.out.cell 0;have q1:=HGB2.out.cell 1;simp only [List.getElem?_toArray,List.getElem?_cons_zero,List.getElem?_cons_succ] at q0 q1;go_wp2_with fail;refine (eN n A cap es w2 HES2.out hcap).mono ?_;rintro e w3 hpost;rcases hpost with ⟨hng,rfl,hb3⟩ | ⟨hgd,w0,g,gv,rfl,hb30,hfr⟩
 ·have HF3:=Lib.hid (HF2.out.below hb3 HF2.out.lt);have HB3:=Lib.hid (HB2.out.trans (hb3.mono HB2.out.size));have HNG:=Lib.hid hng;clear hb3 hng q0 q1
  go_upto_region 2 with fail
  go_quiet (fail)
  have HF4:=Lib.hid (HF3.out.below (Jq nq) HF3.out.lt);have HB4:=Lib.hid (below_drewN HB3.out nq);generalize w3.drewN nq=w4 at *;have f0:=HF4.out.cell 0;have f1:=HF4.out.cell 1;have f2:=HF4.out.cell 2;have r0:=HF4.out.frozen 0;have r1:=HF4.out.frozen 1;have r2:=HF4.out.frozen 2;simp only [List.getElem?_toArray,List.getElem?_cons_zero,List.getElem?_cons_succ] at f0 f1 f2;go_wp2_with fail;refine bodyPost_ret (uE rfl rfl rfl (vM HF4.out (.int .i64 1) (.int .i64 0) (.slice none 0 0)) rfl) (by rfl) ?_;exact ⟨zF HB4.out HGF.out _ _ _,.inr ⟨fun h=>HNG.out h.1,1,0,by decide,rfl⟩⟩
 ·obtain ⟨N,rfl⟩:∃N:Nat,n=N:=⟨n.toNat,by have:=(jP hgd.may).1;omega⟩;have hTN:((N:Nat):Int).toNat=N:=Int.toNat_natCast N;rw [hTN] at hfr;have HTN:=Lib.hid hTN;have hN64:N≤64:=by have:=(jP hgd.may).2.1;omega
  have hN0:0<N:=by have:=(jP hgd.may).1;omega
  have HGD:=Lib.hid hgd;have HFR3:=Lib.hid hfr;have SP0:=Lib.hid (SP2.out.next hb30);have HF0:=Lib.hid (HF2.out.below hb30 HF2.out.lt);have HB0:=Lib.hid (HB2.out.trans (hb30.mono HB2.out.size));have hb3:Below w2.heap.size w2 w3:=hb30.trans (hfr.bel.mono hb30.size);have HB30:=Lib.hid hb30.size;have HGB3:=Lib.hid (HGB2.out.below hb3 HGB2.out.lt);have SP3:=Lib.hid (SP2.out.next hb3);have HES3:=Lib.hid ((HES2.out.below hb3).more hb3.size);have HOF:=Lib.hid (fun (W:World) (gv:Nat) (hv:zC W gv N es) hO hU=>oE gv N es O U co cu ord outs W hv hO hU hN64 hl HOL.out);obtain ⟨ob,hob⟩:∃ob,ob=ofB N es ord outs:=⟨_,rfl⟩;rw [←hob] at HOF;have HOB:=Lib.hid hob;clear hob hgd hfr hb30 hb3 hTN q0 q1
  go_upto_region 2 with fail
  refine R5.wp_region_b [[]] [0,0,0,0,0,0,0,0,0]
   [([],.val (.int .i64 0)),([0],.val (.bool false)),([1],.val (.bool false)),([2],.val (.agg #[.int .i64 (N:Nat),.slice A es.length cap])),([2,3],.viewF N es),([2],.val (.agg #[.slice O ord.length co,.slice U outs.length cu])),([2,4,5],.val (.bool ob)),([2,6],.val (.bool (!ob))),([2,7],.val (.bool (!ob)))] [8] (by kernel_rfl) (by kernel_rfl) (fun us=>?_) ?_
  ·refine R5.pgo_pure _ rfl rfl (fun wv hw hu=>⟨.int .i64 0,?_,rfl⟩) ?_
   ·have tok:=True.intro;clear hw hu;go_simp
   refine R5.pgo_pure _ rfl rfl (fun wv hw hu=>⟨.bool false,?_,rfl⟩) ?_
   ·have tok:=True.intro;have h0:us 0 = .int .i64 0:=hu.1;clear hw hu;go_simp
   refine R5.pgo_pure _ rfl rfl (fun wv hw hu=>⟨.bool false,?_,rfl⟩) ?_
   ·have tok:=True.intro;have h1:us 1 = .bool false:=hu.1;clear hw hu;go_simp
   refine Vm _ 2 18 false rfl rfl rfl (by simp [qF]) (fun wv hu=>by
   have hg:us 2 = .bool false:=hu.1
   exact (by repeat (first | (with_reducible exact (qg _ _ _ (by simp [qF])).trans hg) | (with_reducible refine yk _ _ _ _ _ (by decide) ?_)))) (fun wv hw hu=>⟨.agg #[.int .i64 (N:Nat),.slice A es.length cap],wv,?_,But.refl _ _,rfl⟩) ?_
   ·have tok:=True.intro;have zy0:wv.cell? ⟨gG,0,none⟩=some (.int .i64 (N:Nat)):=((R5.BW.in_ hw [] rfl (by kernel_rfl):But [] w3.drew wv).blk HGB3.out.drew (by simp)).cell 0;have zy1:wv.cell? ⟨gG,1,none⟩=some (.slice A es.length cap):=((R5.BW.in_ hw [] rfl (by kernel_rfl):But [] w3.drew wv).blk HGB3.out.drew (by simp)).cell 1;clear hw hu;go_simp
   refine Ke _ 2 18 false rfl rfl rfl (by simp [qF]) (fun wv hu=>by
   have hg:us 2 = .bool false:=hu.1
   exact (by repeat (first | (with_reducible exact (qg _ _ _ (by simp [qF])).trans hg) | (with_reducible refine yk _ _ _ _ _ (by decide) ?_)))) 39 #[.agg #[.int .i64 (N:Nat),.slice A es.length cap]] (fun wv hw hu=>⟨?_,?_⟩) ?_
   ·have tok:=True.intro;have h3:us 3 = .agg #[.int .i64 (N:Nat),.slice A es.length cap]:=hu.2.1;clear hw hu;go_simp
   ·have hbv:=(R5.BW.in_ hw [] rfl (by kernel_rfl):But [] w3.drew wv).undrew.below (Nat.le_refl _) (by simp);refine (um N A cap es wv ((HES3.out.below hbv).more hbv.size)).mono ?_;rintro e z ⟨gv,rfl,hzb,hzv⟩;rw [(Ze HGD.out).1,(Ze HGD.out).2] at hzv;rw [HTN.out] at hzv;exact ⟨_,rfl,But.of_below _ hzb (Nat.le_refl _),gv,rfl,hzv⟩
   refine Vm _ 2 18 false rfl rfl rfl (by simp [qF]) (fun wv hu=>by
   have hg:us 2 = .bool false:=hu.1
   exact (by repeat (first | (with_reducible exact (qg _ _ _ (by simp [qF])).trans hg) | (with_reducible refine yk _ _ _ _ _ (by decide) ?_)))) (fun wv hw hu=>⟨.agg #[.slice O ord.length co,.slice U outs.length cu],wv,?_,But.refl _ _,rfl⟩) ?_
   ·have tok:=True.intro;have zy0:wv.cell? ⟨gP,0,none⟩=some (.slice O ord.length co):=((R5.BW.in_ hw [] rfl (by kernel_rfl):But [] w3.drew wv).blk SP3.out.b.drew (by simp)).cell 0;have zy1:wv.cell? ⟨gP,1,none⟩=some (.slice U outs.length cu):=((R5.BW.in_ hw [] rfl (by kernel_rfl):But [] w3.drew wv).blk SP3.out.b.drew (by simp)).cell 1;clear hw hu;go_simp
   refine Ke _ 2 18 false rfl rfl rfl (by simp [qF]) (fun wv hu=>by
   have hg:us 2 = .bool false:=hu.1
   exact (by repeat (first | (with_reducible exact (qg _ _ _ (by simp [qF])).trans hg) | (with_reducible refine yk _ _ _ _ _ (by decide) ?_)))) 88 #[us 4,.agg #[.slice O ord.length co,.slice U outs.length cu]] (fun wv hw hu=>⟨?_,?_⟩) ?_
   ·have tok:=True.intro;obtain ⟨gv,h4,_⟩:∃gv,us 4 = .pointer (some ⟨gv,0,none⟩)∧zC wv gv N es:=hu.2.1;have h5:us 5 = .agg #[.slice O ord.length co,.slice U outs.length cu]:=hu.2.2.1;clear hw hu;go_simp
   ·have hbv:=(R5.BW.in_ hw [] rfl (by kernel_rfl):But [] w3.drew wv).undrew.below (Nat.le_refl _) (by simp);obtain ⟨gv,h4,hvv⟩:∃gv,us 4 = .pointer (some ⟨gv,0,none⟩)∧zC wv gv N es:=hu.2.1;have SPv:=SP3.out.next hbv
    rw [h4];refine (HOF.out wv gv hvv SPv.o SPv.u).mono ?_;rintro e z ⟨rfl,hzb⟩;exact ⟨_,rfl,But.of_below _ hzb (Nat.le_refl _),rfl⟩
   refine Vm _ 2 18 false rfl rfl rfl (by simp [qF]) (fun wv hu=>by
   have hg:us 2 = .bool false:=hu.1
   exact (by repeat (first | (with_reducible exact (qg _ _ _ (by simp [qF])).trans hg) | (with_reducible refine yk _ _ _ _ _ (by decide) ?_)))) (fun wv hw hu=>⟨.bool (!ob),wv,?_,But.refl _ _,rfl⟩) ?_
   ·have tok:=True.intro;have h6:us 6 = .bool ob:=hu.2.1;clear hw hu;go_simp
   refine R5.pgo_pure _ rfl rfl (fun wv hw hu=>⟨.bool (!ob),?_,rfl⟩) ?_
   ·have tok:=True.intro;have h2:us 2 = .bool false:=hu.1;have h7:us 7 = .bool (!ob):=hu.2.1;clear hw hu;go_simp
   trivial
  ·intro us w4 hw hu;have h8:us 8 = .bool (!ob):=hu.1;have hb4:=(R5.BW.in_ hw [] rfl (by kernel_rfl):But [] w3.drew w4).undrew.below (Nat.le_refl _) (by simp);have HFR4:=Lib.hid (HFR3.out.next hb4);have HB34:=Lib.hid hb4;clear hw hu hb4;simp only [kx];go_simp
   cases hob:ob with
   | false=>
    have HF4:=Lib.hid (HF0.out.below HFR4.out.bel HF0.out.lt);have HB4:=Lib.hid (HB0.out.trans (HFR4.out.bel.mono HB0.out.size))
    have HNO:=Lib.hid (show ¬(xk N es ord outs).isSome=true by
     unfold xk
     rw [←HOB.out,hob];simp)
    clear hob;have f0:=HF4.out.cell 0;have f1:=HF4.out.cell 1;have f2:=HF4.out.cell 2;have r0:=HF4.out.frozen 0;have r1:=HF4.out.frozen 1;have r2:=HF4.out.frozen 2;simp only [List.getElem?_toArray,List.getElem?_cons_zero,List.getElem?_cons_succ] at f0 f1 f2;go_wp2_with fail;refine bodyPost_ret (uE rfl rfl rfl (vM HF4.out (.int .i64 1) (.int .i64 0) (.slice none 0 0)) rfl) (by rfl) ?_;exact ⟨zF HB4.out HGF.out _ _ _,.inr ⟨fun h=>HNO.out (by have:=h.2;rwa [HTN.out] at this),1,0,by decide,rfl⟩⟩
   | true=>
    obtain ⟨ho1,ho2,ho3,ho4⟩:=kp.1 (HOB.out.symm.trans hob);have HRO:=Lib.hid (show xk N es ord outs=(Qd N es outs ord).map (·.2.2) by unfold xk;rw [←HOB.out,hob];rfl);have HO4:=Lib.hid ho4
    have HORD:=Lib.hid (show ∀x∈ord,∃y:Nat,x=y∧y<N from fun x hx=>by
     have h1:x∈upI N:=by rw [←ho3];exact List.mem_mergeSort.2 hx
     obtain ⟨y,hy,rfl⟩:=List.mem_map.1 h1
     exact ⟨y,rfl,List.mem_range.1 hy⟩)
    have HO12:=Lib.hid (And.intro ho1 ho2);clear ho1 ho2 ho3 ho4 hob h8;have q0:=(HGB3.out.below HB34.out HGB3.out.lt).cell 0;simp only [List.getElem?_toArray,List.getElem?_cons_zero] at q0;have zp0:=((SP0.out.next HFR4.out.bel).p0);have hgPl:=(SP0.out.next HFR4.out.bel).b.lt;have hmk:=fun W=>yz Wq rfl N (by omega) (by omega) W;go_wp2_with fail;have HEN0:=Lib.hid (show EndsW (w4.alloc (.cells (Array.replicate N (Value.slice none 0 0)) 41)) w0.heap.size w4.heap.size (List.replicate N []) from ⟨HFR4.out.bel.size,List.replicate N (.slice none 0 0),by simp,by simpa using Blk.new w4 41 (Array.replicate N (Value.slice none 0 0)),fun k h1 h2=>by simp only [List.getElem_replicate];exact World.ownsRow_nil _ _ _ _⟩);have HFR5:=Lib.hid (HFR4.out.next ((Below.refl w4.heap.size w4).alloc (Nat.le_refl _) (.cells (Array.replicate N (Value.slice none 0 0)) 41)));generalize w4.alloc (.cells (Array.replicate N (Value.slice none 0 0)) 41)=w5 at *;generalize w4.heap.size=ge at *
    go_loopg [4,32] ord.length (fun k s4 s32 wr=>∃(i:Nat) (r:List Itm) (pl:List Int) (en:List (List Itm)),s32 = .int .i64 i∧i≤ord.length∧k=ord.length-i∧s4 = .slice (some ⟨ge,0,none⟩) N N∧Qd N es outs (ord.take i)=some (r,pl,en)∧FrontW w0 wr g gv N es r pl∧EndsW wr w0.heap.size ge en∧en.length=N∧pl.length=i∧r.length≤i*501)
    case atStart=>exact ⟨0,[],[],_,rfl,Nat.zero_le _,rfl,rfl,rfl,HFR5.out,HEN0.out,by simp,rfl,by simp⟩
    case round=>
     obtain ⟨i,r,pl,en,rfl,hi,hk,rfl,hrun,hfw,hen,henl,hpl,hrl⟩:=hrel;have Hk:=Lib.hid hk;have HFW:=Lib.hid hfw;have HEN:=Lib.hid hen;have HRUN:=Lib.hid hrun;have HENL:=Lib.hid henl;have HPLL:=Lib.hid hpl;have HRL:=Lib.hid hrl;have SPr:=Lib.hid (SP0.out.next hfw.bel);have zp0:=SPr.out.p0;have zp1:=SPr.out.p1;have hi64:i≤64:=by have:=HO12.out.2;omega
     have hr5:r.length≤50000:=by omega
     have hp5:pl.length≤500:=by omega
     clear hk hfw hen hrun henl hpl hrl;by_cases hlt:i<ord.length
     ·have hlt':(i:Int)<ord.length:=by omega
      obtain ⟨x,hx,hxN⟩:=HORD.out ord[i] (List.getElem_mem hlt);obtain ⟨bo,oo,eo,hbo,hco⟩:=SPr.out.o.ints (by omega);subst eo;have c0:=hco i hlt;rw [hx] at c0;have hxu:x<outs.length:=by rw [HO12.out.1];exact hxN
      have hxu':(x:Int)<outs.length:=by omega
      have hxN':(x:Int)<N:=by omega
      obtain ⟨bu,ou,eu,hbu,hcu⟩:=(SP0.out.u.below HFW.out.bel) (by omega);subst eu;obtain ⟨Ax,cx,d0,hCx⟩:=hcu x hxu;have HOX:=Lib.hid (show outs.getD x []=outs[x] by rw [List.getD_eq_getElem?_getD,List.getElem?_eq_getElem hxu];rfl);have HSX:=Lib.hid (HO4.out x hxN);rw [HOX.out] at HSX
      have HXR:=Lib.hid (show Qd N es outs (ord.take (i+1))=if qT es r pl x=true then some (yf es r x (outs.getD x []),pl++[((x:Nat):Int)],en.set x (zA r x)) else none by
       rw [UH hlt,HRUN.out,hx]
       simp only [kt,Int.toNat_natCast])
      rw [HOX.out] at HXR;have HCX:=Lib.hid hCx
      have HOXL:=Lib.hid (show outs[x].length≤500 by
       have h1:(outs[x].mergeSort leI).length=outs[x].length:=List.length_mergeSort _;rw [HSX.out] at h1;have:=qd es Prod.fst (x:Nat) es.length
       omega)
      clear hco hcu hCx hx;generalize outs[x]=ox at *
      cases hrd:qT es r pl x with
      | false=>
       rw [hrd] at HXR;simp only [Bool.false_eq_true,if_false] at HXR
       have HNO:=Lib.hid (show ¬(xk N es ord outs).isSome=true by
        rw [HRO.out,UJ HXR.out];simp)
       go_wp2_with fail;refine (gK w0 wr g gv N es r pl x Ax cx ox HFW.out hxN (by omega) hr5 (by omega) hrd).mono ?_;rintro e w6 ⟨rfl,hb6⟩;have HEN6:=Lib.hid (HEN.out.evo (Evo.of_below (B:=0) (T:=[]) hb6) (by simp) (by simp));have HFW6:=Lib.hid (HFW.out.next hb6);obtain ⟨⟨ve,he1⟩,he2⟩:=HEN6.out.cell (x:=x) (by rw [HENL.out];exact hxN);have HF7:=Lib.hid (show Blk (w6.setCell ⟨ge,x,none⟩ (.slice none 0 0)) gF 74 #[.int .i64 0,.int .i64 0,.slice none 0 0] from (HF0.out.below HFW6.out.bel HF0.out.lt).far (fun e:gF=ge=>by have:=HF0.out.lt;have:=HEN6.out.g;omega) _);have HB7:=Lib.hid (((HB0.out.trans (HFW6.out.bel.mono HB0.out.size)).setCell (p:=⟨ge,x,none⟩) (Nat.le_trans HB0.out.size HEN6.out.g) (.slice none 0 0):Below w.heap.size w (w6.setCell ⟨ge,x,none⟩ (.slice none 0 0))));have f0:=HF7.out.cell 0;have f1:=HF7.out.cell 1;have f2:=HF7.out.cell 2;have r0:=HF7.out.frozen 0;have r1:=HF7.out.frozen 1;have r2:=HF7.out.frozen 2;simp only [List.getElem?_toArray,List.getElem?_cons_zero,List.getElem?_cons_succ] at f0 f1 f2;clear hb6 hrd;go_wp2_with fail;refine bodyPost_ret (uE rfl rfl rfl (vM HF7.out (.int .i64 3) (.int .i64 i) (.slice none 0 0)) rfl) (by rfl) ?_;exact ⟨zF HB7.out HGF.out _ _ _,.inr ⟨fun h=>HNO.out (by have:=h.2;rwa [HTN.out] at this),3,i,by decide,rfl⟩⟩
      | true=>
       rw [hrd,if_pos rfl] at HXR;go_wp2_with fail;refine (UR w0 wr g gv N es r pl x Ax cx ox HFW.out HCX.out hxN hl hr5 hp5 hrd HSX.out).mono ?_;rintro e w6 ⟨v6,rfl,hev6,hgo6,hfw6⟩;obtain ⟨Av,cv,rfl⟩:=jv hgo6;have HEN6:=Lib.hid (HEN.out.evo hev6 (by decide) (by decide));obtain ⟨⟨ve,he1⟩,he2⟩:=HEN6.out.cell (x:=x) (by rw [HENL.out];exact hxN);have HEN7:=Lib.hid (HEN6.out.set_ (x:=x) hgo6)
       have HFW7:=Lib.hid (show FrontW w0 (w6.setCell ⟨ge,x,none⟩ (.slice Av (zA r x).length cv)) g gv N es (yf es r x ox) (pl++[(x:Int)]) from by
        obtain ⟨vs,_,hbv,_⟩:=HEN6.out.st
        exact hfw6.evo (Evo.set_ (B:=w0.heap.size) (T:=[41]) hbv (List.mem_singleton.2 rfl) HEN6.out.g x _) (Nat.le_refl _) hfw6.bel.size (by decide) (by decide) (by decide))
       have HRL7:=Lib.hid (show (yf es r x ox).length≤(i+1)*501 by
        have:=uM (es:=es) (r:=r) (x:=x) (outs:=ox);have:=HRL.out;have:=HOXL.out
        omega)
       have HPL7:=Lib.hid (show (pl++[(x:Int)]).length=i+1 by rw [List.length_append,HPLL.out];rfl);clear hev6 hgo6 hfw6 hrd;generalize yf es r x ox=r7 at *;generalize zA r x=go7 at *;go_wp2_with fail
       go_roundg (ord.length-(i+1))
       case measure=>rw [Hk.out];omega
       case rel=>exact ⟨i+1,r7,_,_,by go_num,by omega,rfl,rfl,HXR.out,HFW7.out,HEN7.out,by rw [List.length_set];exact HENL.out,HPL7.out,HRL7.out⟩
     ·have hlt':¬(i:Int)<ord.length:=by omega
      have HRE:=Lib.hid (show xk N es ord outs=some en by
       rw [HRO.out];have h1:=HRUN.out;rw [List.take_of_length_le (by omega)] at h1
       rw [h1];rfl)
      obtain ⟨vi,vp,hG,hI,hP⟩:=HFW.out.st;obtain ⟨Ai,ci,rfl⟩:=jv hI;have z0:=hG.cell 0;simp only [List.getElem?_toArray,List.getElem?_cons_zero] at z0;have HROW:=Lib.hid (nX g Ai ci r wr z0 (jr.of_own hI) hr5);clear hG hI hP z0 zp0 zp1;go_wp2_with fail;refine HROW.out.mono ?_;rintro e w6 ⟨v6,rfl,hb6⟩;have HEN6:=Lib.hid (HEN.out.evo (Evo.of_below (B:=0) (T:=[]) hb6) (by simp) (by simp));have HFW6:=Lib.hid (HFW.out.next hb6);have HF7:=Lib.hid (HF0.out.below HFW6.out.bel HF0.out.lt);have HB7:=Lib.hid (HB0.out.trans (HFW6.out.bel.mono HB0.out.size));have f0:=HF7.out.cell 0;have f1:=HF7.out.cell 1;have f2:=HF7.out.cell 2;have r0:=HF7.out.frozen 0;have r1:=HF7.out.frozen 1;have r2:=HF7.out.frozen 2;simp only [List.getElem?_toArray,List.getElem?_cons_zero,List.getElem?_cons_succ] at f0 f1 f2;have HEN8:=Lib.hid (HEN6.out.evo ((Evo.set_ (B:=0) (T:=[74]) HF7.out (List.mem_singleton.2 rfl) (Nat.zero_le _) 0 (.int .i64 0)).trans ((Evo.set_ (B:=0) (T:=[74]) (HF7.out.set_ 0 (.int .i64 0)) (List.mem_singleton.2 rfl) (Nat.zero_le _) 1 (.int .i64 0)).trans (Evo.set_ (B:=0) (T:=[74]) ((HF7.out.set_ 0 (.int .i64 0)).set_ 1 (.int .i64 0)) (List.mem_singleton.2 rfl) (Nat.zero_le _) 2 (.slice none 0 0)))) (by decide) (by decide));clear hb6 HROW;go_wp2_with fail;refine bodyPost_ret (uE rfl rfl rfl (vM HF7.out (.int .i64 0) (.int .i64 0) (.slice none 0 0)) rfl) (by rfl) ?_;refine ⟨zF HB7.out HGF.out _ _ _,.inl ⟨en,ge,v6,HGD.out,?_,?_,?_,HEN8.out.at_⟩⟩
      ·rw [HTN.out];exact HRE.out
      ·rw [HTN.out];exact HENL.out
      ·rw [HTN.out];rfl
end Go.Proofs.YtneeknlhlkpnpaaGreat
namespace Go.Proofs.YtneeknlhlkpnpaaGreat
open Go.RowKit Go.Shelf
attribute [local go_sem] Oper.semAt_some
def Gh(r:List Itm)(k:Nat):Int×Itm:=((r.length:Int)-1-k,r.getD (r.length-1-k) (0,0,0))
def Jb(r:List Itm)(k:Nat):List (Int×Itm):=(List.range k).map (Gh r)
theorem dH(r:List Itm)(k:Nat):Jb r (k+1)=Jb r k++[Gh r k]:=by simp [Jb,List.range_succ]
theorem Gb(r:List Itm)(k:Nat):(Jb r k).length=k:=by simp [Jb]
def nB(x:Int×Itm):Array Value:=#[.int .i64 x.1,.agg #[.int .i64 x.2.1,.int .i64 x.2.2.1,.int .i64 x.2.2.2]]
def KB(n₀ Bs:Nat)(W W':World):Prop:=Below n₀ W W'∧W'.heap[Bs]? = W.heap[Bs]?
theorem rA{n₀ Bs:Nat}{A B C:World}(h:KB n₀ Bs A B)(k:KB n₀ Bs B C):KB n₀ Bs A C:=⟨h.1.trans k.1,k.2.trans h.2⟩
theorem rL{n₀ Bs:Nat}{w:World}(hn:n₀ ≤ w.heap.size)(hb:Bs<w.heap.size)(W:World)(l:Nat)(o o':Obj)(hl:w.heap.size≤l)(h:W.heap[l]? = some o)(h1:o.isCells=false)(h2:o.isWalk=false):KB n₀ Bs W (W.putObj l o'):=
 ⟨belowK_b hn W l o o' hl h h1 h2,(grownBy_putObj' W l o').block Bs (by have:=(Array.getElem?_eq_some_iff.1 h).1;omega) (fun e=>by injection e with e;omega)⟩
set_option maxRecDepth 100000 in
set_option maxHeartbeats 2000000 in
theorem mT(n:Nat)(hn:1≤n)(l Bs n₀ : Nat)(A:Option Addr)(cap:Nat)(r:List Itm)(hz:r.length≤100000)(J Jx:List (Int×Itm)→World→Prop)
  (hY:∀pre x W,J pre W→pre.length<r.length→YieldAt Fence.wide (n-1) Tryz.prog l (nB x) W fun e W'=>
   (e = .returned (.bool true)∧J (pre++[x]) W'∧KB n₀ Bs W W')∨(e = .returned (.bool false)∧Jx (pre++[x]) W'))
  (W:World) (hBs:Boxed W Bs 41 (.slice A r.length cap)) (hc:jr W n₀ A (ju r)) (h0:J [] W) :
  CallsIn Fence.wide n Tryz.prog 90 #[.func (.yield l) #[] #[],.pointer (some ⟨Bs,0,none⟩)] W fun e W'=>(∃v,e = .returned v) ∧
   ((∃ys,ys=Jb r r.length∧J ys W')∨(∃pre,(∃k,k≤r.length∧pre=Jb r k)∧Jx pre W')):=by
 refine callsIn_of_wp Tryz.func90 rfl trivial ?_ rfl;simp only [Tryz.ntmps90,List.size_toArray,List.length_cons,List.length_nil,Nat.reduceAdd,Nat.reduceSub,Array.replicate_succ,Array.replicate_zero,List.push_toArray,List.append_toArray,List.nil_append,List.cons_append];have hBc:=hBs.cell
 gi_wp2
 clear hBc
 gi_loopw [3] (fun i wr=>∃k:Nat,k≤r.length∧i = .int .i64 ((r.length:Int)-1-k)∧J (Jb r k) wr∧KB n₀ Bs W wr)
  (fun i _=>(intOf i+1).toNat)
 case atStart=>exact ⟨0,Nat.zero_le _,by simp,h0,Below.refl _ _,rfl⟩
 case round=>
  obtain ⟨k,hk,rfl,hJs,hnx⟩:=hrel;have HBs:Boxed wr Bs 41 (.slice A r.length cap):=hnx.2.trans hBs;have HBc:=HBs.cell;by_cases hlt:k<r.length
  ·obtain ⟨b,off,rfl,hb,hcs⟩:=hc.items (by omega);obtain ⟨j,hj⟩:∃j:Nat,j=r.length-1-k:=⟨_,rfl⟩;have hjl:j<r.length:=by omega
   have hji:(r.length:Int)-1-k=(j:Int):=by omega
   obtain ⟨d0,d1,d2⟩:=hcs j hjl;have c0:=(hnx.1.cell (p:=⟨b,off+j*3,none⟩) hb).trans d0;have c1:=(hnx.1.cell (p:=⟨b,off+j*3+1,none⟩) hb).trans d1;have c2:=(hnx.1.cell (p:=⟨b,off+j*3+1+1,none⟩) hb).trans d2
   have HX:=Lib.hid (show Gh r k=((j:Int),r[j]) by
    unfold Gh
    rw [hji,←hj,List.getD_eq_getElem?_getD,List.getElem?_eq_getElem hjl];rfl)
   obtain ⟨fn,tmps,assign,body,hy,hR⟩:=hY _ (Gh r k) wr hJs (by rw [Gb];exact hlt);have HT:=Lib.hid (dH r k);rw [hji];rw [HX.out] at hy;unfold nB at hy;simp only at hy;have hjl':(j:Int)<r.length:=by omega
   have hj0:(j:Int)≥0:=by omega
   have HKJ:=Lib.hid (show (j:Int)-1=(r.length:Int)-1-((k+1:Nat):Int) by omega);have HMS:=Lib.hid hji;clear hcs d0 d1 d2 hji hj;generalize r[j]=x at *;obtain ⟨x1,x2,x3⟩:=x;simp only at *
   gi_wp2
   refine hR.mono ?_;rintro e W3 (⟨rfl,hJ3,hk3⟩ | ⟨rfl,hJx3⟩)
   ·have HB3:=Boxed.cell (W:=W3) (B:=Bs) (hk3.2.trans HBs)
    gi_wp2
    go_roundw
    case rel=>exact ⟨k+1,by omega,by rw [←HKJ.out],by rw [HT.out];exact hJ3,rA hnx hk3⟩
    case measure=>simp [intOf]
   ·gi_wp2
    refine bodyPost_ret (results_none rfl _ _ _) rfl ?_;exact ⟨⟨_,rfl⟩,.inr ⟨_,⟨k+1,by omega,rfl⟩,by rw [HT.out];exact hJx3⟩⟩
  ·have hke:k=r.length:=by omega
   have hng:¬((r.length:Int)-1-k≥0):=by omega
   have HE:=Lib.hid hke;clear hke
   gi_wp2
   go_end0
   exact ⟨⟨_,rfl⟩,.inl (by rw [←HE.out];exact hJs)⟩
theorem dG(n:Nat)(hn:1≤n)(Bs n₀ : Nat)(A:Option Addr)(cap:Nat)(r:List Itm)(hz:r.length≤100000)(w:World)(hn₀ : n₀ ≤ w.heap.size)
  (hc:Boxed w Bs 41 (.slice A r.length cap)) (hI:jr w n₀ A (ju r)) :
  SeqStopsK Fence.wide n Tryz.prog 90 #[.pointer (some ⟨Bs,0,none⟩)] nB (KB n₀ Bs) (fun ys=>ys=Jb r r.length) (fun pre=>∃k,k≤r.length∧pre=Jb r k) r.length w:=fun l J Jx W hW _ _ hY h0=>
 mT n hn l Bs n₀ A cap r hz J Jx hY W ((hW.block Bs hc.lt).trans hc) (hI.below (hW.mono hn₀)) h0
theorem mS(A:Option Addr)(len cap:Nat)(w:World) :
  Calls Tryz.prog 36 #[.slice A len cap] w fun e w'=>e = .returned (.func (.func 90) #[] #[.pointer (some ⟨w.heap.size,0,none⟩)])∧w'=w.alloc (.cells #[.slice A len cap] 41):=by
 go_enter Tryz.func36,Tryz.ntmps36
 go_wp2
 go_ret;exact ⟨rfl,rfl⟩
end Go.Proofs.YtneeknlhlkpnpaaGreat
namespace Go.Proofs.YtneeknlhlkpnpaaGreat
open Go.RowKit Go.Shelf
attribute [local go_sem] Oper.semAt_some
def YS(l:List Int):List Int:=l.map fun i=>2*i
def inH(l:List Itm):List Int:=(l.filter fun e=>decide (e.1 ≠ -1)).map fun e=>2*e.1+1
def zt(l:List Int)(e:List Itm):List Int:=YS l++inH e.reverse
def jS(n:Nat)(outs:List (List Int))(en:List (List Itm)):List (List Int):=(List.range n).map fun x=>zt (outs.getD x []) (en.getD x [])
theorem qB{n:Nat}{outs:List (List Int)}{en:List (List Itm)}:(jS n outs en).length=n:=by simp [jS]
def YT(w:World)(base:Nat)(v:Value)(ls:List (List Int)):Prop:=∃vals:List Value,vals.length=ls.length∧w.ownsRow base 25 1 v ls.length vals ∧ ∀k (h:k<vals.length) (h':k<ls.length),w.ownsRow base 3 1 vals[k] ls[k].length (jf ls[k])
theorem YT.below{w w':World}{B base:Nat}{v:Value}{ls:List (List Int)}(h:YT w base v ls)(hb:Below B w w')(hB:w.heap.size≤B):YT w' base v ls:=by
 obtain ⟨vals,h1,h2,h3⟩:=h;exact ⟨vals,h1,jT h2 hb hB,fun k k1 k2=>jT (h3 k k1 k2) hb hB⟩
theorem YT.nil(w:World)(base:Nat):YT w base (.slice none 0 0) []:=⟨[],rfl,World.ownsRow_nil _ _ _ _,fun k h=>absurd h (by simp)⟩
theorem YT.atC{w:World}{base c n:Nat}{A:Option Addr}{ls:List (List Int)}(h:YT w base (.slice A n c) ls):vn w w.heap.size A ls:=fun hn=>by
 obtain ⟨vals,h1,h2,h3⟩:=h
 have hn2:n=ls.length:=by
  rcases h2.2 with ⟨e,h0⟩ | ⟨g,cap,cur,e,_⟩
  ·omega
  ·injection e
 subst hn2;obtain ⟨b,off,e,hb,hc⟩:=jr.of_own h2 (by omega);refine ⟨b,off,e,hb,fun i hi=>?_⟩;have h4:=h3 i (by omega) hi;obtain ⟨Ai,ci,e2⟩:=jv h4;rw [e2] at h4;refine ⟨Ai,ci,by rw [hc i vals[i] (List.getElem?_eq_getElem (by omega)),e2],jr.of_own h4,?_⟩;rcases h4.2 with ⟨h5,h0⟩ | ⟨g,cap,cur,h5,_,_,h6,_⟩
 ·injection h5 with _ h5 h7;omega
 ·injection h5 with _ _ h5;omega
theorem YT.at_{w:World}{base c n:Nat}{A:Option Addr}{ls:List (List Int)}(h:YT w base (.slice A n c) ls):qm w w.heap.size A ls:=h.atC.at_
def cD(D:Nat):Deferred:={ target:=.collected D,args:=#[] }
theorem Zq{F:Fence}{n:Nat}{P:Program}{fn:Func}{tmps:Array Value}{R:Ending→World→Prop}:∀(Ds:List Nat) (B:Nat) (w:World),(∀D∈Ds,B≤D∧w.heap[D]? = some (.deferred (some [])))→Ds.Nodup→(∀w':World,Below B w w'→(∀(k:Nat) (cs:Array Value) (t:TypeId) (fr:Nat×Nat),w.heap[k]? = some (Obj.cells cs t fr)→w'.heap[k]? = w.heap[k]?)→LeavesIn F n P fn tmps R [] .returning w')→LeavesInM F n P fn tmps R (Ds.map cD) .returning w
 | [],B,w,_,_,h=>h w (Below.refl _ _) (fun _ _ _ _ _=>rfl)
 | D::Ds,B,w,hD,hn,h=>by
  have h0:=hD D (by simp);refine ⟨by simp,.inl ⟨D,_,rfl,run_takeDeferred h0.2,?_⟩⟩;have hDl:=(Array.getElem?_eq_some_iff.1 h0.2).1;have hg:=grownBy_putObj' w D (.deferred none);have hb:Below B w (w.putObj D (.deferred none)):=⟨hg.os,hg.tape,hg.output,hg.size,fun k hk=>hg.block k (by omega) (fun e=>by injection e with e;omega)⟩;refine Zq Ds B _ (fun E hE=>⟨(hD E (by simp [hE])).1,?_⟩) (List.nodup_cons.1 hn).2 (fun w' hb' hc'=>h w' (hb.trans hb') (fun k cs t fr hk=>?_))
  ·have hE2:=hD E (by simp [hE]);rw [hg.block E (Array.getElem?_eq_some_iff.1 hE2.2).1 (fun e=>by injection e with e;subst e;exact (List.nodup_cons.1 hn).1 hE)];exact hE2.2
  ·have hkD:k≠D:=fun e=>by subst e;rw [h0.2] at hk;cases hk
   have e1:=hg.block k (Array.getElem?_eq_some_iff.1 hk).1 (fun e=>by injection e with e;exact hkD e);rw [hc' k cs t fr (e1.trans hk),e1]
def Zf:Code→Code
 | .seq a b=>match Zf a with
  | .skip=>Zf b
  | c=>c
 | .block _ c=>Zf c
 | .loop c=>Zf c
 | .cond _ a b=>match Zf a with
  | .skip=>Zf b
  | c=>c
 | .rangeFunc g ps a b=>.rangeFunc g ps a b
 | _=>.skip
def xW(l:List Itm):List Int:=(l.filter fun e=>decide (e.1 ≠ -1)).map fun e=>wrap64 (wrap64 (2*e.1)+1)
theorem Vy(l:List Itm)(e:Itm):xW (l++[e])=xW l++if e.1 = -1 then [] else [wrap64 (wrap64 (2*e.1)+1)]:=by
 unfold xW;rw [List.filter_append,List.map_append];congr 1;by_cases h:e.1 = -1<;>simp [h]
theorem iO(r:List Itm):(Jb r r.length).map (·.2)=r.reverse:=by
 apply List.ext_getElem
 ·simp [Jb]
 ·intro i h1 h2;have hi:i<r.length:=by simpa [Jb] using h1
  simp only [Jb,Gh,List.getElem_map,List.getElem_range,List.getElem_reverse];rw [List.getD_eq_getElem?_getD,List.getElem?_eq_getElem (by omega)];rfl
theorem mN{β : Type}(g:Nat)(t:TypeId)(cs:Array Value):Own (fun (_ : β) W=>Blk W g t cs):=fun _ X Y row hs hg hrow=>by
 have hb:Blk X g t cs:=hs
 exact (hg.block g hb.lt (fun e'=>by
  obtain ⟨o,ho,hc⟩:=hrow g e'.symm;have h1:X.heap[g]? = some (.cells cs t (0,0)):=hb
  rw [h1] at ho;cases ho;cases hc)).trans hb
def rx(W:World)(B Bl Bs:Nat)(sv:Value)(l0:List Int)(pre:List (Int×Itm))(W':World):Prop:=(∃v,Boxed W' Bl 25 v∧W'.ownsRow B 3 1 v (l0++xW (pre.map (·.2))).length (jf (l0++xW (pre.map (·.2))))∧True)∧Boxed W' Bs 41 sv∧Below B W W'
set_option maxRecDepth 100000 in
set_option maxHeartbeats 4000000 in
theorem ly(n:Nat)(hn:4≤n)(Q:Exit→Act→World→Prop)(u0 u1 u2 u3 u4 u5 u6 u7 u8 u9 u10 u11 u13 u14 u15 u16 u17 u18 u19 u20 u21 u22 u23 u24 u25 u26 u27 u28 u29 u30 u31 u32 u33 u34 u35 u36 u37 u38 u39 u40 u41 u42 u43 u44 u45 u46 u47 u48 u49 u50 u52 u53 u54 u55 u56 u57 u58 u59 u60 u61 u62 u63 u64 u65 u66 u67 u68 u69:Value)(ds:List Deferred)(W:World)(B Bl Bs:Nat)(A:Option Addr)(c:Nat)(r:List Itm)(l0:List Int)(v0:Value)
  (hl:Boxed W Bl 25 v0) (hrow:W.ownsRow B 3 1 v0 l0.length (jf l0)) (hBl:B≤Bl) (hs:Boxed W Bs 41 (.slice A r.length c)) (hBs:B≤Bs) (hB:B≤W.heap.size) (hI:jr W B A (ju r)) (hrl:r.length≤50000) (hl0:l0.length≤50000)
  (hQ:∀(D:Nat) (W':World) (v:Value),W.heap.size≤D→Below B W W'→W'.heap[D]? = some (.deferred (some []))→Boxed W' Bl 25 v→W'.ownsRow B 3 1 v (l0++xW r.reverse).length (jf (l0++xW r.reverse))→Q .normal ⟨#[u0,u1,u2,u3,u4,u5,u6,u7,u8,u9,u10,u11,.pointer (some ⟨Bl,0,none⟩),u13,u14,u15,u16,u17,u18,u19,u20,u21,u22,u23,u24,u25,u26,u27,u28,u29,u30,u31,u32,u33,u34,u35,u36,u37,u38,u39,u40,u41,u42,u43,u44,u45,u46,u47,u48,u49,u50,.func (.func 90) #[] #[.pointer (some ⟨Bs,0,none⟩)],u52,u53,u54,u55,u56,u57,u58,u59,u60,u61,u62,u63,u64,u65,u66,u67,u68,u69],cD D::ds⟩ W') :
  (Zf ((Tryz.f9.body).getD .skip)).wpIn Fence.wide n Tryz.prog Q ⟨#[u0,u1,u2,u3,u4,u5,u6,u7,u8,u9,u10,u11,.pointer (some ⟨Bl,0,none⟩),u13,u14,u15,u16,u17,u18,u19,u20,u21,u22,u23,u24,u25,u26,u27,u28,u29,u30,u31,u32,u33,u34,u35,u36,u37,u38,u39,u40,u41,u42,u43,u44,u45,u46,u47,u48,u49,u50,.func (.func 90) #[] #[.pointer (some ⟨Bs,0,none⟩)],u52,u53,u54,u55,u56,u57,u58,u59,u60,u61,u62,u63,u64,u65,u66,u67,u68,u69],ds⟩ W:=by
 conv=>arg 1;whnf
 obtain ⟨i0,hi,hz0,hz1,hz2⟩:=info_parts Gr;have hne:Bl≠Bs:=fun e=>by subst e;have:=hl.symm.trans hs;simp at this
 refine wpIn_rangeFunc_ownH rfl (by omega) (gf:=90) (lb:=#[.pointer (some ⟨Bs,0,none⟩)]) rfl trivial (enters_of Tryz.func90 (by kernel_rfl) rfl)
  (encs:=fun x:Int×Itm=>#[.int .i64 x.1,.agg #[.int .i64 x.2.1,.int .i64 x.2.2.1,.int .i64 x.2.2.2]])
  (dG (n-1) (by omega) Bs B A c r (by omega) W hB hs hI) rA (rL hB hs.lt) (Below.refl _ _) (fun _=>rfl)
  (rx W B Bl Bs (.slice A r.length c) l0)
  (fun _ _ _=>False)
  (OwnFrom.and (Own.from (holdsRow_own B Bl 25 3 1 (fun pre:List (Int×Itm)=>(l0++xW (pre.map (·.2))).length) (fun pre=>jf (l0++xW (pre.map (·.2)))) (fun _ _=>True)) _) (OwnFrom.and (Own.from (boxed_own Bs 41 (fun _=>.slice A r.length c)) _) (ownFrom_below hB hB)))
  (fun _ _ _ _ _ hs _ _=>hs)
  ⟨⟨v0,hl,by simpa [xW] using hrow,trivial⟩,hs,Below.refl _ _⟩
  (fun x a' W'=>∃Bx,B≤Bx∧Blk W' Bx 81 #[.int .i64 x.2.1,.int .i64 x.2.2.1,.int .i64 x.2.2.2]∧a' = { tmps:=#[u0,u1,u2,u3,u4,u5,u6,u7,u8,u9,u10,u11,.pointer (some ⟨Bl,0,none⟩),u13,u14,u15,.pointer (some ⟨Bx,0,none⟩),u17,u18,u19,u20,u21,u22,u23,u24,u25,u26,u27,u28,u29,u30,u31,u32,u33,u34,u35,u36,u37,u38,u39,u40,u41,u42,u43,u44,u45,u46,u47,u48,u49,u50,.func (.func 90) #[] #[.pointer (some ⟨Bs,0,none⟩)],.int .i64 x.1,.agg #[.int .i64 x.2.1,.int .i64 x.2.2.1,.int .i64 x.2.2.2],u54,u55,u56,u57,u58,u59,u60,u61,u62,u63,u64,u65,u66,u67,u68,u69],defers:=[] })
  (fun x a' _ X Y row hs hg hr=>by obtain ⟨Bx,h0,h1,h2⟩:=hs;exact ⟨Bx,h0,mN (β :=Unit) Bx _ _ () X Y row h1 hg (fun r e=>(hr r e).2),h2⟩)
  ?assign ?body ?done ?stop
 case assign=>
  rintro l pre x W1 K ⟨⟨v,hv,hrow,_⟩,hbs,hB1⟩ hK;have hBW:=Nat.le_trans hB hB1.size
  gi_wp2
  refine hK _ _ ((KeepsOthers.alloc _ _).from _) ⟨(Below.refl _ W1).alloc hBW _,Below.heap_alloc W1 _ Bs hbs.lt⟩ ⟨⟨v,hv.alloc _,hrow.alloc _,trivial⟩,hbs.alloc _,hB1.alloc hBW _⟩ ⟨W1.heap.size,hBW,Blk.new W1 _ _,rfl⟩
 case body=>
  rintro l pre x a' W1 hl ⟨_,_⟩ ⟨⟨v,hv,hrow,_⟩,hbs,hB1⟩ ⟨Bx,hBx,hbx,rfl⟩ hlt;have hc:=hv.cell;have c0:=hbx.cell 0;simp only [List.getElem?_toArray,List.getElem?_cons_zero] at c0;by_cases he:x.2.1 = -1
  ·have he':(x.2.1 != -1)=false:=by simp [he]
   have HF:=Lib.hid (show l0++xW ((pre++[x]).map (·.2))=l0++xW (pre.map (·.2)) by rw [List.map_append,List.map_cons,List.map_nil,Vy,if_pos he,List.append_nil]);clear he
   gi_wp2
   exact ⟨KeepsFrom.refl _ _,⟨Below.refl _ _,rfl⟩,⟨v,hv,by rw [HF.out];exact hrow,trivial⟩,hbs,hB1⟩
  ·have he':(x.2.1 != -1)=true:=by simp [he]
   have HF:=Lib.hid (show l0++xW ((pre++[x]).map (·.2))=(l0++xW (pre.map (·.2)))++[wrap64 (wrap64 (2*x.2.1)+1)] by rw [List.map_append,List.map_cons,List.map_nil,Vy,if_neg he,List.append_assoc])
   have hpl:(l0++xW (pre.map (·.2))).length≤100000:=by
    have h1:(xW (pre.map (·.2))).length≤pre.length:=by
     unfold xW;rw [List.length_map];exact Nat.le_trans (List.length_filter_le _ _) (by simp)
    rw [List.length_append];omega
   clear he;generalize l0++xW (pre.map (·.2))=L1 at *;obtain ⟨x1,x2,x3,x4⟩:=x;simp only at *;have hBB:=Nat.le_trans hB hB1.size;gi_wp2_with (gi_at_builtin;refine wpListIn_append_own _ rfl _ _ 25 rfl B 3 i0 (.int .i64 0) 1 8 Tryz.underlying25 hi hz0 hz1 hz2 rfl (by decide) _ _ _ rfl (hrow.alloc _) ⟨W1.heap.size,0,none⟩ 1 1 [.int .i64 (wrap64 (wrap64 (2*x2)+1))] rfl rfl (cell_one_new _ _ _) (by simp [Value.oneCell']) (by unfold maxLen;omega) (by omega) (by simp;omega) ?_;intro v' w1 hown' hgrow _;obtain ⟨g',cap',rfl⟩:=ownsRow_succ hown';obtain ⟨hv1,hv2,hr2,hk2,hb2⟩:=hv.appended (by decide) hrow hBB hBl hown' hgrow;have hc1:=hv1.cell;have hf1:=hv1.frozen);have hbs1:=((hbs.alloc _).kept hgrow (hbs.not_row (by decide) hrow)).other (B':=Bl) (fun e=>hne e.symm) (.slice (some ⟨g',0,none⟩) (L1.length+1) cap');refine ⟨hk2.from _,⟨hb2,?_⟩,⟨_,hv2,by rw [HF.out,yW,List.length_append];exact hr2,trivial⟩,hbs1,hB1.trans hb2⟩;exact (show _=_ from hbs1).trans (show _=_ from hbs).symm
 case done=>
  rintro D ys W1 hD rfl ⟨⟨v,hv,hrow,_⟩,hbs,hB1⟩ hK;rw [iO] at hrow;exact hQ D W1 v hD hB1 hK hv hrow
 case stop=>
  rintro D c pre W1 _ _ h _;exact h.elim
def Qy(l:List Int)(e:List Itm):List Int:=l.map (fun i=>wrap64 (2*i))++xW e.reverse
def yo(n:Nat)(outs:List (List Int))(en:List (List Itm)):List (List Int):=(List.range n).map fun x=>Qy (outs.getD x []) (en.getD x [])
theorem UI{n:Nat}{es:List (Int×Int)}{outs:List (List Int)}:∀(ord:List Int) (r:List Itm) (pl:List Int) (en:List (List Itm)) (c:Nat) (r':List Itm) (pl':List Int) (en':List (List Itm)),ord.foldl (kt es outs) (some (r,pl,en))=some (r',pl',en')→(∀l∈outs,l.length≤c)→r.length≤n→(∀l∈en,l.length≤n+ord.length*(c+1))→(∀l∈en',l.length≤n+ord.length*(c+1))
 | [],_,_,_,_,_,_,_,h,_,_,he=>by
  injection h with h;injection h with _ h;injection h with _ h;subst h;exact he
 | x::ord,r,pl,en,c,r',pl',en',h,hc,hr,he=>by
  rw [List.foldl_cons] at h;by_cases hrd:qT es r pl x.toNat=true
  ·have h0:kt es outs (some (r,pl,en)) x=some (yf es r x.toNat (outs.getD x.toNat []),pl++[((x.toNat:Nat):Int)],en.set x.toNat (zA r x.toNat)):=by simp only [kt];rw [if_pos hrd]
   rw [h0] at h
   have hx:(outs.getD x.toNat []).length≤c:=by
    rw [List.getD_eq_getElem?_getD]
    cases ho:outs[x.toNat]? with
    | none=>simp
    | some l=>exact hc l (List.mem_of_getElem? ho)
   have hp:=uM (es:=es) (r:=r) (x:=x.toNat) (outs:=outs.getD x.toNat []);have hk:n+(c+1)+ord.length*(c+1)=n+(x::ord).length*(c+1):=by rw [List.length_cons,Nat.add_one_mul];omega
   have:=UI (n:=n+(c+1)) ord _ _ _ c r' pl' en' h hc (by omega) (fun l hl=>by
    rw [hk];rcases List.mem_or_eq_of_mem_set hl with h1 | h1
    ·exact he l h1
    ·subst h1;have:(zA r x.toNat).length≤r.length:=by unfold zA;rw [List.length_drop,List.length_take];omega
     omega)
   rw [hk] at this;exact this
  ·have h0:kt es outs (some (r,pl,en)) x=none:=by simp only [kt];rw [if_neg hrd]
   rw [h0,Vh] at h
   cases h
theorem aR{n:Nat}{es:List (Int×Int)}{ord:List Int}{outs:List (List Int)}{en:List (List Itm)}(h:xk n es ord outs=some en)(hn:n≤64)(hl:es.length≤500):∀l∈en,l.length≤50000:=by
 unfold xk at h;by_cases h2:ofB n es ord outs=true
 ·rw [if_pos h2] at h;obtain ⟨h3,h4,_,h5⟩:=kp.1 h2
  cases hr:Qd n es outs ord with
  | none=>rw [hr] at h;cases h
  | some st=>
   obtain ⟨r,pl,en'⟩:=st;rw [hr] at h;injection h with h;subst h
   have:=UI (n:=0) ord [] [] (List.replicate n []) 500 r pl en' hr (fun l hm=>by
    obtain ⟨x,hx,rfl⟩:=List.getElem_of_mem hm;have h6:=congrArg List.length (h5 x (by omega));rw [List.length_mergeSort,List.getD_eq_getElem?_getD,List.getElem?_eq_getElem hx,Option.getD_some] at h6;have:=qd es Prod.fst (x:Nat) es.length
    omega) (Nat.le_refl _) (fun l hm=>by rw [(List.mem_replicate.1 hm).2];simp)
   intro l hm;have h7:=this l hm;rw [h4] at h7;have:n*501≤64*501:=Nat.mul_le_mul_right _ hn;omega
 ·rw [if_neg h2] at h;cases h
theorem dd{w:World}{base size n D:Nat}{t:TypeId}{v:Value}{xs:List Value}{o:Obj}(h:w.ownsRow base t size v n xs)(ho:w.heap[D]? = some o)(hc:o.isCells=false):some D≠v.ownBlock:=by
 rcases h.2 with ⟨rfl,_⟩ | ⟨g,cap,cur,rfl,_,hgb,_⟩
 ·simp [Value.ownBlock]
 ·intro e;have:D=g:=by simpa [Value.ownBlock] using e
  subst this;rw [hgb] at ho;cases ho;cases hc
theorem nj{w w':World}{base size n:Nat}{t:TypeId}{v:Value}{xs:List Value}(h:w.ownsRow base t size v n xs)(hc:∀(k:Nat) (cs:Array Value) (t:TypeId) (fr:Nat×Nat),w.heap[k]? = some (Obj.cells cs t fr)→w'.heap[k]? = w.heap[k]?):w'.ownsRow base t size v n xs:=by
 obtain ⟨h1,h2⟩:=h;refine ⟨h1,?_⟩;rcases h2 with h2 | ⟨g,cap,cur,hv,hg,hh,r⟩
 ·exact .inl h2
 ·exact .inr ⟨g,cap,cur,hv,hg,by rw [hc g _ _ _ hh];exact hh,r⟩
def cG(N m V cu:Nat)(U:Option Addr)(outs:List (List Int))(en:List (List Itm))(wS:World)(a:Act)(w:World):Prop:=
 ∃(i:Nat) (v9:Value) (u0 u1 u2 u3 u4 u5 u7 u8 u10 u11 u12 u13 u14 u15 u16 u17 u18 u19 u20 u21 u22 u23 u24 u25 u26 u27 u31 u32 u33 u34 u35 u36 u37 u38 u39 u40 u41 u42 u43 u44 u45 u46 u47 u48 u49 u50 u51 u52 u53 u54 u55 u56 u57 u58 u59 u60 u61 u62 u63 u64 u65 u66 u67 u68 u69:Value) (Ds:List Nat),a=⟨#[u0,u1,u2,u3,u4,u5,.slice (some ⟨V,0,none⟩) N N,u7,u8,v9,u10,u11,u12,u13,u14,u15,u16,u17,u18,u19,u20,u21,u22,u23,u24,u25,u26,u27,.slice U m cu,.int .i64 m,.int .i64 i,u31,u32,u33,u34,u35,u36,u37,u38,u39,u40,u41,u42,u43,u44,u45,u46,u47,u48,u49,u50,u51,u52,u53,u54,u55,u56,u57,u58,u59,u60,u61,u62,u63,u64,u65,u66,u67,u68,u69],Ds.map cD⟩∧i≤m∧YT w wS.heap.size v9 ((yo N outs en).take i)∧Below wS.heap.size wS w∧Ds.Nodup ∧ ∀D∈Ds,wS.heap.size≤D∧w.heap[D]? = some (.deferred (some []))
theorem cG.intro{N m V cu:Nat}{U:Option Addr}{outs:List (List Int)}{en:List (List Itm)}{wS w:World}{i:Nat}{v9 u0 u1 u2 u3 u4 u5 u7 u8 u10 u11 u12 u13 u14 u15 u16 u17 u18 u19 u20 u21 u22 u23 u24 u25 u26 u27 u31 u32 u33 u34 u35 u36 u37 u38 u39 u40 u41 u42 u43 u44 u45 u46 u47 u48 u49 u50 u51 u52 u53 u54 u55 u56 u57 u58 u59 u60 u61 u62 u63 u64 u65 u66 u67 u68 u69:Value}{Ds:List Nat}(h1:i≤m)(h2:YT w wS.heap.size v9 ((yo N outs en).take i))(h3:Below wS.heap.size wS w)(h4:Ds.Nodup)(h5:∀D∈Ds,wS.heap.size≤D∧w.heap[D]? = some (.deferred (some []))) :
  cG N m V cu U outs en wS ⟨#[u0,u1,u2,u3,u4,u5,.slice (some ⟨V,0,none⟩) N N,u7,u8,v9,u10,u11,u12,u13,u14,u15,u16,u17,u18,u19,u20,u21,u22,u23,u24,u25,u26,u27,.slice U m cu,.int .i64 m,.int .i64 i,u31,u32,u33,u34,u35,u36,u37,u38,u39,u40,u41,u42,u43,u44,u45,u46,u47,u48,u49,u50,u51,u52,u53,u54,u55,u56,u57,u58,u59,u60,u61,u62,u63,u64,u65,u66,u67,u68,u69],Ds.map cD⟩ w:=⟨i,v9,u0,u1,u2,u3,u4,u5,u7,u8,u10,u11,u12,u13,u14,u15,u16,u17,u18,u19,u20,u21,u22,u23,u24,u25,u26,u27,u31,u32,u33,u34,u35,u36,u37,u38,u39,u40,u41,u42,u43,u44,u45,u46,u47,u48,u49,u50,u51,u52,u53,u54,u55,u56,u57,u58,u59,u60,u61,u62,u63,u64,u65,u66,u67,u68,u69,Ds,rfl,h1,h2,h3,h4,h5⟩
def ne(m:Nat)(a:Act):Nat:=m-(intOf (a.tmps.getD 30 undef)).toNat
theorem oP:(Tryz.prog.info? 25).map (fun i=>(i.zero,i.size,i.bytes))=some (some (.slice none 0 0),1,24):=by kernel_rfl
def mW(n:Int)(es:List (Int×Int))(ord:List Int)(outs:List (List Int))(w:World)(e:Ending)(w':World):Prop:=
 Below w.heap.size w w'∧((∃en C c,GoodP n es∧xk n.toNat es ord outs=some en∧e = .returned (.tuple #[.slice C n.toNat c,.int .i64 0])∧vn w' w'.heap.size C (yo n.toNat outs en)) ∨
  (¬(GoodP n es∧(xk n.toNat es ord outs).isSome=true)∧e = .returned (.tuple #[.slice none 0 0,.int .i64 1])))
set_option maxRecDepth 100000 in
set_option maxHeartbeats 8000000 in
theorem KD(n:Int)(A O U:Option Addr)(cap co cu:Nat)(es:List (Int×Int))(ord:List Int)(outs:List (List Int))(w:World)(hes:jr w w.heap.size A (jA es))(hcap:es.length≤cap)(hO:jr w w.heap.size O (jf ord))(hU:qm w w.heap.size U outs)(hl:es.length≤500)(hol:∀l∈outs,l.length≤1000) :
  Calls Tryz.prog 9 #[.agg #[.int .i64 n,.slice A es.length cap],.agg #[.slice O ord.length co,.slice U outs.length cu]] w (mW n es ord outs w):=by
 obtain ⟨wb,hwb⟩:∃wb,wb=w.alloc (.cells #[.int .i64 n,.slice A es.length cap] 24):=⟨_,rfl⟩;have hb0:Below w.heap.size w wb:=by rw [hwb];exact (Below.refl _ _).alloc (Nat.le_refl _) _
 have hz0:wb.heap.size=w.heap.size+1:=by rw [hwb];simp
 have hGB:Blk wb w.heap.size 24 #[.int .i64 n,.slice A es.length cap]:=by rw [hwb];exact Blk.new _ _ _
 have S1:=Lib.hid (PlanS.start (w:=wb) co cu ((hO.below hb0).more hb0.size) ((hU.below hb0).more hb0.size));have HES0:=Lib.hid ((hes.below hb0).more hb0.size);have HGB0:=Lib.hid hGB;have HB0:=Lib.hid hb0;have HOL:=Lib.hid hol;clear hes hO hU hol hGB hb0;refine (callsIn_wide (n:=10)).1 ?_;refine callsIn_of_wp_marks Tryz.func9 rfl trivial ?_ rfl;simp only [Tryz.ntmps9,List.size_toArray,List.length_cons,List.length_nil,Nat.reduceAdd,Nat.reduceSub,Array.replicate_succ,Array.replicate_zero,List.push_toArray,List.append_toArray,List.nil_append,List.cons_append];obtain ⟨gG,hgG⟩:∃g,g=w.heap.size:=⟨_,rfl⟩;obtain ⟨gP,hgP⟩:∃g,g=wb.heap.size:=⟨_,rfl⟩;rw [←hgP] at S1;rw [←hgG] at HGB0;have hb1:=S1.out.bel;have HGB1:=Lib.hid (HGB0.out.below hb1 HGB0.out.lt);have HES1:=Lib.hid ((HES0.out.below hb1).more hb1.size);gi_wp2_with fail;refine ⟨trivial,?_⟩;rw [←hwb];rw [show w.heap.size+1=gP by omega,←hgG];obtain ⟨w1,hw1⟩:∃w1,w1=wb.alloc (.cells #[.slice O ord.length co,.slice U outs.length cu] 28):=⟨_,rfl⟩;rw [←hw1] at S1 HGB1 HES1 hb1 ⊢;have HGG:=Lib.hid (And.intro hgG hgP);have HB1:=Lib.hid (HB0.out.trans (hb1.mono HB0.out.size));clear hw1 hwb hgG hgP hz0 hb1;refine (callsIn_wide.2 (fZ n A O U cap co cu es ord outs w1 HES1.out hcap S1.out.o S1.out.u hl (fun l hl=>by have:=HOL.out l hl;omega))).mono ?_;rintro e w2 ⟨hb2,hcase⟩;have SP2:=Lib.hid (S1.out.next hb2);have HB2:=Lib.hid (HB1.out.trans (hb2.mono HB1.out.size));clear hb2;rcases hcase with ⟨en,V,L,hgd,hrun,henl,rfl,hir⟩ | ⟨hno,c,a,hc,rfl⟩
 ·have HRUN:=Lib.hid (And.intro hgd hrun);have HENL:=Lib.hid henl;have HIR:=Lib.hid hir;obtain ⟨N,hN⟩:∃N:Nat,N=n.toNat:=⟨_,rfl⟩;rw [←hN] at HENL HRUN ⊢;have HNN:=Lib.hid hN
  have HOF:=Lib.hid (show ofB N es ord outs=true by
   have h:=HRUN.out.2;unfold xk at h;by_cases h2:ofB N es ord outs=true
   ·exact h2
   ·rw [if_neg h2] at h;cases h)
  obtain ⟨m,hm⟩:∃m,m=outs.length:=⟨_,rfl⟩;have HM:=Lib.hid hm;have HEL:=Lib.hid (aR hrun (by have:=(jP hgd.may).2.1;omega) hl);have HMN:=Lib.hid (show m=N by rw [hm];exact (kp.1 HOF.out).1)
  have hm64:m≤64:=by
   have h1:=(jP hgd.may).2.1;have h2:=HMN.out;omega
  rw [←hm];clear hgd hrun henl hir hN hm;have zp1:=SP2.out.p1;have hgPl:=SP2.out.b.lt;rw [←show m=outs.length from HM.out] at zp1;gi_wp2_with fail;clear zp1;obtain ⟨wS,hwS⟩:∃wS,wS=w2.alloc (.cells #[.int .i64 0,.int .i64 0,.slice none 0 0] 74):=⟨_,rfl⟩;have hbS:Below w2.heap.size w2 wS:=by rw [hwS];exact (Below.refl _ _).alloc (Nat.le_refl _) _
  rw [←hwS];have HUS:=Lib.hid ((SP2.out.u.below hbS).more hbS.size);have HIS:=Lib.hid ((HIR.out.below hbS).more hbS.size);have HBS:=Lib.hid (HB2.out.trans (hbS.mono HB2.out.size));clear hwS hbS;refine wpIn_loop (cG N m V cu U outs en wS) (fun a _=>ne m a) ?_ ?_
  ·exact cG.intro (i:=0) (Ds:=[]) (Nat.zero_le _) (YT.nil _ _) (Below.refl _ _) List.nodup_nil (fun D h=>absurd h (by simp))
  rintro a wo ⟨i,v9,u0,u1,u2,u3,u4,u5,u7,u8,u10,u11,u12,u13,u14,u15,u16,u17,u18,u19,u20,u21,u22,u23,u24,u25,u26,u27,u31,u32,u33,u34,u35,u36,u37,u38,u39,u40,u41,u42,u43,u44,u45,u46,u47,u48,u49,u50,u51,u52,u53,u54,u55,u56,u57,u58,u59,u60,u61,u62,u63,u64,u65,u66,u67,u68,u69,Ds,rfl,hi,hout,hbel,hnd,hds⟩;have HOUT:=Lib.hid hout;have HBEL:=Lib.hid hbel;have HDS:=Lib.hid (And.intro hnd hds);obtain ⟨ds,hds0⟩:∃ds,ds=Ds.map cD:=⟨_,rfl⟩;have HDS0:=Lib.hid hds0;rw [←hds0];clear hout hbel hnd hds hds0;by_cases hlt:i<m
  ·have hlt':(i:Int)<m:=by omega
   have hou:i<outs.length:=by rw [←HM.out];exact hlt
   have hie:i<en.length:=by rw [HENL.out,←HMN.out];exact hlt
   have hiN:(i:Int)<N:=by have:=HMN.out;omega
   obtain ⟨bu,ou,eu,hbu,hcu⟩:=(HUS.out.below HBEL.out) (by omega);subst eu;obtain ⟨Al,cl,c0,hCl⟩:=hcu i hou;obtain ⟨bV,oV,eV,hbV,hcV⟩:=(HIS.out.below HBEL.out) (by omega);injection eV with eV;injection eV with eV1 eV2 _;subst eV1 eV2;obtain ⟨Ae,ce,d0,hCe⟩:=hcV i hie;rw [Nat.zero_add] at d0;have HCL:=Lib.hid hCl;have HCE:=Lib.hid hCe
   have HL1:=Lib.hid (show (yo N outs en).take (i+1)=(yo N outs en).take i++[Qy outs[i] en[i]] by
    have h1:i<(yo N outs en).length:=by simp [yo];have:=HMN.out;omega
    rw [List.take_succ_eq_append_getElem h1];congr 2
    simp [yo,hou,hie])
   have HTL:=Lib.hid (show ((yo N outs en).take i).length=i by simp [yo];have:=HMN.out;omega);have hll:=HOL.out outs[i] (List.getElem_mem hou);have hel:=HEL.out en[i] (List.getElem_mem hie);clear hcu hcV hCl hCe;generalize outs[i]=l at *;generalize en[i]=r at *;clear hou hie;have hbuw:bu<wo.heap.size:=Nat.lt_of_lt_of_le hbu HBEL.out.size;have hbVw:V<wo.heap.size:=Nat.lt_of_lt_of_le hbV HBEL.out.size;gi_wp2_with fail;have hBx:=Boxed.new wo 25 (.slice none 0 0);have hkx:=(Below.refl wo.heap.size wo).alloc (Nat.le_refl _) (.cells #[.slice none 0 0] 25);generalize wo.alloc (.cells #[.slice none 0 0] 25)=wx at *;obtain ⟨fF,hfF⟩:∃f:Int→Int,f=fun i=>wrap64 (2*i):=⟨_,rfl⟩;have HFF:=Lib.hid hfF;clear hfF
   gi_loopw [37] (fun s wr=>∃(j:Nat) (v:Value),s = .int .i64 j∧j≤l.length∧Below wo.heap.size wo wr∧Boxed wr wo.heap.size 25 v∧wr.ownsRow wo.heap.size 3 1 v j (jf ((l.map fF).take j))) (fun s _=>l.length-(intOf s).toNat)
   case atStart=>exact ⟨0,.slice none 0 0,rfl,Nat.zero_le _,hkx,hBx,World.ownsRow_nil _ _ _ _⟩
   case round=>
    obtain ⟨j,v,rfl,hj,hbq,hbox,hrow⟩:=hrel;have HBQ:=Lib.hid hbq;by_cases hlt2:j<l.length
    ·have hlt2':(j:Int)<l.length:=by omega
     obtain ⟨bl,ol,el,hbl,hcl⟩:=HCL.out.ints (by omega);subst el;have c1:=(hbq.cell (p:=⟨bl,ol+j,none⟩) (Nat.lt_of_lt_of_le hbl HBEL.out.size)).trans (hcl j hlt2)
     have HS:=Lib.hid (show (l.map fF).take (j+1)=(l.map fF).take j++[wrap64 (2*l[j])] by
      rw [List.take_succ_eq_append_getElem (by simpa using hlt2),List.getElem_map,HFF.out])
     have hcb:=hbox.cell;have hqs:=hbq.size;clear hcl hbq;generalize l[j]=x at *;generalize (l.map fF).take j=L1 at *;obtain ⟨i0,hi0,hz0,hz1,hz2⟩:=info_parts Gr;gi_wp2_with (gi_at_builtin;refine wpListIn_append_own _ rfl _ _ 25 rfl wo.heap.size 3 i0 (.int .i64 0) 1 8 Tryz.underlying25 hi0 hz0 hz1 hz2 rfl (by decide) _ _ _ rfl (hrow.alloc _) ⟨wr.heap.size,0,none⟩ 1 1 [.int .i64 (wrap64 (2*x))] rfl rfl (cell_one_new _ _ _) (by simp [Value.oneCell']) (by unfold maxLen;omega) (by omega) (by simp;omega) ?_;intro v' w1 hown' hgrow _;obtain ⟨g',cap',rfl⟩:=ownsRow_succ hown';obtain ⟨hv1,hv2,hr2,hk2,hb2⟩:=hbox.appended (by decide) hrow hqs (Nat.le_refl _) hown' hgrow;have hc1:=hv1.cell;have hf1:=hv1.frozen);have HBQ2:=Lib.hid (HBQ.out.trans hb2)
     go_roundw
     case rel=>exact ⟨j+1,_,by go_num,by omega,HBQ2.out,hv2,by rw [HS.out,yW];exact hr2⟩
     case measure=>simp [intOf];omega
    ·have hlt2':¬(j:Int)<l.length:=by omega
     have HE2:=Lib.hid (show (l.map fF).take j=l.map fF by rw [List.take_of_length_le (by simp;omega)]);have HJ:=Lib.hid (show j=l.length by omega);have d1:=(hbq.cell (p:=⟨V,i,none⟩) hbVw).trans d0;have HBX:=Lib.hid hbox;have HRW:=Lib.hid hrow;clear hbq hbox hrow;gi_wp2_with fail;refine ⟨trivial,?_⟩;refine (callsIn_wide.2 (mS Ae r.length ce wr)).mono ?_;rintro e w7 ⟨rfl,rfl⟩;gi_wp2_with fail;have hkq:=(Below.refl wr.heap.size wr).alloc (Nat.le_refl _) (.cells #[.slice Ae r.length ce] 41);have HB7:=Lib.hid ((HBQ.out.trans (hkq.mono HBQ.out.size)))
     refine ly 10 (by omega) _ _ _ _ _ _ _ _ _ _ _ _ _ _ _ _ _ _ _ _ _ _ _ _ _ _ _ _ _ _ _ _ _ _ _ _ _ _ _ _ _ _ _ _ _ _ _ _ _ _ _ _ _ _ _ _ _ _ _ _ _ _ _ _ _ _ _ _ _ ds _ wo.heap.size wo.heap.size wr.heap.size Ae ce r (l.map fF) v (HBX.out.alloc _) (by
      have:=HRW.out.alloc (.cells #[.slice Ae r.length ce] 41);rw [HE2.out,HJ.out] at this;rw [List.length_map]
      exact this) (Nat.le_refl _) (Boxed.new wr 41 (.slice Ae r.length ce)) HBQ.out.size HB7.out.size ((HCE.out.more HBEL.out.size).below HB7.out) hel (by rw [List.length_map];omega) ?_
     intro D W7 v7 hD hb7 hK7 hbox7 hrow7;obtain ⟨A7,c7,rfl⟩:=jv hrow7;have HB78:=Lib.hid (HB7.out.trans hb7);obtain ⟨vals,hvl,hv9,hvr⟩:=HOUT.out.below HB78.out (Nat.le_refl _);have HVR:=Lib.hid hvr;have HVL:=Lib.hid hvl;have hcb7:=hbox7.cell;have HROW7:=Lib.hid hrow7;have HK7:=Lib.hid hK7;have HD7:=Lib.hid (show wo.heap.size≤D by have:=HB7.out.size;omega);have hs7:=HB78.out.size;have hs7':wS.heap.size≤W7.heap.size:=Nat.le_trans HBEL.out.size hs7;have HV9:=Lib.hid hv9;have hti:((yo N outs en).take i).length≤64:=by rw [HTL.out];omega
     rw [HTL.out] at hv9;obtain ⟨n7,hn7⟩:∃n7,n7=(l.map fF++xW r.reverse).length:=⟨_,rfl⟩;rw [←hn7] at hcb7 HROW7;have HN7:=Lib.hid hn7.symm;clear hn7;obtain ⟨i9,hi9,hy0,hy1,hy2⟩:=info_parts oP;clear hvr hvl hK7 hrow7 hb7 d1 d0 c0;gi_wp2_with (gi_at_builtin;refine wpListIn_append_own _ rfl _ _ 31 rfl wS.heap.size 25 i9 (.slice none 0 0) 1 24 Tryz.underlying31 hi9 hy0 hy1 hy2 rfl (by decide) _ _ _ rfl (hv9.alloc _) ⟨W7.heap.size,0,none⟩ 1 1 [.slice A7 n7 c7] rfl rfl (cell_one_new _ _ _) (by simp [Value.oneCell']) (by unfold maxLen;omega) (by omega) (by simp;omega) ?_;intro v' w1 hown' hgrow _);have hEV:=(Evo.of_below (B:=wS.heap.size) (T:=[25]) ((Below.refl W7.heap.size W7).alloc (Nat.le_refl _) (.cells #[.slice A7 n7 c7] 25))).trans (Evo.of_grown (hv9.alloc _) hgrow (List.mem_singleton.2 rfl) (Nat.le_refl _))
     have hkeep:∀E,W7.heap[E]? = some (Obj.deferred (some []))→w1.heap[E]? = some (Obj.deferred (some [])):=fun E hE=>by
      have h1:=(Array.getElem?_eq_some_iff.1 hE).1;rw [hgrow.block E (by simp;omega) (dd (hv9.alloc (.cells #[.slice A7 n7 c7] 25)) ((Below.heap_alloc W7 _ E h1).trans hE) rfl),Below.heap_alloc W7 _ E h1];exact hE
     refine ⟨?_,by simp [ne,intOf];omega⟩;rw [HDS0.out,show ((i:Int)+1)=((i+1:Nat):Int) by omega];refine cG.intro (i:=i+1) (Ds:=D::Ds) (by omega) ?_ ?_ ?_ ?_
     ·rw [HL1.out];refine ⟨vals++[.slice A7 n7 c7],by rw [List.length_append,List.length_append,HVL.out];rfl,?_,fun k k1 k2=>?_⟩
      ·rw [List.length_append,HTL.out];exact hown'
      ·by_cases hk:k<vals.length
       ·rw [List.getElem_append_left hk,List.getElem_append_left (by rw [←HVL.out];exact hk)];exact qA (HVR.out k hk (by rw [←HVL.out];exact hk)) hEV (by decide)
       ·have hke:k=vals.length:=by rw [List.length_append] at k1;simp at k1;omega
        subst hke;rw [List.getElem_append_right (Nat.le_refl _),List.getElem_append_right (by rw [HVL.out];exact Nat.le_refl _)];simp only [Nat.sub_self,HVL.out,List.getElem_cons_zero];have h1:=qh (qA HROW7.out hEV (by decide)) HBEL.out.size;rw [HFF.out] at h1;have h2:(Qy l r).length=n7:=by rw [←HN7.out,HFF.out];rfl
        rw [h2];exact h1
     ·exact HBEL.out.trans ((HB78.out.mono HBEL.out.size).trans (hEV.below hs7'))
     ·exact List.nodup_cons.2 ⟨fun hm=>by
       have h1:=(Array.getElem?_eq_some_iff.1 (HDS.out.2 D hm).2).1;have:=HD7.out
       omega,HDS.out.1⟩
     ·intro E hE;rcases List.mem_cons.1 hE with rfl | hE
      ·exact ⟨Nat.le_trans HBEL.out.size HD7.out,hkeep _ HK7.out⟩
      ·have h1:=HDS.out.2 E hE;exact ⟨h1.1,hkeep E ((HB78.out.block E (Array.getElem?_eq_some_iff.1 h1.2).1).trans h1.2)⟩
  ·have hlt':¬(i:Int)<m:=by omega
   have hie:i=m:=by omega
   have HIE:=Lib.hid (show (yo N outs en).take i=yo N outs en from List.take_of_length_le (by simp [yo];have:=HMN.out;omega));clear hie;obtain ⟨vals,hvl,hv9,hvr⟩:=HOUT.out;have HTL:=Lib.hid (show ((yo N outs en).take i).length=N by rw [HIE.out];simp [yo]);rw [HTL.out] at hv9;obtain ⟨A9,c9,rfl⟩:=jv hv9;have HV9:=Lib.hid hv9;have HVR:=Lib.hid (And.intro hvl hvr);clear hvl hv9 hvr;gi_wp2_with fail
   show LeavesInM _ _ _ _ _ _ _ _ _
   rw [HDS0.out];refine Zq Ds wS.heap.size wo HDS.out.2 HDS.out.1 (fun w' hb' hc'=>?_)
   have HOW:=Lib.hid (show YT w' wS.heap.size (.slice A9 N c9) (yo N outs en) from by
    refine ⟨vals,by rw [HVR.out.1,HIE.out],?_,fun k k1 k2=>?_⟩
    ·have h1:=nj HV9.out hc';rw [show (yo N outs en).length=N by simp [yo]];exact h1
    ·have h1:=nj (HVR.out.2 k k1 (by rw [HIE.out];exact k2)) hc';simp only [HIE.out] at h1
     exact h1)
   refine ⟨_,results_tmp2 rfl _ _ _,HBS.out.trans ((HBEL.out.trans hb').mono HBS.out.size),.inl ⟨en,A9,c9,HRUN.out.1,?_,?_,by rw [←HNN.out];exact HOW.out.atC⟩⟩
   ·rw [←HNN.out];exact HRUN.out.2
   ·rw [←HNN.out];rfl
 ·have HNO:=Lib.hid hno;have hc':(c != 0)=true:=by simp [hc]
  have HB3:=Lib.hid (HB2.out.alloc HB2.out.size (.cells #[.int .i64 c,.int .i64 a,.slice none 0 0] 74));clear hno hc;gi_wp2_with fail;exact ⟨_,results_tmp2 rfl _ _ _,HB3.out,.inr ⟨HNO.out,rfl⟩⟩
end Go.Proofs.YtneeknlhlkpnpaaGreat
