import Derived.Carry
import Derived.Test.YtneeknlhlkpnpaaGreatZFrm
import Derived.Test.YtneeknlhlkpnpaaGreatZShiftLaw
/-
 ForestShifts: for every graph, every plan and every number the law returns true, and its arguments read behind the call as they did. Conditions: none.
-/
namespace Go.Proofs.YtneeknlhlkpnpaaGreat.forestShifts
open Go.ChangeShapes Go.WideShapes Go.ChangeAt Go.RowKit
set_option maxRecDepth 100000 in
theorem lifted(os:Os)(started:os.Started)(H:Type)(enc:TypeId×Value→H) :
  ReturnsInHanded {} Tryz.checked os 3 .any (Rows.forestShiftsSpec.pre6 enc Tryz.prog Tryz.f3 Rows.forestShiftsRow.domain false) (Rows.forestShiftsSpec.post enc Tryz.prog Tryz.f3 false true false false):=by
 refine returnsInHanded_of_change (C:=Tryz.checked) own started (by kernel_rfl) Tryz.func3
  (ChangeSpec.witness6 (enc:=enc) (C:=Tryz.checked) false ⟨#[],#[.agg #[.int .i64 0,.slice none 0 0],.agg #[.slice none 0 0,.slice none 0 0],.int .i64 0],[]⟩ 8 (by kernel_rfl) (by kernel_rfl) (by kernel_rfl) (by kernel_rfl)) ?_
 intro W base args ds gs before hval0 hW hcnd _;have hval:∀(j:Nat) t v,Tryz.f3.params[j]? = some t→args[j]? = some v→Value.okWide Tryz.prog W .any base t v:=hval0;have hW':=hW;obtain ⟨p,q,hA0,hV,rfl,hfz,hnd⟩:=hW;have hA:DataW.TrodAll enc Tryz.prog W 0 (fun _=>true) true Tryz.f3.params.toList args.toList ds p:=hA0;rw [Tryz.params3] at hA hval;obtain ⟨v0,v1,v2,d0,d1,d2,p0,p1,p2,rfl,rfl,rfl,h0,h1,h2⟩:=trodAll_three hA;obtain ⟨rfl,rfl⟩:=trodVars_none hV;have hlt:∀x∈p0,x.block<W.heap.size:=fun x hx=>hW'.lt x (by simp [hx]);obtain ⟨O,U,co,cu,ord,outs,rfl,hO,hU⟩:=lV (hval 1 28 v1 rfl rfl) h1;obtain ⟨a,rfl,rfl,rfl,wa⟩:=open_int Tryz.underlying3 (hval 2 3 v2 rfl rfl) h2;obtain ⟨n,A,cap,es,rfl,hes,wn,hl,hcap⟩:=cr (hval 0 24 v0 rfl rfl) h0 hlt;clear hA0 hval0;refine (Hj n A O U cap co cu es ord outs a W hes hcap hO hU).mono fun e W' ⟨he,hbl⟩=>?_;subst he;exact ⟨_,rfl,nU rJ (by kernel_rfl) rfl hW' rfl rfl Tryz.underlying4 hbl⟩
theorem proved:Rows.ForestShiftsSaid:=
 OpenClaim.holds_of_wide 3 Tryz.f3 rfl rfl rfl rfl rfl rfl rfl ⟨rfl,rfl,rfl,rfl,rfl⟩ rfl rfl rfl rfl rfl (by kernel_rfl) Tryz.func3 (by kernel_rfl)
  (of_decide_eq_true (by kernel_rfl)) (by unfold Func.isWrapper;first | (rw [if_pos (by decide +kernel)];kernel_rfl) | (rw [if_neg (by decide +kernel)];exact ⟨rfl,rfl⟩))
  (fun os started H enc _=>lifted os started H enc)
#print axioms proved
end Go.Proofs.YtneeknlhlkpnpaaGreat.forestShifts
