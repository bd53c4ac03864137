import Derived.Carry
import Derived.Test.YtneeknlhlkpnpaaGreatZRSp
/-
 RiseBack: for every graph and every list of lists the law returns true, and its arguments read behind the call as they did. Conditions: none.
-/
namespace Go.Proofs.YtneeknlhlkpnpaaGreat.riseBack
open Go.ChangeShapes Go.WideShapes Go.ChangeAt Go.RowKit
set_option maxRecDepth 100000 in
theorem lifted(os:Os)(started:os.Started)(H:Type)(enc:TypeId×Value→H) :
  ReturnsInHanded {} Tryz.checked os 5 .any (Rows.riseBackSpec.pre6 enc Tryz.prog Tryz.f5 Rows.riseBackRow.domain false) (Rows.riseBackSpec.post enc Tryz.prog Tryz.f5 false true false false):=by
 refine returnsInHanded_of_change (C:=Tryz.checked) own started (by kernel_rfl) Tryz.func5
  (ChangeSpec.witness6 (enc:=enc) (C:=Tryz.checked) false ⟨#[],#[.agg #[.int .i64 0,.slice none 0 0],.slice none 0 0],[]⟩ 8 (by kernel_rfl) (by kernel_rfl) (by kernel_rfl) (by kernel_rfl)) ?_
 intro W base args ds gs before hval0 hW hcnd _;have hval:∀(j:Nat) t v,Tryz.f5.params[j]? = some t→args[j]? = some v→Value.okWide Tryz.prog W .any base t v:=hval0;have hW':=hW;obtain ⟨p,q,hA0,hV,rfl,hfz,hnd⟩:=hW;have hA:DataW.TrodAll enc Tryz.prog W 0 (fun _=>true) true Tryz.f5.params.toList args.toList ds p:=hA0;rw [Tryz.params5] at hA hval;obtain ⟨v0,v1,d0,d1,p0,p1,rfl,rfl,rfl,h0,h1⟩:=trodAll_two hA;obtain ⟨rfl,rfl⟩:=trodVars_none hV;have hlt:∀x∈p0,x.block<W.heap.size:=fun x hx=>hW'.lt x (by simp [hx]);obtain ⟨B,cb,rs,rfl,hb⟩:=gX (hval 1 26 v1 rfl rfl) h1;obtain ⟨n,A,cap,es,rfl,hes,wn,hl,hcap⟩:=ao (hval 0 24 v0 rfl rfl) h0 hlt;clear hA0 hval0;refine (aH n A B cap cb es rs W hes hcap hb).mono fun e W' ⟨he,hbl⟩=>?_;subst he;exact ⟨_,rfl,mo oO (by kernel_rfl) rfl hW' rfl rfl Tryz.underlying4 hbl⟩
theorem proved:Rows.RiseBackSaid:=
 OpenClaim.holds_of_wide 5 Tryz.f5 rfl rfl rfl rfl rfl rfl rfl ⟨rfl,rfl,rfl,rfl,rfl⟩ rfl rfl rfl rfl rfl (by kernel_rfl) Tryz.func5 (by kernel_rfl)
  (of_decide_eq_true (by kernel_rfl)) (by unfold Func.isWrapper;first | (rw [if_pos (by decide +kernel)];kernel_rfl) | (rw [if_neg (by decide +kernel)];exact ⟨rfl,rfl⟩))
  (fun os started H enc _=>lifted os started H enc)
#print axioms proved
end Go.Proofs.YtneeknlhlkpnpaaGreat.riseBack
