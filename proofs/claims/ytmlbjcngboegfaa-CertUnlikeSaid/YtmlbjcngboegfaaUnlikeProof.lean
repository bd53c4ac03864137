/-
  CertUnlike: for every two certificates the law returns true, and its arguments read behind the call as they did. Conditions: none.
-/
import Derived.Test.YtmlbjcngboegfaaFrame
import Derived.Test.YtmlbjcngboegfaaUnlike
namespace Go.Proofs.Ytmlbjcngboegfaa.certUnlike
open Go.ChangeShapes Go.WideShapes Go.ChangeAt Go.RowKit

set_option maxRecDepth 100000 in
theorem lifted (os : Os) (started : os.Started) (H : Type) (enc : TypeId × Value → H) :
    ReturnsInHanded {} Try.checked os 6 .any (Rows.certUnlikeSpec.pre6 enc Try.prog Try.f6 Rows.certUnlikeRow.domain false) (Rows.certUnlikeSpec.post enc Try.prog Try.f6 false true false false) := by
  refine returnsInHanded_of_change (C := Try.checked) own started (by kernel_rfl) Try.func6
    (ChangeSpec.witness6 (enc := enc) (C := Try.checked) false ⟨#[], #[crtVal CV0 (bare 0), crtVal CV0 (bare 0)], []⟩ 8 (by kernel_rfl) (by kernel_rfl) (by kernel_rfl) (by kernel_rfl)) ?_
  intro W base args ds gs before hval0 hW hcnd _
  have hval : ∀ (j : Nat) t v, Try.f6.params[j]? = some t → args[j]? = some v → Value.okWide Try.prog W .any base t v := hval0
  have hW' := hW
  obtain ⟨p, q, hA0, hV, rfl, hfz, hnd⟩ := hW
  have hA : DataW.TrodAll enc Try.prog W 0 (fun _ => true) true Try.f6.params.toList args.toList ds p := hA0
  rw [Try.params6] at hA hval
  obtain ⟨v0, v1, d0, d1, p0, p1, rfl, rfl, rfl, h0, h1⟩ := trodAll_two hA
  obtain ⟨rfl, rfl⟩ := trodVars_none hV
  obtain ⟨V, x, rfl, hx⟩ := open_crt (hval 0 32 v0 rfl rfl) h0
  obtain ⟨U, y, rfl, hy⟩ := open_crt (hval 1 32 v1 rfl rfl) h1
  clear hA0 hval0 hval hA h0 h1
  refine (unlike_any (crtCells V x) (crtCells U y) x y W (callsC hx) (callsC hy) (fun sx w1 hb => same_any V U x y w1 ((hx.below hb).more hb.size) ((hy.below hb).more hb.size) sx)).mono fun e W' ⟨he, hbl⟩ => ?_
  subst he
  exact ⟨_, rfl, law_post laidOut (by kernel_rfl) rfl hW' rfl rfl Try.underlying4 hbl⟩

theorem proved : Rows.CertUnlikeSaid :=
  OpenClaim.holds_of_wide 6 Try.f6 rfl rfl rfl rfl rfl rfl rfl ⟨rfl, rfl, rfl, rfl, rfl⟩ rfl rfl rfl rfl rfl (by kernel_rfl) Try.func6 (by kernel_rfl)
    (of_decide_eq_true (by kernel_rfl)) (by unfold Func.isWrapper; first | (rw [if_pos (by decide +kernel)]; kernel_rfl) | (rw [if_neg (by decide +kernel)]; exact ⟨rfl, rfl⟩))
    (fun os started H enc _ => lifted os started H enc)
#print axioms proved
end Go.Proofs.Ytmlbjcngboegfaa.certUnlike
