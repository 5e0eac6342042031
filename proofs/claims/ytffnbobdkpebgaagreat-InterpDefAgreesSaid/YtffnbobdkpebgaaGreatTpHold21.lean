/- InterpDefAgrees returns true for every law, scope, case and definition, and its arguments read as they did. There is no condition. -/
import Derived.Test.YtffnbobdkpebgaaGreatTpLift21
set_option linter.unusedVariables false
namespace Go.Proofs.YtffnbobdkpebgaaGreat
open Go Go.Ab
set_option maxRecDepth 100000 in
theorem jf_inPlace : (Rows.interpDefAgreesRow.inPlace == Tryz.checked.prog.inPlace 8) = true := by kernel_rfl
set_option maxRecDepth 100000 in
theorem jf_unfollowed : (Rows.interpDefAgreesRow.unfollowed == Tryz.checked.prog.unfollowed 8) = true := by kernel_rfl
set_option maxRecDepth 100000 in
theorem jf_recurses : (Rows.interpDefAgreesRow.recurses == Tryz.checked.prog.recurses 8) = true := by kernel_rfl
set_option maxRecDepth 100000 in
theorem jf_named : (Rows.interpDefAgreesRow.named == Tryz.checked.prog.varsNamed 8) = true := by kernel_rfl
theorem and_t {a b : Bool} (ha : a = true) (hb : b = true) : (a && b) = true := by rw [ha, hb]; rfl
set_option maxRecDepth 100000 in
theorem jf : joinedFacts Tryz.checked.prog 8 Tryz.f8 Rows.interpDefAgreesSpec Rows.interpDefAgreesRow = true := by
 unfold joinedFacts
 refine and_t (and_t (and_t (and_t (and_t (and_t (and_t (and_t (and_t (and_t (and_t (and_t (and_t (and_t (and_t (and_t (and_t (and_t (and_t (and_t (and_t (and_t (and_t (and_t (and_t (and_t (and_t (and_t (and_t (and_t (and_t ?_ ?_) ?_) ?_) ?_) ?_) ?_) ?_) ?_) ?_) ?_) ?_) ?_) ?_) ?_) ?_) ?_) ?_) ?_) ?_) ?_) ?_) ?_) ?_) ?_) ?_) ?_) ?_) ?_) ?_) ?_) ?_
 ·kernel_rfl
 ·kernel_rfl
 ·kernel_rfl
 ·kernel_rfl
 ·kernel_rfl
 ·kernel_rfl
 ·kernel_rfl
 ·kernel_rfl
 ·kernel_rfl
 ·exact jf_inPlace
 ·exact jf_unfollowed
 ·exact jf_recurses
 ·exact jf_named
 ·kernel_rfl
 ·kernel_rfl
 ·kernel_rfl
 ·kernel_rfl
 ·kernel_rfl
 ·kernel_rfl
 ·kernel_rfl
 ·kernel_rfl
 ·kernel_rfl
 ·kernel_rfl
 ·kernel_rfl
 ·kernel_rfl
 ·kernel_rfl
 ·kernel_rfl
 ·kernel_rfl
 ·kernel_rfl
 ·kernel_rfl
 ·kernel_rfl
 ·kernel_rfl
theorem interpDefAgrees_holds : Rows.InterpDefAgreesSaid :=
 OpenClaim.holds_of_wide 8 Tryz.f8 rfl rfl rfl rfl rfl rfl rfl ⟨rfl, rfl, rfl, rfl, rfl⟩ rfl rfl rfl rfl rfl (by kernel_rfl) Tryz.func8 jf
  (of_decide_eq_true (by kernel_rfl)) (by unfold Func.isWrapper; first | (rw [if_pos (by decide +kernel)]; kernel_rfl) | (rw [if_neg (by decide +kernel)]; exact ⟨rfl, rfl⟩))
  (fun os started H enc _ => agrees_lifted os started H enc)
end Go.Proofs.YtffnbobdkpebgaaGreat
