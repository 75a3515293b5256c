/- FnExactInstanceOf returns true for all arguments, and leaves them as they were. No condition. -/
import Derived.Test.YtfnnlipcclklnaaGreatVFnExactInstanceOf
set_option linter.unusedSimpArgs false
set_option linter.unusedVariables false
namespace Go.Proofs.YtfnnlipcclklnaaGreat
open Go.RowKit
set_option maxHeartbeats 40000000 in
theorem FnExactInstanceOf_holds : Rows.FnExactInstanceOfSaid :=
  OpenClaim.holds_of_wide 6 Tryz.f6 rfl rfl rfl rfl rfl rfl rfl ⟨rfl, rfl, rfl, rfl, rfl⟩ rfl rfl rfl rfl rfl (by kernel_rfl) Tryz.func6 (by unfold joinedFacts; (repeat' ((with_reducible refine Bool.and_eq_true_iff.2 (And.intro ?_ ?_)))) <;> (as_aux_lemma => kernel_rfl))
    (of_decide_eq_true (by kernel_rfl)) (by unfold Func.isWrapper; rw [if_neg (of_decide_eq_false (by kernel_rfl))]; exact ⟨rfl, rfl⟩)
    (fun os started H enc _ => FnExactInstanceOf_lift os started H enc)
#print axioms FnExactInstanceOf_holds

end Go.Proofs.YtfnnlipcclklnaaGreat
