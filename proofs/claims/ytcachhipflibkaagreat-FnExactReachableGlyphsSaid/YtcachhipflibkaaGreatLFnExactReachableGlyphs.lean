/- FnExactReachableGlyphs returns true for all arguments, and leaves them as they were. No condition. -/
import Derived.Test.YtcachhipflibkaaGreatVFnExactReachableGlyphs
set_option linter.unusedSimpArgs false
set_option linter.unusedVariables false
namespace Go.Proofs.YtcachhipflibkaaGreat
open Go.RowKit
set_option maxHeartbeats 40000000 in
theorem FnExactReachableGlyphs_holds : Rows.FnExactReachableGlyphsSaid :=
  OpenClaim.holds_of_wide 3 Tryz.f3 rfl rfl rfl rfl rfl rfl rfl ⟨rfl, rfl, rfl, rfl, rfl⟩ rfl rfl rfl rfl rfl (by kernel_rfl) Tryz.func3 (by unfold joinedFacts; (repeat' ((with_reducible refine Bool.and_eq_true_iff.2 (And.intro ?_ ?_)))) <;> (as_aux_lemma => kernel_rfl))
    (of_decide_eq_true (by kernel_rfl)) (by unfold Func.isWrapper; rw [if_neg (of_decide_eq_false (by kernel_rfl))]; exact ⟨rfl, rfl⟩)
    (fun os started H enc _ => FnExactReachableGlyphs_lift os started H enc)
#print axioms FnExactReachableGlyphs_holds

end Go.Proofs.YtcachhipflibkaaGreat
