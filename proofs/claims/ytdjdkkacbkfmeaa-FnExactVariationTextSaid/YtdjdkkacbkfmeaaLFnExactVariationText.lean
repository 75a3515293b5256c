/- FnExactVariationText returns true for all arguments, and leaves them as they were. No condition. -/
import Derived.Test.YtdjdkkacbkfmeaaVtW
import Derived.Test.YtdjdkkacbkfmeaaLV
import Derived.Test.YtdjdkkacbkfmeaaRows
set_option linter.unusedSimpArgs false
set_option linter.unusedVariables false
namespace Go.Proofs.Ytdjdkkacbkfmeaa
open Go.RowKit
set_option maxHeartbeats 4000000 in
theorem FnExactVariationText_v (x0 : TVariation) : PC Try.prog 5 [.d (x0.D)] (.d (.bool true)) [] := by
  refine pc_intro ttOk (by kernel_rfl) Try.func5 rfl (by kernel_rfl) (by kernel_rfl) (by kernel_rfl) (fun hw => ?_)
  by_cases hz0 : (((zVariation x0) : Nat) : Int) ≤ 1048576
  · skip
    (conv => whnf)
    (repeat' (first | (refine stg_ ?_) | (refine cla_ (szVariation_le x0 1048576 (by omega) (by omega) hz0) ?_) | (refine cla_ (toVariation_v x0 (by omega)) ?_) | (refine cla_ (eqVariation_v x0) ?_) | (refine cla_ (specVariationText_v x0) ?_) | (refine cla_ (VariationText_v x0) ?_) | (refine br_ (fun hbr => ?_) (fun hbr => ?_))))
    all_goals first | (exfalso; omega) | (exfalso; simp_all; done) | (refine RetOK.d rfl rfl ?_; conv => whnf)
  · (conv => whnf)
    (repeat' (first | (refine stg_ ?_) | (refine cla_ (szVariation_gt x0 1048576 (by omega) (by omega) (by omega)) ?_) | (refine br_ (fun hbr => ?_) (fun hbr => ?_))))
    all_goals first | (exfalso; omega) | (refine RetOK.d rfl rfl ?_; conv => whnf)

theorem FnExactVariationText_lc : LawCalls Try.prog 5 [25] :=
  law_of_pc ⟨_, _, rfl, (arg_st Try.underlying25 rdt_Variation (by rintro y ⟨x, rfl⟩; rfl)), rfl⟩ (fun ds h => by
    obtain ⟨d0, r0, rfl, ⟨x0, rfl⟩, h0⟩ := h
    cases h0
    exact FnExactVariationText_v x0)
set_option maxRecDepth 100000 in
theorem FnExactVariationText_lift (os : Os) (started : os.Started) (H : Type) (enc : TypeId × Value → H) :
    ReturnsInHanded {} Try.checked os 5 .any (Rows.fnExactVariationTextSpec.pre6 enc Try.prog Try.f5 Rows.fnExactVariationTextRow.domain false) (Rows.fnExactVariationTextSpec.post enc Try.prog Try.f5 false true false false) :=
  law_lift (C := Try.checked) (s := Rows.fnExactVariationTextSpec) (ts := [25]) own laidOut (by kernel_rfl) Try.func5 (by rw [Try.params5]) rfl Try.underlying4
    (by simp only [List.mem_cons, List.not_mem_nil, or_false]; rintro t (rfl) <;> exact ⟨by kernel_rfl, of_decide_eq_true (by kernel_rfl)⟩) rfl
    (fun H ds h => by match ds, h with | [_], _ => exact ⟨rfl, rfl, rfl⟩) FnExactVariationText_lc os started H enc
    (ChangeSpec.witness6 (enc := enc) (C := Try.checked) false ⟨#[], #[.agg #[.slice none 0 0, .slice none 0 0]], []⟩ 8 (by kernel_rfl) (by kernel_rfl) (by kernel_rfl) (by kernel_rfl))
theorem FnExactVariationText_holds : Rows.FnExactVariationTextSaid :=
  OpenClaim.holds_of_wide 5 Try.f5 rfl rfl rfl rfl rfl rfl rfl ⟨rfl, rfl, rfl, rfl, rfl⟩ rfl rfl rfl rfl rfl (by kernel_rfl) Try.func5 (by kernel_rfl)
    (of_decide_eq_true (by kernel_rfl)) (by unfold Func.isWrapper; rw [if_neg (of_decide_eq_false (by kernel_rfl))]; exact ⟨rfl, rfl⟩)
    (fun os started H enc _ => FnExactVariationText_lift os started H enc)
#print axioms FnExactVariationText_holds

end Go.Proofs.Ytdjdkkacbkfmeaa
