/- FnExactSameVariation returns true for all arguments, and leaves them as they were. No condition. -/
import Derived.Test.YtdjdkkacbkfmeaaVarD
import Derived.Test.YtdjdkkacbkfmeaaLV
import Derived.Test.YtdjdkkacbkfmeaaRows
set_option linter.unusedSimpArgs false
set_option linter.unusedVariables false
namespace Go.Proofs.Ytdjdkkacbkfmeaa
open Go.RowKit
set_option maxHeartbeats 4000000 in
theorem FnExactSameVariation_v (x0 : TVariation) (x1 : TVariation) : PC Try.prog 3 [.d (x0.D), .d (x1.D)] (.d (.bool true)) [] := by
  refine pc_intro ttOk (by kernel_rfl) Try.func3 rfl (by kernel_rfl) (by kernel_rfl) (by kernel_rfl) (fun hw => ?_)
  by_cases hz0 : (((zVariation x0) : Nat) : Int) ≤ 1048576
  · skip
    by_cases hz1 : (((zVariation x1) : Nat) : Int) ≤ (1048576 - (((zVariation x0) : Nat) : Int))
    · skip
      (conv => whnf)
      (repeat' (first | (refine stg_ ?_) | (refine cla_ (szVariation_le x0 1048576 (by omega) (by omega) hz0) ?_) | (refine cla_ (szVariation_le x1 (1048576 - (((zVariation x0) : Nat) : Int)) (by omega) (by omega) hz1) ?_) | (refine cla_ (toVariation_v x0 (by omega)) ?_) | (refine cla_ (eqVariation_v x0) ?_) | (refine cla_ (toVariation_v x1 (by omega)) ?_) | (refine cla_ (eqVariation_v x1) ?_) | (refine cla_ (specSameVariation_v x0 x1) ?_) | (refine cla_ (SameVariation_v x0 x1) ?_) | (refine br_ (fun hbr => ?_) (fun hbr => ?_))))
      all_goals first | (exfalso; omega) | (exfalso; simp_all; done) | (refine RetOK.d rfl rfl ?_; conv => whnf)
    · (conv => whnf)
      (repeat' (first | (refine stg_ ?_) | (refine cla_ (szVariation_le x0 1048576 (by omega) (by omega) hz0) ?_) | (refine cla_ (szVariation_gt x1 (1048576 - (((zVariation x0) : Nat) : Int)) (by omega) (by omega) (by omega)) ?_) | (refine br_ (fun hbr => ?_) (fun hbr => ?_))))
      all_goals first | (exfalso; omega) | (refine RetOK.d rfl rfl ?_; conv => whnf)
  · (conv => whnf)
    (repeat' (first | (refine stg_ ?_) | (refine cla_ (szVariation_gt x0 1048576 (by omega) (by omega) (by omega)) ?_) | (refine br_ (fun hbr => ?_) (fun hbr => ?_))))
    all_goals first | (exfalso; omega) | (refine RetOK.d rfl rfl ?_; conv => whnf)

theorem FnExactSameVariation_lc : LawCalls Try.prog 3 [25, 25] :=
  law_of_pc ⟨_, _, rfl, (arg_st Try.underlying25 rdt_Variation (by rintro y ⟨x, rfl⟩; rfl)), ⟨_, _, rfl, (arg_st Try.underlying25 rdt_Variation (by rintro y ⟨x, rfl⟩; rfl)), rfl⟩⟩ (fun ds h => by
    obtain ⟨d0, r0, rfl, ⟨x0, rfl⟩, h0⟩ := h
    obtain ⟨d1, r1, rfl, ⟨x1, rfl⟩, h1⟩ := h0
    cases h1
    exact FnExactSameVariation_v x0 x1)
set_option maxRecDepth 100000 in
theorem FnExactSameVariation_lift (os : Os) (started : os.Started) (H : Type) (enc : TypeId × Value → H) :
    ReturnsInHanded {} Try.checked os 3 .any (Rows.fnExactSameVariationSpec.pre6 enc Try.prog Try.f3 Rows.fnExactSameVariationRow.domain false) (Rows.fnExactSameVariationSpec.post enc Try.prog Try.f3 false true false false) :=
  law_lift (C := Try.checked) (s := Rows.fnExactSameVariationSpec) (ts := [25, 25]) own laidOut (by kernel_rfl) Try.func3 (by rw [Try.params3]) rfl Try.underlying4
    (by simp only [List.mem_cons, List.not_mem_nil, or_false]; rintro t (rfl | rfl) <;> exact ⟨by kernel_rfl, of_decide_eq_true (by kernel_rfl)⟩) rfl
    (fun H ds h => by match ds, h with | [_, _], _ => exact ⟨rfl, rfl, rfl⟩) FnExactSameVariation_lc os started H enc
    (ChangeSpec.witness6 (enc := enc) (C := Try.checked) false ⟨#[], #[.agg #[.slice none 0 0, .slice none 0 0], .agg #[.slice none 0 0, .slice none 0 0]], []⟩ 8 (by kernel_rfl) (by kernel_rfl) (by kernel_rfl) (by kernel_rfl))
theorem FnExactSameVariation_holds : Rows.FnExactSameVariationSaid :=
  OpenClaim.holds_of_wide 3 Try.f3 rfl rfl rfl rfl rfl rfl rfl ⟨rfl, rfl, rfl, rfl, rfl⟩ rfl rfl rfl rfl rfl (by kernel_rfl) Try.func3 (by kernel_rfl)
    (of_decide_eq_true (by kernel_rfl)) (by unfold Func.isWrapper; rw [if_neg (of_decide_eq_false (by kernel_rfl))]; exact ⟨rfl, rfl⟩)
    (fun os started H enc _ => FnExactSameVariation_lift os started H enc)
#print axioms FnExactSameVariation_holds

end Go.Proofs.Ytdjdkkacbkfmeaa
