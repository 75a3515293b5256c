/- FnExactValidVariation returns true for all arguments, and leaves them as they were. No condition. -/
import Derived.Test.YtfnnlipcclklnaaGreatVvV
import Derived.Test.YtfnnlipcclklnaaGreatLV
import Derived.Test.YtfnnlipcclklnaaGreatRows
set_option linter.unusedSimpArgs false
set_option linter.unusedVariables false
namespace Go.Proofs.YtfnnlipcclklnaaGreat
open Go.RowKit
set_option maxHeartbeats 4000000 in
theorem FnExactValidVariation_v (x0 : TVariation) (x1 : TGlyphSet) : PC Tryz.prog 3 [.d (x0.D), .d (x1.D)] (.d (.bool true)) [] := by
  refine pc_intro ttOk (by kernel_rfl) Tryz.func3 rfl (by kernel_rfl) (by kernel_rfl) (by kernel_rfl) (fun hw => ?_)
  by_cases hz0 : (((zVariation x0) : Nat) : Int) ≤ 1048576
  · skip
    by_cases hz1 : (((zGlyphSet x1) : Nat) : Int) ≤ (1048576 - (((zVariation x0) : Nat) : Int))
    · skip
      have d0 := szVariation_le x0 1048576 (by omega) (by omega) hz0
      have d1 := szGlyphSet_le x1 (1048576 - (((zVariation x0) : Nat) : Int)) (by omega) (by omega) hz1
      have d2 := toVariation_v x0 (by omega)
      have d3 := eqVariation_v x0
      have d4 := toGlyphSet_v x1 (by omega)
      have d5 := eqGlyphSet_v x1
      have d6 := specValidVariation_v x0 x1
      have d7 := ValidVariation_v x0 x1
      (conv => whnf)
      (repeat' (first | (refine stg_ ?_) | (refine cla_ (d0) ?_) | (refine cla_ (d1) ?_) | (refine cla_ (d2) ?_) | (refine cla_ (d3) ?_) | (refine cla_ (d4) ?_) | (refine cla_ (d5) ?_) | (refine cla_ (d6) ?_) | (refine cla_ (d7) ?_) | (refine br_ (fun hbr => ?_) (fun hbr => ?_))))
      all_goals first | (exfalso; omega) | (exfalso; simp_all; done) | (refine RetOK.d rfl rfl ?_; conv => whnf)
    · (conv => whnf)
      (repeat' (first | (refine stg_ ?_) | (refine cla_ (szVariation_le x0 1048576 (by omega) (by omega) hz0) ?_) | (refine cla_ (szGlyphSet_gt x1 (1048576 - (((zVariation x0) : Nat) : Int)) (by omega) (by omega) (by omega)) ?_) | (refine br_ (fun hbr => ?_) (fun hbr => ?_))))
      all_goals first | (exfalso; omega) | (refine RetOK.d rfl rfl ?_; conv => whnf)
  · (conv => whnf)
    (repeat' (first | (refine stg_ ?_) | (refine cla_ (szVariation_gt x0 1048576 (by omega) (by omega) (by omega)) ?_) | (refine br_ (fun hbr => ?_) (fun hbr => ?_))))
    all_goals first | (exfalso; omega) | (refine RetOK.d rfl rfl ?_; conv => whnf)

theorem FnExactValidVariation_lc : LawCalls Tryz.prog 3 [25, 28] :=
  law_of_pc ⟨_, _, rfl, (arg_st Tryz.underlying25 rdt_Variation (by rintro y ⟨x, rfl⟩; rfl)), ⟨_, _, rfl, (arg_st Tryz.underlying28 rdt_GlyphSet (by rintro y ⟨x, rfl⟩; rfl)), rfl⟩⟩ (fun ds h => by
    obtain ⟨d0, r0, rfl, ⟨x0, rfl⟩, h0⟩ := h
    obtain ⟨d1, r1, rfl, ⟨x1, rfl⟩, h1⟩ := h0
    cases h1
    exact FnExactValidVariation_v x0 x1)
set_option maxRecDepth 100000 in
theorem FnExactValidVariation_lift (os : Os) (started : os.Started) (H : Type) (enc : TypeId × Value → H) :
    ReturnsInHanded {} Tryz.checked os 3 .any (Rows.fnExactValidVariationSpec.pre6 enc Tryz.prog Tryz.f3 Rows.fnExactValidVariationRow.domain false) (Rows.fnExactValidVariationSpec.post enc Tryz.prog Tryz.f3 false true false false) :=
  law_lift (C := Tryz.checked) (s := Rows.fnExactValidVariationSpec) (ts := [25, 28]) own laidOut (by kernel_rfl) Tryz.func3 (by rw [Tryz.params3]) rfl Tryz.underlying4
    (by simp only [List.mem_cons, List.not_mem_nil, or_false]; rintro t (rfl | rfl) <;> exact ⟨by kernel_rfl, of_decide_eq_true (by kernel_rfl)⟩) rfl
    (fun H ds h => by match ds, h with | [_, _], _ => exact ⟨rfl, rfl, rfl⟩) FnExactValidVariation_lc os started H enc
    (ChangeSpec.witness6 (enc := enc) (C := Tryz.checked) false ⟨#[], #[.agg #[.slice none 0 0, .slice none 0 0], .agg #[.int .i64 0, .slice none 0 0]], []⟩ 8 (by kernel_rfl) (by kernel_rfl) (by kernel_rfl) (by kernel_rfl))
theorem FnExactValidVariation_holds : Rows.FnExactValidVariationSaid :=
  OpenClaim.holds_of_wide 3 Tryz.f3 rfl rfl rfl rfl rfl rfl rfl ⟨rfl, rfl, rfl, rfl, rfl⟩ rfl rfl rfl rfl rfl (by kernel_rfl) Tryz.func3 (by kernel_rfl)
    (of_decide_eq_true (by kernel_rfl)) (by unfold Func.isWrapper; rw [if_neg (of_decide_eq_false (by kernel_rfl))]; exact ⟨rfl, rfl⟩)
    (fun os started H enc _ => FnExactValidVariation_lift os started H enc)
#print axioms FnExactValidVariation_holds

end Go.Proofs.YtfnnlipcclklnaaGreat
