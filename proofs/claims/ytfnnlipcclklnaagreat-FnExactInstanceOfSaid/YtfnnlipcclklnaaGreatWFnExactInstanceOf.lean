/- The law of InstanceOf, walked. -/
import Derived.Test.YtfnnlipcclklnaaGreatVgZ
set_option linter.unusedSimpArgs false
set_option linter.unusedVariables false
namespace Go.Proofs.YtfnnlipcclklnaaGreat
open Go.RowKit
set_option maxHeartbeats 8000000 in
theorem FnExactInstanceOf_v (x0 : TGlyphSet) (x1 : TVariation) (x2 : List Int) : PC Tryz.prog 6 [.d (x0.D), .d (x1.D), .d (.lst (x2.map (D.int .i64)))] (.d (.bool true)) [] := by
  by_cases hz0 : ((x2.length : Nat) : Int) ≤ 1048576
  · skip
    by_cases hz1 : (((zGlyphSet x0) : Nat) : Int) ≤ 1048576
    · skip
      have c1 := szGlyphSet_le x0 1048576 (by omega) (by omega) hz1
      by_cases hz2 : (((zVariation x1) : Nat) : Int) ≤ (1048576 - (((zGlyphSet x0) : Nat) : Int))
      · skip
        have c2 := szVariation_le x1 (1048576 - (((zGlyphSet x0) : Nat) : Int)) (by omega) (by omega) hz2
        rcases in_cases x0 x1 x2 with ⟨c, hB⟩ | ⟨hB, hv, hl, hA⟩
        · exact FnExactInstanceOf_c0 x0 x1 x2 hz0 hz1 hz2 c hB
        · exact FnExactInstanceOf_c1 x0 x1 x2 hz0 hz1 hz2 hB hv hl hA
      · skip
        refine pc_intro ttOk (by kernel_rfl) Tryz.func6 rfl (by kernel_rfl) (by kernel_rfl) (by kernel_rfl) (fun hw => ?_)
        have hL2 : (x2.map (D.int .i64)).length = x2.length := List.length_map _
        have e1 := szVariation_gt x1 (1048576 - (((zGlyphSet x0) : Nat) : Int)) (by omega) (by omega) (by omega)
        (conv => whnf)
        (repeat' (first | (refine stg_ ?_) | (refine cla_ (c1) ?_) | (refine cla_ (e1) ?_) | (refine br_ (fun hbr => ?_) (fun hbr => ?_))))
        all_goals first | (exfalso; omega) | (refine RetOK.d rfl rfl ?_; conv => whnf)
    · skip
      refine pc_intro ttOk (by kernel_rfl) Tryz.func6 rfl (by kernel_rfl) (by kernel_rfl) (by kernel_rfl) (fun hw => ?_)
      have hL2 : (x2.map (D.int .i64)).length = x2.length := List.length_map _
      have e1 := szGlyphSet_gt x0 1048576 (by omega) (by omega) (by omega)
      (conv => whnf)
      (repeat' (first | (refine stg_ ?_) | (refine cla_ (e1) ?_) | (refine br_ (fun hbr => ?_) (fun hbr => ?_))))
      all_goals first | (exfalso; omega) | (refine RetOK.d rfl rfl ?_; conv => whnf)
  · skip
    refine pc_intro ttOk (by kernel_rfl) Tryz.func6 rfl (by kernel_rfl) (by kernel_rfl) (by kernel_rfl) (fun hw => ?_)
    have hL2 : (x2.map (D.int .i64)).length = x2.length := List.length_map _
    (conv => whnf)
    (repeat' (first | (refine stg_ ?_) | fail | (refine br_ (fun hbr => ?_) (fun hbr => ?_))))
    all_goals first | (exfalso; omega) | (refine RetOK.d rfl rfl ?_; conv => whnf)

theorem FnExactInstanceOf_lc : LawCalls Tryz.prog 6 [28, 25, 44] :=
  law_of_pc ⟨_, _, rfl, (arg_st Tryz.underlying28 rdt_GlyphSet (by rintro y ⟨x, rfl⟩; rfl)), ⟨_, _, rfl, (arg_st Tryz.underlying25 rdt_Variation (by rintro y ⟨x, rfl⟩; rfl)), ⟨_, _, rfl, (arg_sl Tryz.underlying44 rdt_intS (by rintro y ⟨x, rfl⟩; rfl)), rfl⟩⟩⟩ (fun ds h => by
    obtain ⟨d0, r0, rfl, ⟨x0, rfl⟩, h0⟩ := h
    obtain ⟨d1, r1, rfl, ⟨x1, rfl⟩, h1⟩ := h0
    obtain ⟨d2, r2, rfl, ⟨x2, rfl⟩, h2⟩ := h1
    cases h2
    exact FnExactInstanceOf_v x0 x1 x2)

end Go.Proofs.YtfnnlipcclklnaaGreat
