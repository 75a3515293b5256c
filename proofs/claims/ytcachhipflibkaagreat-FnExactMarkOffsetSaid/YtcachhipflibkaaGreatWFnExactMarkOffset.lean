/- The law of MarkOffset, walked. -/
import Derived.Test.YtcachhipflibkaaGreatMoV
import Derived.Test.YtcachhipflibkaaGreatLV
set_option linter.unusedSimpArgs false
set_option linter.unusedVariables false
namespace Go.Proofs.YtcachhipflibkaaGreat
open Go.RowKit
/-- two copies, a call, and the cell for its result at any time -/
def trMo : OT :=
  let E : OT := .q 7 (.q 8 (.q 9 (.alt 11 (.q 12 .done) .nil)))
  let C6 : OT := .alt 6 E .nil
  let C3 : OT := .alt 3 C6 .nil
  let C1 : OT := .alt 1 C3 .nil
  .q 0 (.q 2 (.q 4 (.q 5 (.alt 1 (.alt 3 (.alt 6 (.q 7 (.q 8 (.q 9 (.alt 10 (.alt 11 (.q 12 .done) .nil) .nil)))) (.alt 10 C6 .nil)) (.alt 10 C3 .nil)) (.alt 10 C1 .nil)))))
set_option maxHeartbeats 4000000 in
theorem FnExactMarkOffset_v (x0 : TGlyphSet) (x1 : TFeatures) (x2 : Int) (x3 : Int) : PC Tryz.prog 4 [.d (x0.D), .d (x1.D), .d (.int .i64 x2), .d (.int .i64 x3)] (.d (.bool true)) [] := by
  refine pc_intro ttOk (by kernel_rfl) Tryz.func4 rfl (by kernel_rfl) (by kernel_rfl) (by kernel_rfl) (fun hw => ?_)
  by_cases hz0 : (((zGlyphSet x0) : Nat) : Int) ≤ 1048576
  · skip
    by_cases hz1 : (((zFeatures x1) : Nat) : Int) ≤ (1048576 - (((zGlyphSet x0) : Nat) : Int))
    · skip
      have d0 := szGlyphSet_le x0 1048576 (by omega) (by omega) hz0
      have d1 := szFeatures_le x1 (1048576 - (((zGlyphSet x0) : Nat) : Int)) (by omega) (by omega) hz1
      have d2 := toGlyphSet_v x0 (by omega)
      have d3 := eqGlyphSet_v x0
      have d4 := toFeatures_v x1 (by omega)
      have d5 := eqFeatures_v x1
      have d6 := specMarkOffset_v x0 x1 x2 x3
      have d7 := MarkOffset_v x0 x1 x2 x3
      have d8 := eqPt_v (anPt (moF x0 x1 x2 x3))
      (conv => whnf)
      (repeat' (first | ((fail_if_success (with_reducible apply RegD.id)); (first | (refine stg_ ?_) | (refine cla_ (d0) ?_) | (refine cla_ (d1) ?_) | (refine cla_ (d2) ?_) | (refine cla_ (d3) ?_) | (refine cla_ (d4) ?_) | (refine cla_ (d5) ?_) | (refine cla_ (d6) ?_) | (refine cla_ (d7) ?_) | (refine cla_ (d8) ?_) | (refine br_ (fun hbr => ?_) (fun hbr => ?_))))))
      all_goals first | (exfalso; omega) | (exfalso; simp_all; done) | (with_reducible apply RegD.id) | (refine RetOK.d rfl rfl ?_; conv => whnf)
      refine RegD.cutT [(2, .d (.int .i64 x2)), (3, .d (.int .i64 x3)), (4, .pB 1 [] 0), (5, .pB 2 [] 0), (10, .pB 3 [] 0), (11, .d (.bool (moF x0 x1 x2 x3).isSome))] [.gone, .box (.d x0.D), .box (.d x1.D), .box (.d (anPt (moF x0 x1 x2 x3)).D)] trMo (by kernel_rfl) ?_ ?_
      · (conv => whnf)
        repeat' (first | (refine stg_ ?_) | (refine cla_ (d2) ?_) | (refine cla_ (d4) ?_) | (refine cla_ (d6) ?_) | (refine And.intro ?_ ?_ <;> (conv => whnf)))
        all_goals first | (refine Weak.cov ?_ ?_ ?_; (focus (repeat' (first | exact trivial | with_reducible rfl | (refine ⟨?_, ?_⟩) | rfl))); (focus (repeat' (first | exact trivial | with_reducible rfl | (refine ⟨?_, ?_⟩) | rfl))); (focus rfl)) | (refine Weak.trans (Weak.swap 3 4 ?_) (Weak.cov ?_ ?_ ?_); (focus rfl); (focus (repeat' (first | exact trivial | with_reducible rfl | (refine ⟨?_, ?_⟩) | rfl))); (focus (repeat' (first | exact trivial | with_reducible rfl | (refine ⟨?_, ?_⟩) | rfl))); (focus rfl)) | (refine Weak.trans (Weak.swap 3 8 ?_) (Weak.cov ?_ ?_ ?_); (focus rfl); (focus (repeat' (first | exact trivial | with_reducible rfl | (refine ⟨?_, ?_⟩) | rfl))); (focus (repeat' (first | exact trivial | with_reducible rfl | (refine ⟨?_, ?_⟩) | rfl))); (focus rfl))
      (conv => whnf)
      (repeat' (first | (refine stg_ ?_) | (refine cla_ (d0) ?_) | (refine cla_ (d1) ?_) | (refine cla_ (d2) ?_) | (refine cla_ (d3) ?_) | (refine cla_ (d4) ?_) | (refine cla_ (d5) ?_) | (refine cla_ (d6) ?_) | (refine cla_ (d7) ?_) | (refine cla_ (d8) ?_) | (refine br_ (fun hbr => ?_) (fun hbr => ?_))))
      all_goals first | (exfalso; omega) | (exfalso; simp_all; done) | (refine RetOK.d rfl rfl ?_; conv => whnf)
    · (conv => whnf)
      (repeat' (first | (refine stg_ ?_) | (refine cla_ (szGlyphSet_le x0 1048576 (by omega) (by omega) hz0) ?_) | (refine cla_ (szFeatures_gt x1 (1048576 - (((zGlyphSet x0) : Nat) : Int)) (by omega) (by omega) (by omega)) ?_) | (refine br_ (fun hbr => ?_) (fun hbr => ?_))))
      all_goals first | (exfalso; omega) | (refine RetOK.d rfl rfl ?_; conv => whnf)
  · (conv => whnf)
    (repeat' (first | (refine stg_ ?_) | (refine cla_ (szGlyphSet_gt x0 1048576 (by omega) (by omega) (by omega)) ?_) | (refine br_ (fun hbr => ?_) (fun hbr => ?_))))
    all_goals first | (exfalso; omega) | (refine RetOK.d rfl rfl ?_; conv => whnf)

theorem FnExactMarkOffset_lc : LawCalls Tryz.prog 4 [47, 27, 2, 2] :=
  law_of_pc ⟨_, _, rfl, (arg_st Tryz.underlying47 rdt_GlyphSet (by rintro y ⟨x, rfl⟩; rfl)), ⟨_, _, rfl, (arg_st Tryz.underlying27 rdt_Features (by rintro y ⟨x, rfl⟩; rfl)), ⟨_, _, rfl, (arg_int Tryz.underlying2 rdt_int (by rintro y ⟨x, rfl⟩; rfl)), ⟨_, _, rfl, (arg_int Tryz.underlying2 rdt_int (by rintro y ⟨x, rfl⟩; rfl)), rfl⟩⟩⟩⟩ (fun ds h => by
    obtain ⟨d0, r0, rfl, ⟨x0, rfl⟩, h0⟩ := h
    obtain ⟨d1, r1, rfl, ⟨x1, rfl⟩, h1⟩ := h0
    obtain ⟨d2, r2, rfl, ⟨x2, rfl⟩, h2⟩ := h1
    obtain ⟨d3, r3, rfl, ⟨x3, rfl⟩, h3⟩ := h2
    cases h3
    exact FnExactMarkOffset_v x0 x1 x2 x3)

end Go.Proofs.YtcachhipflibkaaGreat
