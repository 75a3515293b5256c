/- FnExactInferMoves returns true for all arguments, and leaves them as they were. No condition. -/
import Derived.Test.YtdjdkkacbkfmeaaInfZ
import Derived.Test.YtdjdkkacbkfmeaaLM
import Derived.Test.YtdjdkkacbkfmeaaLV
import Derived.Test.YtdjdkkacbkfmeaaRows
set_option linter.unusedSimpArgs false
set_option linter.unusedVariables false
namespace Go.Proofs.Ytdjdkkacbkfmeaa
open Go.RowKit
set_option maxHeartbeats 8000000 in
theorem FnExactInferMoves_v (x0 : TOutline) (x1 : List Int) (x2 : List TPt) : PC Try.prog 6 [.d (x0.D), .d (.lst (x1.map (D.int .i64))), .d (.lst (x2.map TPt.D))] (.d (.bool true)) [] := by
  refine pc_intro ttOk (by kernel_rfl) Try.func6 rfl (by kernel_rfl) (by kernel_rfl) (by kernel_rfl) (fun hw => ?_)
  have hL1 : (x1.map (D.int .i64)).length = x1.length := List.length_map _
  have hL2 : (x2.map TPt.D).length = x2.length := List.length_map _
  by_cases hz0 : ((x1.length : Nat) : Int) ≤ 1048576
  · skip
    by_cases hz1 : (((zOutline x0) : Nat) : Int) ≤ 1048576
    · skip
      have c1 := szOutline_le x0 1048576 (by omega) (by omega) hz1
      by_cases hz2 : ((x2.length : Nat) : Int) ≤ (1048576 - (((zOutline x0) : Nat) : Int))
      · skip
        have c2 := szPtS_le x2 (1048576 - (((zOutline x0) : Nat) : Int)) (by omega) (by omega) hz2
        have d0 := toOutline_v x0 (by omega)
        have d1 := eqOutline_v x0
        have d2 := toInt64S_v x1 (by omega)
        have d3 := eqInt64S_v x1
        have d4 := toPtS_v x2 (by omega)
        have d5 := eqPtS_v x2
        have hzO : zOutline x0 = zL zLoop x0.fLoops := rfl
        have hw_6 := wSum_z wgtLoop wgtLoop_le x0.fLoops
        have d6 := mkLoopS_pk x0.fLoops (1) (by omega) (by omega)
        have d7 := mkInt64S_pk x1 (1 + wSum wgtLoop x0.fLoops) (by omega) (by omega)
        have d8 := mkPtS_pk x2 (1 + wSum wgtLoop x0.fLoops + 1 * x1.length) (by omega) (by omega)
        by_cases hB : imC x0 x1 x2 = 0
        · skip
          have hlC : (inL x1 x2 0 x0.fLoops).length = cnK x0.fLoops := inL_len _ _ _ _
          have hlO := out_in (imC_in (by omega) hB).vo
          have hlK := cnK_le hlO.2
          have d9 := specInferMoves_v x0 x1 x2 (by omega) _ _ (fun _ => ⟨rfl, rfl⟩) (fun h => absurd hB h)
          have d10 := InferMoves_v x0 x1 x2 (by omega) _ _ (fun _ => ⟨rfl, rfl⟩) (fun h => absurd hB h)
          have hl1_a : (inL x1 x2 0 x0.fLoops).length = cnK x0.fLoops := hlC
          have hl1_b : ((inL x1 x2 0 x0.fLoops).map TPt.D).length = cnK x0.fLoops := by (rw [List.length_map]); first | done | exact hl1_a
          have hl1_c : ((mkLPt (1) (inL x1 x2 0 x0.fLoops)).map TPt.D).length = cnK x0.fLoops := by (rw [List.length_map, mkLPt_len]); first | done | exact hl1_a
          have d11 := eqPtS_v (inL x1 x2 0 x0.fLoops)
          have d12 := mkPtS_pk (inL x1 x2 0 x0.fLoops) (1) (by omega) (by omega)
          have d13 := hdPtS_v (inL x1 x2 0 x0.fLoops) (1) (by omega) (by omega)
          (conv => whnf)
          (repeat' (first | (refine stg_ ?_) | (refine cla_ (c1) ?_) | (refine cla_ (c2) ?_) | (refine cla_ (d0) ?_) | (refine cla_ (d1) ?_) | (refine cla_ (d2) ?_) | (refine cla_ (d3) ?_) | (refine cla_ (d4) ?_) | (refine cla_ (d5) ?_) | (refine clk_ (d6) ?_) | (refine clk_ (d7) ?_) | (refine clk_ (d8) ?_) | (refine cla_ (d9) ?_) | (refine cla_ (d10) ?_) | (refine cla_ (d11) ?_) | (refine clk_ (d12) ?_) | (refine cla_ (d13) ?_) | (refine CallW.inl ttOk (by kernel_rfl) Try.func27 rfl (by kernel_rfl) (by kernel_rfl) (by rfl) (fun s => ?_); (conv => whnf)) | (refine And.intro rfl ?_; (conv => whnf)) | (refine br_ (fun hbr => ?_) (fun hbr => ?_))))
          all_goals first | (exfalso; omega) | (exfalso; simp_all; done) | (refine RetOK.d rfl rfl ?_; conv => whnf)
        · skip
          have d9 := specInferMoves_v x0 x1 x2 (by omega) _ _ (fun h => absurd h hB) (fun _ => ⟨rfl, rfl⟩)
          have d10 := InferMoves_v x0 x1 x2 (by omega) _ _ (fun h => absurd h hB) (fun _ => ⟨rfl, rfl⟩)
          have d11 := eqPtS_v []
          have d12 := mkPtS_nil (1)
          have d13 := hdPtS_v [] (1) (by first | decide | (simp [wSum])) (by first | decide | omega)
          (conv => whnf)
          (repeat' (first | (refine stg_ ?_) | (refine cla_ (c1) ?_) | (refine cla_ (c2) ?_) | (refine cla_ (d0) ?_) | (refine cla_ (d1) ?_) | (refine cla_ (d2) ?_) | (refine cla_ (d3) ?_) | (refine cla_ (d4) ?_) | (refine cla_ (d5) ?_) | (refine clk_ (d6) ?_) | (refine clk_ (d7) ?_) | (refine clk_ (d8) ?_) | (refine cla_ (d9) ?_) | (refine cla_ (d10) ?_) | (refine cla_ (d11) ?_) | (refine cla_ (d12) ?_) | (refine cla_ (d13) ?_) | (refine CallW.inl ttOk (by kernel_rfl) Try.func27 rfl (by kernel_rfl) (by kernel_rfl) (by rfl) (fun s => ?_); (conv => whnf)) | (refine And.intro rfl ?_; (conv => whnf)) | (refine br_ (fun hbr => ?_) (fun hbr => ?_))))
          all_goals first | (exfalso; omega) | (exfalso; simp_all; done) | (refine RetOK.d rfl rfl ?_; conv => whnf)
      · skip
        have e1 := szPtS_gt x2 (1048576 - (((zOutline x0) : Nat) : Int)) (by omega) (by omega) (by omega)
        (conv => whnf)
        (repeat' (first | (refine stg_ ?_) | (refine cla_ (c1) ?_) | (refine cla_ (e1) ?_) | (refine br_ (fun hbr => ?_) (fun hbr => ?_))))
        all_goals first | (exfalso; omega) | (refine RetOK.d rfl rfl ?_; conv => whnf)
    · skip
      have e1 := szOutline_gt x0 1048576 (by omega) (by omega) (by omega)
      (conv => whnf)
      (repeat' (first | (refine stg_ ?_) | (refine cla_ (e1) ?_) | (refine br_ (fun hbr => ?_) (fun hbr => ?_))))
      all_goals first | (exfalso; omega) | (refine RetOK.d rfl rfl ?_; conv => whnf)
  · skip
    (conv => whnf)
    (repeat' (first | (refine stg_ ?_) | fail | (refine br_ (fun hbr => ?_) (fun hbr => ?_))))
    all_goals first | (exfalso; omega) | (refine RetOK.d rfl rfl ?_; conv => whnf)

theorem FnExactInferMoves_lc : LawCalls Try.prog 6 [36, 48, 49] :=
  law_of_pc ⟨_, _, rfl, (arg_st Try.underlying36 rdt_Outline (by rintro y ⟨x, rfl⟩; rfl)), ⟨_, _, rfl, (arg_sl Try.underlying48 rdt_intS (by rintro y ⟨x, rfl⟩; rfl)), ⟨_, _, rfl, (arg_sl Try.underlying49 rdt_PtS (by rintro y ⟨x, rfl⟩; rfl)), rfl⟩⟩⟩ (fun ds h => by
    obtain ⟨d0, r0, rfl, ⟨x0, rfl⟩, h0⟩ := h
    obtain ⟨d1, r1, rfl, ⟨x1, rfl⟩, h1⟩ := h0
    obtain ⟨d2, r2, rfl, ⟨x2, rfl⟩, h2⟩ := h1
    cases h2
    exact FnExactInferMoves_v x0 x1 x2)
set_option maxRecDepth 100000 in
theorem FnExactInferMoves_lift (os : Os) (started : os.Started) (H : Type) (enc : TypeId × Value → H) :
    ReturnsInHanded {} Try.checked os 6 .any (Rows.fnExactInferMovesSpec.pre6 enc Try.prog Try.f6 Rows.fnExactInferMovesRow.domain false) (Rows.fnExactInferMovesSpec.post enc Try.prog Try.f6 false true false false) :=
  law_lift (C := Try.checked) (s := Rows.fnExactInferMovesSpec) (ts := [36, 48, 49]) own laidOut (by kernel_rfl) Try.func6 (by rw [Try.params6]) rfl Try.underlying4
    (by simp only [List.mem_cons, List.not_mem_nil, or_false]; rintro t (rfl | rfl | rfl) <;> exact ⟨by kernel_rfl, of_decide_eq_true (by kernel_rfl)⟩) rfl
    (fun H ds h => by match ds, h with | [_, _, _], _ => exact ⟨rfl, rfl, rfl⟩) FnExactInferMoves_lc os started H enc
    (ChangeSpec.witness6 (enc := enc) (C := Try.checked) false ⟨#[], #[.agg #[.slice none 0 0], .slice none 0 0, .slice none 0 0], []⟩ 8 (by kernel_rfl) (by kernel_rfl) (by kernel_rfl) (by kernel_rfl))
theorem FnExactInferMoves_holds : Rows.FnExactInferMovesSaid :=
  OpenClaim.holds_of_wide 6 Try.f6 rfl rfl rfl rfl rfl rfl rfl ⟨rfl, rfl, rfl, rfl, rfl⟩ rfl rfl rfl rfl rfl (by kernel_rfl) Try.func6 (by kernel_rfl)
    (of_decide_eq_true (by kernel_rfl)) (by unfold Func.isWrapper; rw [if_neg (of_decide_eq_false (by kernel_rfl))]; exact ⟨rfl, rfl⟩)
    (fun os started H enc _ => FnExactInferMoves_lift os started H enc)
#print axioms FnExactInferMoves_holds

end Go.Proofs.Ytdjdkkacbkfmeaa
