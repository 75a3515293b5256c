/- The law of ReachableGlyphs, walked. -/
import Derived.Test.YtcachhipflibkaaGreatRgW
import Derived.Test.YtcachhipflibkaaGreatLM
import Derived.Test.YtcachhipflibkaaGreatLV
set_option linter.unusedSimpArgs false
set_option linter.unusedVariables false
namespace Go.Proofs.YtcachhipflibkaaGreat
open Go.RowKit
set_option maxHeartbeats 8000000 in
theorem FnExactReachableGlyphs_v (x0 : TFeatures) (x1 : List Int) : PC Tryz.prog 3 [.d (x0.D), .d (.lst (x1.map (D.int .i64)))] (.d (.bool true)) [] := by
  refine pc_intro ttOk (by kernel_rfl) Tryz.func3 rfl (by kernel_rfl) (by kernel_rfl) (by kernel_rfl) (fun hw => ?_)
  have hL1 : (x1.map (D.int .i64)).length = x1.length := List.length_map _
  by_cases hz0 : ((x1.length : Nat) : Int) ≤ 1048576
  · skip
    by_cases hz1 : (((zFeatures x0) : Nat) : Int) ≤ 1048576
    · skip
      have c1 := szFeatures_le x0 1048576 (by omega) (by omega) hz1
      have d0 := toFeatures_v x0 (by omega)
      have d1 := eqFeatures_v x0
      have d2 := toInt64S_v x1 (by omega)
      have d3 := eqInt64S_v x1
      have hzO : zFeatures x0 = zL zLookup x0.fLookups + zL zKern x0.fKerns + zL zMarkRule x0.fMarks + x0.fJoins.length := rfl
      have hw_4 := wSum_z wgtLookup wgtLookup_le x0.fLookups
      have d4 := mkLookupS_pk x0.fLookups (1) (by omega) (by omega)
      have hw_5 := wSum_z wgtKern wgtKern_le x0.fKerns
      have d5 := mkKernS_pk x0.fKerns (1 + wSum wgtLookup x0.fLookups) (by omega) (by omega)
      have hw_6 := wSum_z wgtMarkRule wgtMarkRule_le x0.fMarks
      have d6 := mkMarkRuleS_pk x0.fMarks (1 + wSum wgtLookup x0.fLookups + wSum wgtKern x0.fKerns) (by omega) (by omega)
      have d7 := mkJoinS_pk x0.fJoins (1 + wSum wgtLookup x0.fLookups + wSum wgtKern x0.fKerns + wSum wgtMarkRule x0.fMarks) (by omega) (by omega)
      have d8 := mkInt64S_pk x1 (1 + wSum wgtLookup x0.fLookups + wSum wgtKern x0.fKerns + wSum wgtMarkRule x0.fMarks + 5 * x0.fJoins.length) (by omega) (by omega)
      rcases Bool.eq_false_or_eq_true (ftB x0 && clsB x1) with hB | hB
      · skip
        have hB' := Bool.and_eq_true_iff.1 hB
        have hl60 := (rgN_Bd hB'.1 41 x1 (cls_Bd hB'.2)).len
        rw [show rgN x0 41 x1 = rgS x0 x1 from rfl] at hl60
        have d9 := specReachableGlyphs_v x0 x1 _ _ (fun _ => ⟨rfl, rfl⟩) (fun e => by rw [hB] at e; cases e)
        have d10 := ReachableGlyphs_v x0 x1 _ _ (fun _ => ⟨rfl, rfl⟩) (fun e => by rw [hB] at e; cases e)
        have hl1_a : (rgS x0 x1).length = (rgS x0 x1).length := rfl
        have hl1_b : ((rgS x0 x1).map (D.int .i64)).length = (rgS x0 x1).length := by (rw [List.length_map]); first | done | exact hl1_a
        have hl1_c : ((mkLInt64 (1) (rgS x0 x1)).map (D.int .i64)).length = (rgS x0 x1).length := by (rw [List.length_map, mkLInt64_len]); first | done | exact hl1_a
        have d11 := eqInt64S_v (rgS x0 x1)
        have d12 := mkInt64S_pk (rgS x0 x1) (1) (by omega) (by omega)
        have d13 := hdInt64S_v (rgS x0 x1) (1) (by omega) (by omega)
        (conv => whnf)
        (repeat' (first | (refine stg_ ?_) | (refine cla_ (c1) ?_) | (refine cla_ (d0) ?_) | (refine cla_ (d1) ?_) | (refine cla_ (d2) ?_) | (refine cla_ (d3) ?_) | (refine clk_ (d4) ?_) | (refine clk_ (d5) ?_) | (refine clk_ (d6) ?_) | (refine clk_ (d7) ?_) | (refine clk_ (d8) ?_) | (refine cla_ (d9) ?_) | (refine cla_ (d10) ?_) | (refine cla_ (d11) ?_) | (refine clk_ (d12) ?_) | (refine cla_ (d13) ?_) | (refine CallW.inl ttOk (by kernel_rfl) Tryz.func15 rfl (by kernel_rfl) (by kernel_rfl) (by rfl) (fun s => ?_); (conv => whnf)) | (refine And.intro rfl ?_; (conv => whnf)) | (refine br_ (fun hbr => ?_) (fun hbr => ?_))))
        all_goals first | (exfalso; omega) | (exfalso; simp_all; done) | (refine RetOK.d rfl rfl ?_; conv => whnf)
      · skip
        have d9 := specReachableGlyphs_v x0 x1 _ _ (fun e => by rw [hB] at e; cases e) (fun _ => ⟨rfl, rfl⟩)
        have d10 := ReachableGlyphs_v x0 x1 _ _ (fun e => by rw [hB] at e; cases e) (fun _ => ⟨rfl, rfl⟩)
        have d11 := eqInt64S_v []
        have d12 := mkInt64S_nil (1)
        have d13 := hdInt64S_v [] (1) (by first | decide | (simp [wSum])) (by first | decide | omega)
        (conv => whnf)
        (repeat' (first | (refine stg_ ?_) | (refine cla_ (c1) ?_) | (refine cla_ (d0) ?_) | (refine cla_ (d1) ?_) | (refine cla_ (d2) ?_) | (refine cla_ (d3) ?_) | (refine clk_ (d4) ?_) | (refine clk_ (d5) ?_) | (refine clk_ (d6) ?_) | (refine clk_ (d7) ?_) | (refine clk_ (d8) ?_) | (refine cla_ (d9) ?_) | (refine cla_ (d10) ?_) | (refine cla_ (d11) ?_) | (refine cla_ (d12) ?_) | (refine cla_ (d13) ?_) | (refine CallW.inl ttOk (by kernel_rfl) Tryz.func15 rfl (by kernel_rfl) (by kernel_rfl) (by rfl) (fun s => ?_); (conv => whnf)) | (refine And.intro rfl ?_; (conv => whnf)) | (refine br_ (fun hbr => ?_) (fun hbr => ?_))))
        all_goals first | (exfalso; omega) | (exfalso; simp_all; done) | (refine RetOK.d rfl rfl ?_; conv => whnf)
    · skip
      have e1 := szFeatures_gt x0 1048576 (by omega) (by omega) (by omega)
      (conv => whnf)
      (repeat' (first | (refine stg_ ?_) | (refine cla_ (e1) ?_) | (refine br_ (fun hbr => ?_) (fun hbr => ?_))))
      all_goals first | (exfalso; omega) | (refine RetOK.d rfl rfl ?_; conv => whnf)
  · skip
    (conv => whnf)
    (repeat' (first | (refine stg_ ?_) | fail | (refine br_ (fun hbr => ?_) (fun hbr => ?_))))
    all_goals first | (exfalso; omega) | (refine RetOK.d rfl rfl ?_; conv => whnf)

theorem FnExactReachableGlyphs_lc : LawCalls Tryz.prog 3 [27, 28] :=
  law_of_pc ⟨_, _, rfl, (arg_st Tryz.underlying27 rdt_Features (by rintro y ⟨x, rfl⟩; rfl)), ⟨_, _, rfl, (arg_sl Tryz.underlying28 rdt_intS (by rintro y ⟨x, rfl⟩; rfl)), rfl⟩⟩ (fun ds h => by
    obtain ⟨d0, r0, rfl, ⟨x0, rfl⟩, h0⟩ := h
    obtain ⟨d1, r1, rfl, ⟨x1, rfl⟩, h1⟩ := h0
    cases h1
    exact FnExactReachableGlyphs_v x0 x1)

end Go.Proofs.YtcachhipflibkaaGreat
