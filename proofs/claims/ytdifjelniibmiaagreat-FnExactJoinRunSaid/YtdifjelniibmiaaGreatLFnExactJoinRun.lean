/- FnExactJoinRun returns true for all arguments, and leaves them as they were. No condition. -/
import Derived.Test.YtdifjelniibmiaaGreatFoX
import Derived.Test.YtdifjelniibmiaaGreatLM
import Derived.Test.YtdifjelniibmiaaGreatLV
import Derived.Test.YtdifjelniibmiaaGreatRows
set_option linter.unusedSimpArgs false
set_option linter.unusedVariables false
namespace Go.Proofs.YtdifjelniibmiaaGreat
open Go.RowKit
set_option maxHeartbeats 8000000 in
theorem FnExactJoinRun_v (x0 : TFeatures) (x1 : List TItem) : PC Tryz.prog 4 [.d (x0.D), .d (.lst (x1.map TItem.D))] (.d (.bool true)) [] := by
  refine pc_intro ttOk (by kernel_rfl) Tryz.func4 rfl (by kernel_rfl) (by kernel_rfl) (by kernel_rfl) (fun hw => ?_)
  have hL1 : (x1.map TItem.D).length = x1.length := List.length_map _
  by_cases hz0 : (((zFeatures x0) : Nat) : Int) ≤ 1048576
  · skip
    have c1 := szFeatures_le x0 1048576 (by omega) (by omega) hz0
    by_cases hz1 : ((x1.length : Nat) : Int) ≤ (1048576 - (((zFeatures x0) : Nat) : Int))
    · skip
      have c2 := szItemS_le x1 (1048576 - (((zFeatures x0) : Nat) : Int)) (by omega) (by omega) hz1
      have d0 := toFeatures_v x0 (by omega)
      have d1 := eqFeatures_v x0
      have d2 := toItemS_v x1 (by omega)
      have d3 := eqItemS_v x1
      have hzO : zFeatures x0 = zL zLookup x0.fLookups + zL zKern x0.fKerns + zL zMarkRule x0.fMarks + x0.fJoins.length := rfl
      have hw_4 := wSum_z wgtLookup wgtLookup_le x0.fLookups
      have d4 := mkLookupS_pk x0.fLookups (1) (by omega) (by omega)
      have hw_5 := wSum_z wgtKern wgtKern_le x0.fKerns
      have d5 := mkKernS_pk x0.fKerns (1 + wSum wgtLookup x0.fLookups) (by omega) (by omega)
      have hw_6 := wSum_z wgtMarkRule wgtMarkRule_le x0.fMarks
      have d6 := mkMarkRuleS_pk x0.fMarks (1 + wSum wgtLookup x0.fLookups + wSum wgtKern x0.fKerns) (by omega) (by omega)
      have d7 := mkJoinS_pk x0.fJoins (1 + wSum wgtLookup x0.fLookups + wSum wgtKern x0.fKerns + wSum wgtMarkRule x0.fMarks) (by omega) (by omega)
      have d8 := mkItemS_pk x1 (1 + wSum wgtLookup x0.fLookups + wSum wgtKern x0.fKerns + wSum wgtMarkRule x0.fMarks + 5 * x0.fJoins.length) (by omega) (by omega)
      by_cases hB : OkR x0 x1
      · skip
        have hl60 : x1.length ≤ 60 := (vr_wk hB.2).1
        have d9 := specJoinRun_v x0 x1 hB
        have d10 := JoinRun_v x0 x1 hB
        have hl1_a : (jrL x0 x1).length = x1.length := jrL_len x0 x1
        have hl1_b : ((jrL x0 x1).map TItem.D).length = x1.length := by (rw [List.length_map]); first | done | exact hl1_a
        have hl1_c : ((mkLItem (1) (jrL x0 x1)).map TItem.D).length = x1.length := by (rw [List.length_map, mkLItem_len]); first | done | exact hl1_a
        have d11 := eqItemS_v (jrL x0 x1)
        have d12 := mkItemS_pk (jrL x0 x1) (1) (by omega) (by omega)
        have d13 := hdItemS_v (jrL x0 x1) (1) (by omega) (by omega)
        (conv => whnf)
        (repeat' (first | (refine stg_ ?_) | (refine cla_ (c1) ?_) | (refine cla_ (c2) ?_) | (refine cla_ (d0) ?_) | (refine cla_ (d1) ?_) | (refine cla_ (d2) ?_) | (refine cla_ (d3) ?_) | (refine clk_ (d4) ?_) | (refine clk_ (d5) ?_) | (refine clk_ (d6) ?_) | (refine clk_ (d7) ?_) | (refine clk_ (d8) ?_) | (refine cla_ (d9) ?_) | (refine cla_ (d10) ?_) | (refine cla_ (d11) ?_) | (refine clk_ (d12) ?_) | (refine cla_ (d13) ?_) | (refine CallW.inl ttOk (by kernel_rfl) Tryz.func16 rfl (by kernel_rfl) (by kernel_rfl) (by rfl) (fun s => ?_); (conv => whnf)) | (refine And.intro rfl ?_; (conv => whnf)) | (refine br_ (fun hbr => ?_) (fun hbr => ?_))))
        all_goals first | (exfalso; omega) | (exfalso; simp_all; done) | (refine RetOK.d rfl rfl ?_; conv => whnf)
      · skip
        have d9 := specJoinRun_no x0 x1 hB
        have d10 := JoinRun_no x0 x1 hB
        have d11 := eqItemS_v []
        have d12 := mkItemS_nil (1)
        have d13 := hdItemS_v [] (1) (by first | decide | (simp [wSum])) (by first | decide | omega)
        (conv => whnf)
        (repeat' (first | (refine stg_ ?_) | (refine cla_ (c1) ?_) | (refine cla_ (c2) ?_) | (refine cla_ (d0) ?_) | (refine cla_ (d1) ?_) | (refine cla_ (d2) ?_) | (refine cla_ (d3) ?_) | (refine clk_ (d4) ?_) | (refine clk_ (d5) ?_) | (refine clk_ (d6) ?_) | (refine clk_ (d7) ?_) | (refine clk_ (d8) ?_) | (refine cla_ (d9) ?_) | (refine cla_ (d10) ?_) | (refine cla_ (d11) ?_) | (refine cla_ (d12) ?_) | (refine cla_ (d13) ?_) | (refine CallW.inl ttOk (by kernel_rfl) Tryz.func16 rfl (by kernel_rfl) (by kernel_rfl) (by rfl) (fun s => ?_); (conv => whnf)) | (refine And.intro rfl ?_; (conv => whnf)) | (refine br_ (fun hbr => ?_) (fun hbr => ?_))))
        all_goals first | (exfalso; omega) | (exfalso; simp_all; done) | (refine RetOK.d rfl rfl ?_; conv => whnf)
    · skip
      have e1 := szItemS_gt x1 (1048576 - (((zFeatures x0) : Nat) : Int)) (by omega) (by omega) (by omega)
      (conv => whnf)
      (repeat' (first | (refine stg_ ?_) | (refine cla_ (c1) ?_) | (refine cla_ (e1) ?_) | (refine br_ (fun hbr => ?_) (fun hbr => ?_))))
      all_goals first | (exfalso; omega) | (refine RetOK.d rfl rfl ?_; conv => whnf)
  · skip
    have e1 := szFeatures_gt x0 1048576 (by omega) (by omega) (by omega)
    (conv => whnf)
    (repeat' (first | (refine stg_ ?_) | (refine cla_ (e1) ?_) | (refine br_ (fun hbr => ?_) (fun hbr => ?_))))
    all_goals first | (exfalso; omega) | (refine RetOK.d rfl rfl ?_; conv => whnf)

theorem FnExactJoinRun_lc : LawCalls Tryz.prog 4 [27, 28] :=
  law_of_pc ⟨_, _, rfl, (arg_st Tryz.underlying27 rdt_Features (by rintro y ⟨x, rfl⟩; rfl)), ⟨_, _, rfl, (arg_sl Tryz.underlying28 rdt_ItemS (by rintro y ⟨x, rfl⟩; rfl)), rfl⟩⟩ (fun ds h => by
    obtain ⟨d0, r0, rfl, ⟨x0, rfl⟩, h0⟩ := h
    obtain ⟨d1, r1, rfl, ⟨x1, rfl⟩, h1⟩ := h0
    cases h1
    exact FnExactJoinRun_v x0 x1)
set_option maxRecDepth 100000 in
theorem FnExactJoinRun_lift (os : Os) (started : os.Started) (H : Type) (enc : TypeId × Value → H) :
    ReturnsInHanded {} Tryz.checked os 4 .any (Rows.fnExactJoinRunSpec.pre6 enc Tryz.prog Tryz.f4 Rows.fnExactJoinRunRow.domain false) (Rows.fnExactJoinRunSpec.post enc Tryz.prog Tryz.f4 false true false false) :=
  law_lift (C := Tryz.checked) (s := Rows.fnExactJoinRunSpec) (ts := [27, 28]) own laidOut (by kernel_rfl) Tryz.func4 (by rw [Tryz.params4]) rfl Tryz.underlying4
    (by simp only [List.mem_cons, List.not_mem_nil, or_false]; rintro t (rfl | rfl) <;> exact ⟨by kernel_rfl, of_decide_eq_true (by kernel_rfl)⟩) rfl
    (fun H ds h => by match ds, h with | [_, _], _ => exact ⟨rfl, rfl, rfl⟩) FnExactJoinRun_lc os started H enc
    (ChangeSpec.witness6 (enc := enc) (C := Tryz.checked) false ⟨#[], #[.agg #[.slice none 0 0, .slice none 0 0, .slice none 0 0, .slice none 0 0], .slice none 0 0], []⟩ 8 (by kernel_rfl) (by kernel_rfl) (by kernel_rfl) (by kernel_rfl))
theorem FnExactJoinRun_holds : Rows.FnExactJoinRunSaid :=
  OpenClaim.holds_of_wide 4 Tryz.f4 rfl rfl rfl rfl rfl rfl rfl ⟨rfl, rfl, rfl, rfl, rfl⟩ rfl rfl rfl rfl rfl (by kernel_rfl) Tryz.func4 (by kernel_rfl)
    (of_decide_eq_true (by kernel_rfl)) (by unfold Func.isWrapper; rw [if_neg (of_decide_eq_false (by kernel_rfl))]; exact ⟨rfl, rfl⟩)
    (fun os started H enc _ => FnExactJoinRun_lift os started H enc)
#print axioms FnExactJoinRun_holds

end Go.Proofs.YtdifjelniibmiaaGreat
