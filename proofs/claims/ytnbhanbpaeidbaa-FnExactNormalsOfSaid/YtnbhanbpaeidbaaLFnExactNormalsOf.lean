/- FnExactNormalsOf returns true for all arguments, and leaves them as they were. No condition. -/
import Derived.Test.YtnbhanbpaeidbaaAxD
import Derived.Test.YtnbhanbpaeidbaaLM
import Derived.Test.YtnbhanbpaeidbaaRows
set_option linter.unusedSimpArgs false
set_option linter.unusedVariables false
namespace Go.Proofs.Ytnbhanbpaeidbaa
open Go.RowKit
set_option maxHeartbeats 8000000 in
theorem FnExactNormalsOf_v (x0 : List TAxis) (x1 : List Int) : PC Try.prog 12 [.d (.lst (x0.map TAxis.D)), .d (.lst (x1.map (D.int .i64)))] (.d (.bool true)) [] := by
  refine pc_intro ttOk (by kernel_rfl) Try.func12 rfl (by kernel_rfl) (by kernel_rfl) (by kernel_rfl) (fun hw => ?_)
  have hL0 : (x0.map TAxis.D).length = x0.length := List.length_map _
  have hY0 : x0.length ≤ (zL zAxis x0) := by simp [zL]
  have hL1 : (x1.map (D.int .i64)).length = x1.length := List.length_map _
  by_cases hz0 : ((x1.length : Nat) : Int) ≤ 1048576
  · skip
    by_cases hz1 : (((zL zAxis x0) : Nat) : Int) ≤ 1048576
    · skip
      have c1 := szAxisS_le x0 1048576 (by omega) (by omega) hz1
      have d0 := toAxisS_v x0 (by omega)
      have d1 := eqAxisS_v x0
      have d2 := toInt64S_v x1 (by omega)
      have d3 := eqInt64S_v x1
      have hw_4 := wSum_z wgtAxis wgtAxis_le x0
      have d4 := mkAxisS_pk x0 (1) (by omega) (by omega)
      have d5 := mkInt64S_pk x1 (1 + wSum wgtAxis x0) (by omega) (by omega)
      rcases (show (axsB x0 = false ∨ x1.length ≠ x0.length) ∨ (axsB x0 = true ∧ x1.length = x0.length) by cases hB : axsB x0 <;> simp <;> omega) with hB | ⟨hB, hV⟩
      · skip
        have d6 := specNormalsOf_no x0 x1 hB
        have d7 := NormalsOf_no x0 x1 hB
        have d8 := eqInt64S_v []
        have d9 := mkInt64S_nil (1)
        have d10 := hdInt64S_v [] (1) (by first | decide | (simp [wSum])) (by first | decide | omega)
        (conv => whnf)
        (repeat' (first | (refine stg_ ?_) | (refine cla_ (c1) ?_) | (refine cla_ (d0) ?_) | (refine cla_ (d1) ?_) | (refine cla_ (d2) ?_) | (refine cla_ (d3) ?_) | (refine clk_ (d4) ?_) | (refine clk_ (d5) ?_) | (refine cla_ (d6) ?_) | (refine cla_ (d7) ?_) | (refine cla_ (d8) ?_) | (refine cla_ (d9) ?_) | (refine cla_ (d10) ?_) | (refine br_ (fun hbr => ?_) (fun hbr => ?_))))
        all_goals first | (exfalso; omega) | (exfalso; simp_all; done) | (refine RetOK.d rfl rfl ?_; conv => whnf)
      · skip
        have hl3 : x0.length ≤ 3 := by simp only [axsB, Bool.and_eq_true, decide_eq_true_eq] at hB; exact hB.1
        have d6 := specNormalsOf_v x0 x1 hB hV
        have d7 := NormalsOf_v x0 x1 hB hV
        have hl1_a : (noL x0 x1).length = x0.length := by simp [noL]; omega
        have hl1_b : ((noL x0 x1).map (D.int .i64)).length = x0.length := by rw [List.length_map]; exact hl1_a
        have hl1_c : ((mkLInt64 (1) (noL x0 x1)).map (D.int .i64)).length = x0.length := by rw [List.length_map, mkLInt64_len]; exact hl1_a
        have d8 := eqInt64S_v (noL x0 x1)
        have d9 := mkInt64S_pk (noL x0 x1) (1) (by omega) (by omega)
        have d10 := hdInt64S_v (noL x0 x1) (1) (by omega) (by omega)
        (conv => whnf)
        (repeat' (first | (refine stg_ ?_) | (refine cla_ (c1) ?_) | (refine cla_ (d0) ?_) | (refine cla_ (d1) ?_) | (refine cla_ (d2) ?_) | (refine cla_ (d3) ?_) | (refine clk_ (d4) ?_) | (refine clk_ (d5) ?_) | (refine cla_ (d6) ?_) | (refine cla_ (d7) ?_) | (refine cla_ (d8) ?_) | (refine clk_ (d9) ?_) | (refine cla_ (d10) ?_) | (refine br_ (fun hbr => ?_) (fun hbr => ?_))))
        all_goals first | (exfalso; omega) | (exfalso; simp_all; done) | (refine RetOK.d rfl rfl ?_; conv => whnf)
    · skip
      have e1 := szAxisS_gt x0 1048576 (by omega) (by omega) (by omega)
      (conv => whnf)
      (repeat' (first | (refine stg_ ?_) | (refine cla_ (e1) ?_) | (refine br_ (fun hbr => ?_) (fun hbr => ?_))))
      all_goals first | (exfalso; omega) | (refine RetOK.d rfl rfl ?_; conv => whnf)
  · skip
    (conv => whnf)
    (repeat' (first | (refine stg_ ?_) | fail | (refine br_ (fun hbr => ?_) (fun hbr => ?_))))
    all_goals first | (exfalso; omega) | (refine RetOK.d rfl rfl ?_; conv => whnf)

theorem FnExactNormalsOf_lc : LawCalls Try.prog 12 [33, 48] :=
  law_of_pc ⟨_, _, rfl, (arg_sl Try.underlying33 rdt_AxisS (by rintro y ⟨x, rfl⟩; rfl)), ⟨_, _, rfl, (arg_sl Try.underlying48 rdt_intS (by rintro y ⟨x, rfl⟩; rfl)), rfl⟩⟩ (fun ds h => by
    obtain ⟨d0, r0, rfl, ⟨x0, rfl⟩, h0⟩ := h
    obtain ⟨d1, r1, rfl, ⟨x1, rfl⟩, h1⟩ := h0
    cases h1
    exact FnExactNormalsOf_v x0 x1)
set_option maxRecDepth 100000 in
theorem FnExactNormalsOf_lift (os : Os) (started : os.Started) (H : Type) (enc : TypeId × Value → H) :
    ReturnsInHanded {} Try.checked os 12 .any (Rows.fnExactNormalsOfSpec.pre6 enc Try.prog Try.f12 Rows.fnExactNormalsOfRow.domain false) (Rows.fnExactNormalsOfSpec.post enc Try.prog Try.f12 false true false false) :=
  law_lift (C := Try.checked) (s := Rows.fnExactNormalsOfSpec) (ts := [33, 48]) own laidOut (by kernel_rfl) Try.func12 (by rw [Try.params12]) rfl Try.underlying4
    (by simp only [List.mem_cons, List.not_mem_nil, or_false]; rintro t (rfl | rfl) <;> exact ⟨by kernel_rfl, of_decide_eq_true (by kernel_rfl)⟩) rfl
    (fun H ds h => by match ds, h with | [_, _], _ => exact ⟨rfl, rfl, rfl⟩) FnExactNormalsOf_lc os started H enc
    (ChangeSpec.witness6 (enc := enc) (C := Try.checked) false ⟨#[], #[.slice none 0 0, .slice none 0 0], []⟩ 8 (by kernel_rfl) (by kernel_rfl) (by kernel_rfl) (by kernel_rfl))
theorem FnExactNormalsOf_holds : Rows.FnExactNormalsOfSaid :=
  OpenClaim.holds_of_wide 12 Try.f12 rfl rfl rfl rfl rfl rfl rfl ⟨rfl, rfl, rfl, rfl, rfl⟩ rfl rfl rfl rfl rfl (by kernel_rfl) Try.func12 (by kernel_rfl)
    (of_decide_eq_true (by kernel_rfl)) (by unfold Func.isWrapper; rw [if_neg (of_decide_eq_false (by kernel_rfl))]; exact ⟨rfl, rfl⟩)
    (fun os started H enc _ => FnExactNormalsOf_lift os started H enc)
#print axioms FnExactNormalsOf_holds

end Go.Proofs.Ytnbhanbpaeidbaa
