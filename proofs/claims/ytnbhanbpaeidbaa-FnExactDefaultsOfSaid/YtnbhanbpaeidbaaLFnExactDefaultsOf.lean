/- FnExactDefaultsOf returns true for all arguments, and leaves them as they were. No condition. -/
import Derived.Test.YtnbhanbpaeidbaaAxD
import Derived.Test.YtnbhanbpaeidbaaLM
import Derived.Test.YtnbhanbpaeidbaaRows
set_option linter.unusedSimpArgs false
set_option linter.unusedVariables false
namespace Go.Proofs.Ytnbhanbpaeidbaa
open Go.RowKit
set_option maxHeartbeats 4000000 in
theorem FnExactDefaultsOf_v (x0 : List TAxis) : PC Try.prog 11 [.d (.lst (x0.map TAxis.D))] (.d (.bool true)) [] := by
  refine pc_intro ttOk (by kernel_rfl) Try.func11 rfl (by kernel_rfl) (by kernel_rfl) (by kernel_rfl) (fun hw => ?_)
  have hL0 : (x0.map TAxis.D).length = x0.length := List.length_map _
  by_cases hz0 : (((zL zAxis x0) : Nat) : Int) ≤ 1048576
  · have hw0 := wSum_z wgtAxis wgtAxis_le x0
    have c1 := szAxisS_le x0 1048576 (by omega) (by omega) hz0
    have c2 := toAxisS_v x0 (by omega)
    have c3 := eqAxisS_v x0
    have c4 := mkAxisS_pk x0 1 (by omega) (by omega)
    cases hB : axsB x0
    · have c5 := specDefaultsOf_no x0 hB
      have c6 := DefaultsOf_no x0 hB
      have c7 := eqInt64S_v []
      have c8 := mkInt64S_nil 1
      have c9 := hdInt64S_v [] 1 (by decide) (by decide)
      (conv => whnf)
      (repeat' (first | (refine stg_ ?_) | (refine cla_ (c1) ?_) | (refine cla_ (c2) ?_) | (refine cla_ (c3) ?_) | (refine clk_ (c4) ?_) | (refine cla_ (c5) ?_) | (refine cla_ (c6) ?_) | (refine cla_ (c7) ?_) | (refine cla_ (c8) ?_) | (refine cla_ (c9) ?_) | (refine br_ (fun hbr => ?_) (fun hbr => ?_))))
      all_goals first | (exfalso; omega) | (exfalso; simp_all; done) | (refine RetOK.d rfl rfl ?_; conv => whnf)
    · have hl : (dfL x0).length = x0.length := List.length_map _
      have hl2 : ((dfL x0).map (D.int .i64)).length = x0.length := by simp [dfL]
      have hl4 : ((mkLInt64 1 (dfL x0)).map (D.int .i64)).length = x0.length := by simp [mkLInt64_len, dfL]
      have hl3 : x0.length ≤ 3 := by simp only [axsB, Bool.and_eq_true, decide_eq_true_eq] at hB; exact hB.1
      have c5 := specDefaultsOf_v x0 hB
      have c6 := DefaultsOf_v x0 hB
      have c7 := eqInt64S_v (dfL x0)
      have c8 := mkInt64S_pk (dfL x0) 1 (by omega) (by omega)
      have c9 := hdInt64S_v (dfL x0) 1 (by omega) (by decide)
      (conv => whnf)
      (repeat' (first | (refine stg_ ?_) | (refine cla_ (c1) ?_) | (refine cla_ (c2) ?_) | (refine cla_ (c3) ?_) | (refine clk_ (c4) ?_) | (refine cla_ (c5) ?_) | (refine cla_ (c6) ?_) | (refine cla_ (c7) ?_) | (refine clk_ (c8) ?_) | (refine cla_ (c9) ?_) | (refine br_ (fun hbr => ?_) (fun hbr => ?_))))
      all_goals first | (exfalso; omega) | (exfalso; simp_all; done) | (refine RetOK.d rfl rfl ?_; conv => whnf)
  · have c1 := szAxisS_gt x0 1048576 (by omega) (by omega) (by omega)
    (conv => whnf)
    (repeat' (first | (refine stg_ ?_) | (refine cla_ (c1) ?_) | (refine br_ (fun hbr => ?_) (fun hbr => ?_))))
    all_goals first | (exfalso; omega) | (refine RetOK.d rfl rfl ?_; conv => whnf)
theorem FnExactDefaultsOf_lc : LawCalls Try.prog 11 [33] :=
  law_of_pc ⟨_, _, rfl, (arg_sl Try.underlying33 rdt_AxisS (by rintro y ⟨x, rfl⟩; rfl)), rfl⟩ (fun ds h => by
    obtain ⟨d0, r0, rfl, ⟨x0, rfl⟩, h0⟩ := h
    cases h0
    exact FnExactDefaultsOf_v x0)
set_option maxRecDepth 100000 in
theorem FnExactDefaultsOf_lift (os : Os) (started : os.Started) (H : Type) (enc : TypeId × Value → H) :
    ReturnsInHanded {} Try.checked os 11 .any (Rows.fnExactDefaultsOfSpec.pre6 enc Try.prog Try.f11 Rows.fnExactDefaultsOfRow.domain false) (Rows.fnExactDefaultsOfSpec.post enc Try.prog Try.f11 false true false false) :=
  law_lift (C := Try.checked) (s := Rows.fnExactDefaultsOfSpec) (ts := [33]) own laidOut (by kernel_rfl) Try.func11 (by rw [Try.params11]) rfl Try.underlying4
    (by simp only [List.mem_cons, List.not_mem_nil, or_false]; rintro t (rfl) <;> exact ⟨by kernel_rfl, of_decide_eq_true (by kernel_rfl)⟩) rfl
    (fun H ds h => by match ds, h with | [_], _ => exact ⟨rfl, rfl, rfl⟩) FnExactDefaultsOf_lc os started H enc
    (ChangeSpec.witness6 (enc := enc) (C := Try.checked) false ⟨#[], #[.slice none 0 0], []⟩ 8 (by kernel_rfl) (by kernel_rfl) (by kernel_rfl) (by kernel_rfl))
theorem FnExactDefaultsOf_holds : Rows.FnExactDefaultsOfSaid :=
  OpenClaim.holds_of_wide 11 Try.f11 rfl rfl rfl rfl rfl rfl rfl ⟨rfl, rfl, rfl, rfl, rfl⟩ rfl rfl rfl rfl rfl (by kernel_rfl) Try.func11 (by kernel_rfl)
    (of_decide_eq_true (by kernel_rfl)) (by unfold Func.isWrapper; rw [if_neg (of_decide_eq_false (by kernel_rfl))]; exact ⟨rfl, rfl⟩)
    (fun os started H enc _ => FnExactDefaultsOf_lift os started H enc)
#print axioms FnExactDefaultsOf_holds

end Go.Proofs.Ytnbhanbpaeidbaa
