/- FnExactMarkFor returns true for all arguments, and leaves them as they were. No condition. -/
import Derived.Test.YtbnopcnlbcgdlaaGreatJoW
import Derived.Test.YtbnopcnlbcgdlaaGreatLV
import Derived.Test.YtbnopcnlbcgdlaaGreatRows
set_option linter.unusedSimpArgs false
set_option linter.unusedVariables false
namespace Go.Proofs.YtbnopcnlbcgdlaaGreat
open Go.RowKit
set_option maxHeartbeats 4000000 in
theorem FnExactMarkFor_v (x0 : TFeatures) (x1 : Int) (x2 : Int) : PC Tryz.prog 7 [.d (x0.D), .d (.int .i64 x1), .d (.int .i64 x2)] (.d (.bool true)) [] := by
  refine pc_intro ttOk (by kernel_rfl) Tryz.func7 rfl (by kernel_rfl) (by kernel_rfl) (by kernel_rfl) (fun hw => ?_)
  by_cases hz0 : (((zFeatures x0) : Nat) : Int) ≤ 1048576
  · skip
    have d0 := szFeatures_le x0 1048576 (by omega) (by omega) hz0
    have d1 := toFeatures_v x0 (by omega)
    have d2 := eqFeatures_v x0
    have d3 := specMarkFor_v x0 x1 x2
    have d4 := MarkFor_v x0 x1 x2
    (conv => whnf)
    (repeat' (first | (refine stg_ ?_) | (refine cla_ (d0) ?_) | (refine cla_ (d1) ?_) | (refine cla_ (d2) ?_) | (refine cla_ (d3) ?_) | (refine cla_ (d4) ?_) | (refine br_ (fun hbr => ?_) (fun hbr => ?_))))
    all_goals first | (exfalso; omega) | (exfalso; simp_all; done) | (refine RetOK.d rfl rfl ?_; conv => whnf)
  · (conv => whnf)
    (repeat' (first | (refine stg_ ?_) | (refine cla_ (szFeatures_gt x0 1048576 (by omega) (by omega) (by omega)) ?_) | (refine br_ (fun hbr => ?_) (fun hbr => ?_))))
    all_goals first | (exfalso; omega) | (refine RetOK.d rfl rfl ?_; conv => whnf)

theorem FnExactMarkFor_lc : LawCalls Tryz.prog 7 [27, 2, 2] :=
  law_of_pc ⟨_, _, rfl, (arg_st Tryz.underlying27 rdt_Features (by rintro y ⟨x, rfl⟩; rfl)), ⟨_, _, rfl, (arg_int Tryz.underlying2 rdt_int (by rintro y ⟨x, rfl⟩; rfl)), ⟨_, _, rfl, (arg_int Tryz.underlying2 rdt_int (by rintro y ⟨x, rfl⟩; rfl)), rfl⟩⟩⟩ (fun ds h => by
    obtain ⟨d0, r0, rfl, ⟨x0, rfl⟩, h0⟩ := h
    obtain ⟨d1, r1, rfl, ⟨x1, rfl⟩, h1⟩ := h0
    obtain ⟨d2, r2, rfl, ⟨x2, rfl⟩, h2⟩ := h1
    cases h2
    exact FnExactMarkFor_v x0 x1 x2)
set_option maxRecDepth 100000 in
theorem FnExactMarkFor_lift (os : Os) (started : os.Started) (H : Type) (enc : TypeId × Value → H) :
    ReturnsInHanded {} Tryz.checked os 7 .any (Rows.fnExactMarkForSpec.pre6 enc Tryz.prog Tryz.f7 Rows.fnExactMarkForRow.domain false) (Rows.fnExactMarkForSpec.post enc Tryz.prog Tryz.f7 false true false false) :=
  law_lift (C := Tryz.checked) (s := Rows.fnExactMarkForSpec) (ts := [27, 2, 2]) own laidOut (by kernel_rfl) Tryz.func7 (by rw [Tryz.params7]) rfl Tryz.underlying4
    (by simp only [List.mem_cons, List.not_mem_nil, or_false]; rintro t (rfl | rfl | rfl) <;> exact ⟨by kernel_rfl, of_decide_eq_true (by kernel_rfl)⟩) rfl
    (fun H ds h => by match ds, h with | [_, _, _], _ => exact ⟨rfl, rfl, rfl⟩) FnExactMarkFor_lc os started H enc
    (ChangeSpec.witness6 (enc := enc) (C := Tryz.checked) false ⟨#[], #[.agg #[.slice none 0 0, .slice none 0 0, .slice none 0 0, .slice none 0 0], .int .i64 0, .int .i64 0], []⟩ 8 (by kernel_rfl) (by kernel_rfl) (by kernel_rfl) (by kernel_rfl))
theorem FnExactMarkFor_holds : Rows.FnExactMarkForSaid :=
  OpenClaim.holds_of_wide 7 Tryz.f7 rfl rfl rfl rfl rfl rfl rfl ⟨rfl, rfl, rfl, rfl, rfl⟩ rfl rfl rfl rfl rfl (by kernel_rfl) Tryz.func7 (by kernel_rfl)
    (of_decide_eq_true (by kernel_rfl)) (by unfold Func.isWrapper; rw [if_neg (of_decide_eq_false (by kernel_rfl))]; exact ⟨rfl, rfl⟩)
    (fun os started H enc _ => FnExactMarkFor_lift os started H enc)
#print axioms FnExactMarkFor_holds

end Go.Proofs.YtbnopcnlbcgdlaaGreat
