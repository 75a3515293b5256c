/- FnExactEncodeOutline returns true for all arguments, and leaves them as they were. No condition. -/
import Derived.Test.YtdjdkkacbkfmeaaEncX
import Derived.Test.YtdjdkkacbkfmeaaLV
import Derived.Test.YtdjdkkacbkfmeaaRows
set_option linter.unusedSimpArgs false
set_option linter.unusedVariables false
namespace Go.Proofs.Ytdjdkkacbkfmeaa
open Go.RowKit
set_option maxHeartbeats 4000000 in
theorem FnExactEncodeOutline_v (x0 : TOutline) : PC Try.prog 4 [.d (x0.D)] (.d (.bool true)) [] := by
  refine pc_intro ttOk (by kernel_rfl) Try.func4 rfl (by kernel_rfl) (by kernel_rfl) (by kernel_rfl) (fun hw => ?_)
  by_cases hz0 : (((zOutline x0) : Nat) : Int) ≤ 1048576
  · skip
    (conv => whnf)
    (repeat' (first | (refine stg_ ?_) | (refine cla_ (szOutline_le x0 1048576 (by omega) (by omega) hz0) ?_) | (refine cla_ (toOutline_v x0 (by omega)) ?_) | (refine cla_ (eqOutline_v x0) ?_) | (refine cla_ (specEncodeOutline_v x0) ?_) | (refine cla_ (EncodeOutline_v x0) ?_) | (refine br_ (fun hbr => ?_) (fun hbr => ?_))))
    all_goals first | (exfalso; omega) | (exfalso; simp_all; done) | (refine RetOK.d rfl rfl ?_; conv => whnf)
  · (conv => whnf)
    (repeat' (first | (refine stg_ ?_) | (refine cla_ (szOutline_gt x0 1048576 (by omega) (by omega) (by omega)) ?_) | (refine br_ (fun hbr => ?_) (fun hbr => ?_))))
    all_goals first | (exfalso; omega) | (refine RetOK.d rfl rfl ?_; conv => whnf)

theorem FnExactEncodeOutline_lc : LawCalls Try.prog 4 [36] :=
  law_of_pc ⟨_, _, rfl, (arg_st Try.underlying36 rdt_Outline (by rintro y ⟨x, rfl⟩; rfl)), rfl⟩ (fun ds h => by
    obtain ⟨d0, r0, rfl, ⟨x0, rfl⟩, h0⟩ := h
    cases h0
    exact FnExactEncodeOutline_v x0)
set_option maxRecDepth 100000 in
theorem FnExactEncodeOutline_lift (os : Os) (started : os.Started) (H : Type) (enc : TypeId × Value → H) :
    ReturnsInHanded {} Try.checked os 4 .any (Rows.fnExactEncodeOutlineSpec.pre6 enc Try.prog Try.f4 Rows.fnExactEncodeOutlineRow.domain false) (Rows.fnExactEncodeOutlineSpec.post enc Try.prog Try.f4 false true false false) :=
  law_lift (C := Try.checked) (s := Rows.fnExactEncodeOutlineSpec) (ts := [36]) own laidOut (by kernel_rfl) Try.func4 (by rw [Try.params4]) rfl Try.underlying4
    (by simp only [List.mem_cons, List.not_mem_nil, or_false]; rintro t (rfl) <;> exact ⟨by kernel_rfl, of_decide_eq_true (by kernel_rfl)⟩) rfl
    (fun H ds h => by match ds, h with | [_], _ => exact ⟨rfl, rfl, rfl⟩) FnExactEncodeOutline_lc os started H enc
    (ChangeSpec.witness6 (enc := enc) (C := Try.checked) false ⟨#[], #[.agg #[.slice none 0 0]], []⟩ 8 (by kernel_rfl) (by kernel_rfl) (by kernel_rfl) (by kernel_rfl))
theorem FnExactEncodeOutline_holds : Rows.FnExactEncodeOutlineSaid :=
  OpenClaim.holds_of_wide 4 Try.f4 rfl rfl rfl rfl rfl rfl rfl ⟨rfl, rfl, rfl, rfl, rfl⟩ rfl rfl rfl rfl rfl (by kernel_rfl) Try.func4 (by kernel_rfl)
    (of_decide_eq_true (by kernel_rfl)) (by unfold Func.isWrapper; rw [if_neg (of_decide_eq_false (by kernel_rfl))]; exact ⟨rfl, rfl⟩)
    (fun os started H enc _ => FnExactEncodeOutline_lift os started H enc)
#print axioms FnExactEncodeOutline_holds

end Go.Proofs.Ytdjdkkacbkfmeaa
