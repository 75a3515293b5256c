/- FnExactSlotsText returns true for all arguments, and leaves them as they were. No condition. -/
import Derived.Test.YtcnlmllhnmaogaaSlT
import Derived.Test.YtcnlmllhnmaogaaLV
import Derived.Test.YtcnlmllhnmaogaaRows
set_option linter.unusedSimpArgs false
set_option linter.unusedVariables false
namespace Go.Proofs.Ytcnlmllhnmaogaa
open Go.RowKit
set_option maxHeartbeats 4000000 in
theorem FnExactSlotsText_v (x0 : List TSlot) : PC Try.prog 9 [.d (.lst (x0.map TSlot.D))] (.d (.bool true)) [] := by
  refine pc_intro ttOk (by kernel_rfl) Try.func9 rfl (by kernel_rfl) (by kernel_rfl) (by kernel_rfl) (fun hw => ?_)
  have hL0 : (x0.map TSlot.D).length = x0.length := List.length_map _
  by_cases hz0 : ((x0.length : Nat) : Int) ≤ 1048576
  · skip
    (conv => whnf)
    (repeat' (first | (refine stg_ ?_) | (refine cla_ (szSlotS_le x0 1048576 (by omega) (by omega) hz0) ?_) | (refine cla_ (toSlotS_v x0 (by omega)) ?_) | (refine cla_ (eqSlotS_v x0) ?_) | (refine cla_ (specSlotsText_v x0 (by omega)) ?_) | (refine cla_ (SlotsText_v x0 (by omega)) ?_) | (refine br_ (fun hbr => ?_) (fun hbr => ?_))))
    all_goals first | (exfalso; omega) | (exfalso; simp_all; done) | (refine RetOK.d rfl rfl ?_; conv => whnf)
  · (conv => whnf)
    (repeat' (first | (refine stg_ ?_) | (refine cla_ (szSlotS_gt x0 1048576 (by omega) (by omega) (by omega)) ?_) | (refine br_ (fun hbr => ?_) (fun hbr => ?_))))
    all_goals first | (exfalso; omega) | (refine RetOK.d rfl rfl ?_; conv => whnf)

theorem FnExactSlotsText_lc : LawCalls Try.prog 9 [43] :=
  law_of_pc ⟨_, _, rfl, (arg_sl Try.underlying43 rdt_SlotS (by rintro y ⟨x, rfl⟩; rfl)), rfl⟩ (fun ds h => by
    obtain ⟨d0, r0, rfl, ⟨x0, rfl⟩, h0⟩ := h
    cases h0
    exact FnExactSlotsText_v x0)
set_option maxRecDepth 100000 in
theorem FnExactSlotsText_lift (os : Os) (started : os.Started) (H : Type) (enc : TypeId × Value → H) :
    ReturnsInHanded {} Try.checked os 9 .any (Rows.fnExactSlotsTextSpec.pre6 enc Try.prog Try.f9 Rows.fnExactSlotsTextRow.domain false) (Rows.fnExactSlotsTextSpec.post enc Try.prog Try.f9 false true false false) :=
  law_lift (C := Try.checked) (s := Rows.fnExactSlotsTextSpec) (ts := [43]) own laidOut (by kernel_rfl) Try.func9 (by rw [Try.params9]) rfl Try.underlying4
    (by simp only [List.mem_cons, List.not_mem_nil, or_false]; rintro t (rfl) <;> exact ⟨by kernel_rfl, of_decide_eq_true (by kernel_rfl)⟩) rfl
    (fun H ds h => by match ds, h with | [_], _ => exact ⟨rfl, rfl, rfl⟩) FnExactSlotsText_lc os started H enc
    (ChangeSpec.witness6 (enc := enc) (C := Try.checked) false ⟨#[], #[.slice none 0 0], []⟩ 8 (by kernel_rfl) (by kernel_rfl) (by kernel_rfl) (by kernel_rfl))
theorem FnExactSlotsText_holds : Rows.FnExactSlotsTextSaid :=
  OpenClaim.holds_of_wide 9 Try.f9 rfl rfl rfl rfl rfl rfl rfl ⟨rfl, rfl, rfl, rfl, rfl⟩ rfl rfl rfl rfl rfl (by kernel_rfl) Try.func9 (by kernel_rfl)
    (of_decide_eq_true (by kernel_rfl)) (by unfold Func.isWrapper; rw [if_neg (of_decide_eq_false (by kernel_rfl))]; exact ⟨rfl, rfl⟩)
    (fun os started H enc _ => FnExactSlotsText_lift os started H enc)
#print axioms FnExactSlotsText_holds

end Go.Proofs.Ytcnlmllhnmaogaa
