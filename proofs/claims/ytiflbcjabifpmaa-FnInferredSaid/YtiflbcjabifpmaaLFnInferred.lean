/- FnInferred returns true for all codes and choices. No condition. -/
import Derived.Test.YtiflbcjabifpmaaRdB
import Derived.Test.YtiflbcjabifpmaaLV
import Derived.Test.YtiflbcjabifpmaaRows
set_option linter.unusedSimpArgs false
set_option linter.unusedVariables false
namespace Go.Proofs.Ytiflbcjabifpmaa
open Go.RowKit
theorem FnInferred_lc : LawCalls Try.prog 3 [22, 22] :=
  law_of_pc ⟨_, _, rfl, (arg_sl Try.underlying22 rdt_byteS (by rintro y ⟨x, rfl⟩; rfl)), ⟨_, _, rfl, (arg_sl Try.underlying22 rdt_byteS (by rintro y ⟨x, rfl⟩; rfl)), rfl⟩⟩ (fun ds h => by
    obtain ⟨d0, r0, rfl, ⟨x0, rfl⟩, h0⟩ := h
    obtain ⟨d1, r1, rfl, ⟨x1, rfl⟩, h1⟩ := h0
    cases h1
    exact FnInferred_v x0 x1)
set_option maxRecDepth 100000 in
theorem FnInferred_lift (os : Os) (started : os.Started) (H : Type) (enc : TypeId × Value → H) :
    ReturnsInHanded {} Try.checked os 3 .any (Rows.fnInferredSpec.pre6 enc Try.prog Try.f3 Rows.fnInferredRow.domain false) (Rows.fnInferredSpec.post enc Try.prog Try.f3 false true false false) :=
  law_lift (C := Try.checked) (s := Rows.fnInferredSpec) (ts := [22, 22]) own laidOut (by kernel_rfl) Try.func3 (by rw [Try.params3]) rfl Try.underlying4
    (by simp only [List.mem_cons, List.not_mem_nil, or_false]; rintro t (rfl | rfl) <;> exact ⟨by kernel_rfl, of_decide_eq_true (by kernel_rfl)⟩) rfl
    (fun H ds h => by match ds, h with | [_, _], _ => exact ⟨rfl, rfl, rfl⟩) FnInferred_lc os started H enc
    (ChangeSpec.witness6 (enc := enc) (C := Try.checked) false ⟨#[], #[.slice none 0 0, .slice none 0 0], []⟩ 8 (by kernel_rfl) (by kernel_rfl) (by kernel_rfl) (by kernel_rfl))
set_option maxHeartbeats 40000000 in
theorem FnInferred_holds : Rows.FnInferredSaid :=
  OpenClaim.holds_of_wide 3 Try.f3 rfl rfl rfl rfl rfl rfl rfl ⟨rfl, rfl, rfl, rfl, rfl⟩ rfl rfl rfl rfl rfl (by kernel_rfl) Try.func3 (by unfold joinedFacts; (repeat' ((with_reducible refine Bool.and_eq_true_iff.2 (And.intro ?_ ?_)))) <;> (as_aux_lemma => kernel_rfl))
    (of_decide_eq_true (by kernel_rfl)) (by unfold Func.isWrapper; rw [if_neg (of_decide_eq_false (by kernel_rfl))]; exact ⟨rfl, rfl⟩)
    (fun os started H enc _ => FnInferred_lift os started H enc)
#print axioms FnInferred_holds

end Go.Proofs.Ytiflbcjabifpmaa
