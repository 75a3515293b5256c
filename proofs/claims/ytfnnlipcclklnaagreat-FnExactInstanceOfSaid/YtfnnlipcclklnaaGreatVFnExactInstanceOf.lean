/- The law of InstanceOf, lifted. -/
import Derived.Test.YtfnnlipcclklnaaGreatWFnExactInstanceOf
import Derived.Test.YtfnnlipcclklnaaGreatRows
set_option linter.unusedSimpArgs false
set_option linter.unusedVariables false
namespace Go.Proofs.YtfnnlipcclklnaaGreat
open Go.RowKit
set_option maxRecDepth 100000 in
theorem FnExactInstanceOf_lift (os : Os) (started : os.Started) (H : Type) (enc : TypeId × Value → H) :
    ReturnsInHanded {} Tryz.checked os 6 .any (Rows.fnExactInstanceOfSpec.pre6 enc Tryz.prog Tryz.f6 Rows.fnExactInstanceOfRow.domain false) (Rows.fnExactInstanceOfSpec.post enc Tryz.prog Tryz.f6 false true false false) :=
  law_lift (C := Tryz.checked) (s := Rows.fnExactInstanceOfSpec) (ts := [28, 25, 44]) own laidOut (by kernel_rfl) Tryz.func6 (by rw [Tryz.params6]) rfl Tryz.underlying4
    (by simp only [List.mem_cons, List.not_mem_nil, or_false]; rintro t (rfl | rfl | rfl) <;> exact ⟨by kernel_rfl, of_decide_eq_true (by kernel_rfl)⟩) rfl
    (fun H ds h => by match ds, h with | [_, _, _], _ => exact ⟨rfl, rfl, rfl⟩) FnExactInstanceOf_lc os started H enc
    (ChangeSpec.witness6 (enc := enc) (C := Tryz.checked) false ⟨#[], #[.agg #[.int .i64 0, .slice none 0 0], .agg #[.slice none 0 0, .slice none 0 0], .slice none 0 0], []⟩ 8 (by kernel_rfl) (by kernel_rfl) (by kernel_rfl) (by kernel_rfl))

end Go.Proofs.YtfnnlipcclklnaaGreat
