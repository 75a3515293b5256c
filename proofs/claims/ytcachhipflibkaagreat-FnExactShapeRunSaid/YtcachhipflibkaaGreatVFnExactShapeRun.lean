/- The law of ShapeRun, lifted. -/
import Derived.Test.YtcachhipflibkaaGreatWFnExactShapeRun
import Derived.Test.YtcachhipflibkaaGreatRows
set_option linter.unusedSimpArgs false
set_option linter.unusedVariables false
namespace Go.Proofs.YtcachhipflibkaaGreat
open Go.RowKit
set_option maxRecDepth 100000 in
theorem FnExactShapeRun_lift (os : Os) (started : os.Started) (H : Type) (enc : TypeId × Value → H) :
    ReturnsInHanded {} Tryz.checked os 7 .any (Rows.fnExactShapeRunSpec.pre6 enc Tryz.prog Tryz.f7 Rows.fnExactShapeRunRow.domain false) (Rows.fnExactShapeRunSpec.post enc Tryz.prog Tryz.f7 false true false false) :=
  law_lift (C := Tryz.checked) (s := Rows.fnExactShapeRunSpec) (ts := [47, 27, 60]) own laidOut (by kernel_rfl) Tryz.func7 (by rw [Tryz.params7]) rfl Tryz.underlying4
    (by simp only [List.mem_cons, List.not_mem_nil, or_false]; rintro t (rfl | rfl | rfl) <;> exact ⟨by kernel_rfl, of_decide_eq_true (by kernel_rfl)⟩) rfl
    (fun H ds h => by match ds, h with | [_, _, _], _ => exact ⟨rfl, rfl, rfl⟩) FnExactShapeRun_lc os started H enc
    (ChangeSpec.witness6 (enc := enc) (C := Tryz.checked) false ⟨#[], #[.agg #[.int .i64 0, .slice none 0 0], .agg #[.slice none 0 0, .slice none 0 0, .slice none 0 0, .slice none 0 0], .slice none 0 0], []⟩ 8 (by kernel_rfl) (by kernel_rfl) (by kernel_rfl) (by kernel_rfl))

end Go.Proofs.YtcachhipflibkaaGreat
