/- The law of VaryGlyph, lifted. -/
import Derived.Test.YtfnnlipcclklnaaGreatWFnExactVaryGlyph
import Derived.Test.YtfnnlipcclklnaaGreatRows
set_option linter.unusedSimpArgs false
set_option linter.unusedVariables false
namespace Go.Proofs.YtfnnlipcclklnaaGreat
open Go.RowKit
set_option maxRecDepth 100000 in
theorem FnExactVaryGlyph_lift (os : Os) (started : os.Started) (H : Type) (enc : TypeId × Value → H) :
    ReturnsInHanded {} Tryz.checked os 5 .any (Rows.fnExactVaryGlyphSpec.pre6 enc Tryz.prog Tryz.f5 Rows.fnExactVaryGlyphRow.domain false) (Rows.fnExactVaryGlyphSpec.post enc Tryz.prog Tryz.f5 false true false false) :=
  law_lift (C := Tryz.checked) (s := Rows.fnExactVaryGlyphSpec) (ts := [28, 25, 2, 44]) own laidOut (by kernel_rfl) Tryz.func5 (by rw [Tryz.params5]) rfl Tryz.underlying4
    (by simp only [List.mem_cons, List.not_mem_nil, or_false]; rintro t (rfl | rfl | rfl | rfl) <;> exact ⟨by kernel_rfl, of_decide_eq_true (by kernel_rfl)⟩) rfl
    (fun H ds h => by match ds, h with | [_, _, _, _], _ => exact ⟨rfl, rfl, rfl⟩) FnExactVaryGlyph_lc os started H enc
    (ChangeSpec.witness6 (enc := enc) (C := Tryz.checked) false ⟨#[], #[.agg #[.int .i64 0, .slice none 0 0], .agg #[.slice none 0 0, .slice none 0 0], .int .i64 0, .slice none 0 0], []⟩ 8 (by kernel_rfl) (by kernel_rfl) (by kernel_rfl) (by kernel_rfl))

end Go.Proofs.YtfnnlipcclklnaaGreat
