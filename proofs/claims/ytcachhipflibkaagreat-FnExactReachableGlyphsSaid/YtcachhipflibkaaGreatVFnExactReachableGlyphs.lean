/- The law of ReachableGlyphs, lifted. -/
import Derived.Test.YtcachhipflibkaaGreatWFnExactReachableGlyphs
import Derived.Test.YtcachhipflibkaaGreatRows
set_option linter.unusedSimpArgs false
set_option linter.unusedVariables false
namespace Go.Proofs.YtcachhipflibkaaGreat
open Go.RowKit
set_option maxRecDepth 100000 in
theorem FnExactReachableGlyphs_lift (os : Os) (started : os.Started) (H : Type) (enc : TypeId × Value → H) :
    ReturnsInHanded {} Tryz.checked os 3 .any (Rows.fnExactReachableGlyphsSpec.pre6 enc Tryz.prog Tryz.f3 Rows.fnExactReachableGlyphsRow.domain false) (Rows.fnExactReachableGlyphsSpec.post enc Tryz.prog Tryz.f3 false true false false) :=
  law_lift (C := Tryz.checked) (s := Rows.fnExactReachableGlyphsSpec) (ts := [27, 28]) own laidOut (by kernel_rfl) Tryz.func3 (by rw [Tryz.params3]) rfl Tryz.underlying4
    (by simp only [List.mem_cons, List.not_mem_nil, or_false]; rintro t (rfl | rfl) <;> exact ⟨by kernel_rfl, of_decide_eq_true (by kernel_rfl)⟩) rfl
    (fun H ds h => by match ds, h with | [_, _], _ => exact ⟨rfl, rfl, rfl⟩) FnExactReachableGlyphs_lc os started H enc
    (ChangeSpec.witness6 (enc := enc) (C := Tryz.checked) false ⟨#[], #[.agg #[.slice none 0 0, .slice none 0 0, .slice none 0 0, .slice none 0 0], .slice none 0 0], []⟩ 8 (by kernel_rfl) (by kernel_rfl) (by kernel_rfl) (by kernel_rfl))

end Go.Proofs.YtcachhipflibkaaGreat
