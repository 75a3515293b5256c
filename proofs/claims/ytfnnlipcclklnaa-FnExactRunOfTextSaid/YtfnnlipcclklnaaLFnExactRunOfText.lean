/- FnExactRunOfText returns true for all arguments, and leaves them as they were. No condition. -/
import Derived.Test.YtfnnlipcclklnaaRoV
import Derived.Test.YtfnnlipcclklnaaLM
import Derived.Test.YtfnnlipcclklnaaLV
import Derived.Test.YtfnnlipcclklnaaRows
set_option linter.unusedSimpArgs false
set_option linter.unusedVariables false
namespace Go.Proofs.Ytfnnlipcclklnaa
open Go.RowKit
set_option maxHeartbeats 8000000 in
theorem FnExactRunOfText_v (x0 : TGlyphSet) (x1 : ByteArray) : PC Try.prog 3 [.d (x0.D), .d (.str x1)] (.d (.bool true)) [] := by
  refine pc_intro ttOk (by kernel_rfl) Try.func3 rfl (by kernel_rfl) (by kernel_rfl) (by kernel_rfl) (fun hw => ?_)
  by_cases hz0 : ((x1.size : Nat) : Int) ≤ 1048576
  · skip
    by_cases hz1 : (((zGlyphSet x0) : Nat) : Int) ≤ 1048576
    · skip
      have c1 := szGlyphSet_le x0 1048576 (by omega) (by omega) hz1
      have d0 := toGlyphSet_v x0 (by omega)
      have d1 := eqGlyphSet_v x0
      have hzO : zGlyphSet x0 = zL zGlyph x0.fGlyphs := rfl
      have hw_2 := wSum_z wgtGlyph wgtGlyph_le x0.fGlyphs
      have d2 := mkGlyphS_pk x0.fGlyphs (1) (by omega) (by omega)
      rcases rtV_cases x0 x1 with ⟨c, hB⟩ | ⟨ys, c, hlY, hB⟩
      · skip
        have d3 := specRunOfText_v x0 x1 (v := .tup [.nils, .d (.int .i64 c)]) (bs := []) (by rw [hB]; exact ⟨rfl, rfl⟩)
        have d4 := RunOfText_v x0 x1 (v := .tup [.nils, .d (.int .i64 c)]) (bs := []) (by rw [hB]; exact ⟨rfl, rfl⟩)
        have d5 := eqItemS_v []
        have d6 := mkItemS_nil (1)
        have d7 := hdItemS_v [] (1) (by first | decide | (simp [wSum])) (by first | decide | omega)
        (conv => whnf)
        (repeat' (first | (refine stg_ ?_) | (refine cla_ (c1) ?_) | (refine cla_ (d0) ?_) | (refine cla_ (d1) ?_) | (refine clk_ (d2) ?_) | (refine cla_ (d3) ?_) | (refine cla_ (d4) ?_) | (refine cla_ (d5) ?_) | (refine cla_ (d6) ?_) | (refine cla_ (d7) ?_) | (refine CallW.inl ttOk (by kernel_rfl) Try.func10 rfl (by kernel_rfl) (by kernel_rfl) (by rfl) (fun s => ?_); (conv => whnf)) | (refine And.intro rfl ?_; (conv => whnf)) | (refine br_ (fun hbr => ?_) (fun hbr => ?_))))
        all_goals first | (exfalso; omega) | (exfalso; simp_all; done) | (refine RetOK.d rfl rfl ?_; conv => whnf)
      · skip
        have d3 := specRunOfText_v x0 x1 (v := .tup [.own 1 0 ys.length, .d (.int .i64 c)]) (bs := [.arr 3 (ys.map TItem.D) true]) (by rw [hB]; exact ⟨rfl, rfl⟩)
        have d4 := RunOfText_v x0 x1 (v := .tup [.own 1 0 ys.length, .d (.int .i64 c)]) (bs := [.arr 3 (ys.map TItem.D) true]) (by rw [hB]; exact ⟨rfl, rfl⟩)
        have hl1_a : (ys).length = ys.length := rfl
        have hl1_b : ((ys).map TItem.D).length = ys.length := by (rw [List.length_map]); first | done | exact hl1_a
        have hl1_c : ((mkLItem (1) (ys)).map TItem.D).length = ys.length := by (rw [List.length_map, mkLItem_len]); first | done | exact hl1_a
        have d5 := eqItemS_v (ys)
        have d6 := mkItemS_pk (ys) (1) (by omega) (by omega)
        have d7 := hdItemS_v (ys) (1) (by omega) (by omega)
        (conv => whnf)
        (repeat' (first | (refine stg_ ?_) | (refine cla_ (c1) ?_) | (refine cla_ (d0) ?_) | (refine cla_ (d1) ?_) | (refine clk_ (d2) ?_) | (refine cla_ (d3) ?_) | (refine cla_ (d4) ?_) | (refine cla_ (d5) ?_) | (refine clk_ (d6) ?_) | (refine cla_ (d7) ?_) | (refine CallW.inl ttOk (by kernel_rfl) Try.func10 rfl (by kernel_rfl) (by kernel_rfl) (by rfl) (fun s => ?_); (conv => whnf)) | (refine And.intro rfl ?_; (conv => whnf)) | (refine br_ (fun hbr => ?_) (fun hbr => ?_))))
        all_goals first | (exfalso; omega) | (exfalso; simp_all; done) | (refine RetOK.d rfl rfl ?_; conv => whnf)
    · skip
      have e1 := szGlyphSet_gt x0 1048576 (by omega) (by omega) (by omega)
      (conv => whnf)
      (repeat' (first | (refine stg_ ?_) | (refine cla_ (e1) ?_) | (refine br_ (fun hbr => ?_) (fun hbr => ?_))))
      all_goals first | (exfalso; omega) | (refine RetOK.d rfl rfl ?_; conv => whnf)
  · skip
    (conv => whnf)
    (repeat' (first | (refine stg_ ?_) | fail | (refine br_ (fun hbr => ?_) (fun hbr => ?_))))
    all_goals first | (exfalso; omega) | (refine RetOK.d rfl rfl ?_; conv => whnf)

theorem FnExactRunOfText_lc : LawCalls Try.prog 3 [24, 9] :=
  law_of_pc ⟨_, _, rfl, (arg_st Try.underlying24 rdt_GlyphSet (by rintro y ⟨x, rfl⟩; rfl)), ⟨_, _, rfl, (arg_str Try.underlying9 rdt_str (by rintro y ⟨x, rfl⟩; rfl)), rfl⟩⟩ (fun ds h => by
    obtain ⟨d0, r0, rfl, ⟨x0, rfl⟩, h0⟩ := h
    obtain ⟨d1, r1, rfl, ⟨x1, rfl⟩, h1⟩ := h0
    cases h1
    exact FnExactRunOfText_v x0 x1)
set_option maxRecDepth 100000 in
theorem FnExactRunOfText_lift (os : Os) (started : os.Started) (H : Type) (enc : TypeId × Value → H) :
    ReturnsInHanded {} Try.checked os 3 .any (Rows.fnExactRunOfTextSpec.pre6 enc Try.prog Try.f3 Rows.fnExactRunOfTextRow.domain false) (Rows.fnExactRunOfTextSpec.post enc Try.prog Try.f3 false true false false) :=
  law_lift (C := Try.checked) (s := Rows.fnExactRunOfTextSpec) (ts := [24, 9]) own laidOut (by kernel_rfl) Try.func3 (by rw [Try.params3]) rfl Try.underlying4
    (by simp only [List.mem_cons, List.not_mem_nil, or_false]; rintro t (rfl | rfl) <;> exact ⟨by kernel_rfl, of_decide_eq_true (by kernel_rfl)⟩) rfl
    (fun H ds h => by match ds, h with | [_, _], _ => exact ⟨rfl, rfl, rfl⟩) FnExactRunOfText_lc os started H enc
    (ChangeSpec.witness6 (enc := enc) (C := Try.checked) false ⟨#[], #[.agg #[.int .i64 0, .slice none 0 0], .string ByteArray.empty], []⟩ 8 (by kernel_rfl) (by kernel_rfl) (by kernel_rfl) (by kernel_rfl))
theorem FnExactRunOfText_holds : Rows.FnExactRunOfTextSaid :=
  OpenClaim.holds_of_wide 3 Try.f3 rfl rfl rfl rfl rfl rfl rfl ⟨rfl, rfl, rfl, rfl, rfl⟩ rfl rfl rfl rfl rfl (by kernel_rfl) Try.func3 (by kernel_rfl)
    (of_decide_eq_true (by kernel_rfl)) (by unfold Func.isWrapper; rw [if_neg (of_decide_eq_false (by kernel_rfl))]; exact ⟨rfl, rfl⟩)
    (fun os started H enc _ => FnExactRunOfText_lift os started H enc)
#print axioms FnExactRunOfText_holds

end Go.Proofs.Ytfnnlipcclklnaa
