/- The law of ShapeText, walked. -/
import Derived.Test.YtcachhipflibkaaGreatShW
import Derived.Test.YtcachhipflibkaaGreatLM
import Derived.Test.YtcachhipflibkaaGreatLV
set_option linter.unusedSimpArgs false
set_option linter.unusedVariables false
namespace Go.Proofs.YtcachhipflibkaaGreat
open Go.RowKit
set_option maxHeartbeats 8000000 in
theorem FnExactShapeText_v (x0 : TGlyphSet) (x1 : TFeatures) (x2 : ByteArray) : PC Tryz.prog 6 [.d (x0.D), .d (x1.D), .d (.str x2)] (.d (.bool true)) [] := by
  refine pc_intro ttOk (by kernel_rfl) Tryz.func6 rfl (by kernel_rfl) (by kernel_rfl) (by kernel_rfl) (fun hw => ?_)
  by_cases hz0 : ((x2.size : Nat) : Int) ≤ 1048576
  · skip
    by_cases hz1 : (((zGlyphSet x0) : Nat) : Int) ≤ 1048576
    · skip
      have c1 := szGlyphSet_le x0 1048576 (by omega) (by omega) hz1
      by_cases hz2 : (((zFeatures x1) : Nat) : Int) ≤ (1048576 - (((zGlyphSet x0) : Nat) : Int))
      · skip
        have c2 := szFeatures_le x1 (1048576 - (((zGlyphSet x0) : Nat) : Int)) (by omega) (by omega) hz2
        have d0 := toGlyphSet_v x0 (by omega)
        have d1 := eqGlyphSet_v x0
        have d2 := toFeatures_v x1 (by omega)
        have d3 := eqFeatures_v x1
        have hzO : zGlyphSet x0 = zL zGlyph x0.fGlyphs := rfl
        have hzF : zFeatures x1 = zL zLookup x1.fLookups + zL zKern x1.fKerns + zL zMarkRule x1.fMarks + x1.fJoins.length := rfl
        have hw_4 := wSum_z wgtGlyph wgtGlyph_le x0.fGlyphs
        have d4 := mkGlyphS_pk x0.fGlyphs (1) (by omega) (by omega)
        have hw_5 := wSum_z wgtLookup wgtLookup_le x1.fLookups
        have d5 := mkLookupS_pk x1.fLookups (1 + wSum wgtGlyph x0.fGlyphs) (by omega) (by omega)
        have hw_6 := wSum_z wgtKern wgtKern_le x1.fKerns
        have d6 := mkKernS_pk x1.fKerns (1 + wSum wgtGlyph x0.fGlyphs + wSum wgtLookup x1.fLookups) (by omega) (by omega)
        have hw_7 := wSum_z wgtMarkRule wgtMarkRule_le x1.fMarks
        have d7 := mkMarkRuleS_pk x1.fMarks (1 + wSum wgtGlyph x0.fGlyphs + wSum wgtLookup x1.fLookups + wSum wgtKern x1.fKerns) (by omega) (by omega)
        have d8 := mkJoinS_pk x1.fJoins (1 + wSum wgtGlyph x0.fGlyphs + wSum wgtLookup x1.fLookups + wSum wgtKern x1.fKerns + wSum wgtMarkRule x1.fMarks) (by omega) (by omega)
        rcases stR_cases x0 x1 x2 with ⟨c, hB⟩ | ⟨ys, c, hlY, hB⟩
        · skip
          have d9 := specShapeText_v x0 x1 x2 (v := .tup [.nils, .d (.int .i64 c)]) (bs := []) (by rw [hB]; exact ⟨rfl, rfl⟩)
          have d10 := ShapeText_v x0 x1 x2 (v := .tup [.nils, .d (.int .i64 c)]) (bs := []) (by rw [hB]; exact ⟨rfl, rfl⟩)
          have d11 := eqSlotS_v []
          have d12 := mkSlotS_nil (1)
          have d13 := hdSlotS_v [] (1) (by first | decide | (simp [wSum])) (by first | decide | omega)
          (conv => whnf)
          (repeat' (first | (refine stg_ ?_) | (refine cla_ (c1) ?_) | (refine cla_ (c2) ?_) | (refine cla_ (d0) ?_) | (refine cla_ (d1) ?_) | (refine cla_ (d2) ?_) | (refine cla_ (d3) ?_) | (refine clk_ (d4) ?_) | (refine clk_ (d5) ?_) | (refine clk_ (d6) ?_) | (refine clk_ (d7) ?_) | (refine clk_ (d8) ?_) | (refine cla_ (d9) ?_) | (refine cla_ (d10) ?_) | (refine cla_ (d11) ?_) | (refine cla_ (d12) ?_) | (refine cla_ (d13) ?_) | (refine CallW.inl ttOk (by kernel_rfl) Tryz.func30 rfl (by kernel_rfl) (by kernel_rfl) (by rfl) (fun s => ?_); (conv => whnf)) | (refine CallW.inl ttOk (by kernel_rfl) Tryz.func15 rfl (by kernel_rfl) (by kernel_rfl) (by rfl) (fun s => ?_); (conv => whnf)) | (refine And.intro rfl ?_; (conv => whnf)) | (refine br_ (fun hbr => ?_) (fun hbr => ?_))))
          all_goals first | (exfalso; omega) | (exfalso; simp_all; done) | (refine RetOK.d rfl rfl ?_; conv => whnf)
        · skip
          have d9 := specShapeText_v x0 x1 x2 (v := .tup [.own 1 0 ys.length, .d (.int .i64 c)]) (bs := [.arr 6 (ys.map TSlot.D) true]) (by rw [hB]; exact ⟨rfl, rfl⟩)
          have d10 := ShapeText_v x0 x1 x2 (v := .tup [.own 1 0 ys.length, .d (.int .i64 c)]) (bs := [.arr 6 (ys.map TSlot.D) true]) (by rw [hB]; exact ⟨rfl, rfl⟩)
          have hl1_a : (ys).length = ys.length := rfl
          have hl1_b : ((ys).map TSlot.D).length = ys.length := by (rw [List.length_map]); first | done | exact hl1_a
          have hl1_c : ((mkLSlot (1) (ys)).map TSlot.D).length = ys.length := by (rw [List.length_map, mkLSlot_len]); first | done | exact hl1_a
          have d11 := eqSlotS_v (ys)
          have d12 := mkSlotS_pk (ys) (1) (by omega) (by omega)
          have d13 := hdSlotS_v (ys) (1) (by omega) (by omega)
          (conv => whnf)
          (repeat' (first | (refine stg_ ?_) | (refine cla_ (c1) ?_) | (refine cla_ (c2) ?_) | (refine cla_ (d0) ?_) | (refine cla_ (d1) ?_) | (refine cla_ (d2) ?_) | (refine cla_ (d3) ?_) | (refine clk_ (d4) ?_) | (refine clk_ (d5) ?_) | (refine clk_ (d6) ?_) | (refine clk_ (d7) ?_) | (refine clk_ (d8) ?_) | (refine cla_ (d9) ?_) | (refine cla_ (d10) ?_) | (refine cla_ (d11) ?_) | (refine clk_ (d12) ?_) | (refine cla_ (d13) ?_) | (refine CallW.inl ttOk (by kernel_rfl) Tryz.func30 rfl (by kernel_rfl) (by kernel_rfl) (by rfl) (fun s => ?_); (conv => whnf)) | (refine CallW.inl ttOk (by kernel_rfl) Tryz.func15 rfl (by kernel_rfl) (by kernel_rfl) (by rfl) (fun s => ?_); (conv => whnf)) | (refine And.intro rfl ?_; (conv => whnf)) | (refine br_ (fun hbr => ?_) (fun hbr => ?_))))
          all_goals first | (exfalso; omega) | (exfalso; simp_all; done) | (refine RetOK.d rfl rfl ?_; conv => whnf)
      · skip
        have e1 := szFeatures_gt x1 (1048576 - (((zGlyphSet x0) : Nat) : Int)) (by omega) (by omega) (by omega)
        (conv => whnf)
        (repeat' (first | (refine stg_ ?_) | (refine cla_ (c1) ?_) | (refine cla_ (e1) ?_) | (refine br_ (fun hbr => ?_) (fun hbr => ?_))))
        all_goals first | (exfalso; omega) | (refine RetOK.d rfl rfl ?_; conv => whnf)
    · skip
      have e1 := szGlyphSet_gt x0 1048576 (by omega) (by omega) (by omega)
      (conv => whnf)
      (repeat' (first | (refine stg_ ?_) | (refine cla_ (e1) ?_) | (refine br_ (fun hbr => ?_) (fun hbr => ?_))))
      all_goals first | (exfalso; omega) | (refine RetOK.d rfl rfl ?_; conv => whnf)
  · skip
    (conv => whnf)
    (repeat' (first | (refine stg_ ?_) | fail | (refine br_ (fun hbr => ?_) (fun hbr => ?_))))
    all_goals first | (exfalso; omega) | (refine RetOK.d rfl rfl ?_; conv => whnf)

theorem FnExactShapeText_lc : LawCalls Tryz.prog 6 [47, 27, 9] :=
  law_of_pc ⟨_, _, rfl, (arg_st Tryz.underlying47 rdt_GlyphSet (by rintro y ⟨x, rfl⟩; rfl)), ⟨_, _, rfl, (arg_st Tryz.underlying27 rdt_Features (by rintro y ⟨x, rfl⟩; rfl)), ⟨_, _, rfl, (arg_str Tryz.underlying9 rdt_str (by rintro y ⟨x, rfl⟩; rfl)), rfl⟩⟩⟩ (fun ds h => by
    obtain ⟨d0, r0, rfl, ⟨x0, rfl⟩, h0⟩ := h
    obtain ⟨d1, r1, rfl, ⟨x1, rfl⟩, h1⟩ := h0
    obtain ⟨d2, r2, rfl, ⟨x2, rfl⟩, h2⟩ := h1
    cases h2
    exact FnExactShapeText_v x0 x1 x2)

end Go.Proofs.YtcachhipflibkaaGreat
