/- The law of ShapeRun, walked. -/
import Derived.Test.YtcachhipflibkaaGreatShW
import Derived.Test.YtcachhipflibkaaGreatLM
import Derived.Test.YtcachhipflibkaaGreatLV
set_option linter.unusedSimpArgs false
set_option linter.unusedVariables false
namespace Go.Proofs.YtcachhipflibkaaGreat
open Go.RowKit
set_option maxHeartbeats 8000000 in
theorem FnExactShapeRun_v (x0 : TGlyphSet) (x1 : TFeatures) (x2 : List TItem) : PC Tryz.prog 7 [.d (x0.D), .d (x1.D), .d (.lst (x2.map TItem.D))] (.d (.bool true)) [] := by
  refine pc_intro ttOk (by kernel_rfl) Tryz.func7 rfl (by kernel_rfl) (by kernel_rfl) (by kernel_rfl) (fun hw => ?_)
  have hL2 : (x2.map TItem.D).length = x2.length := List.length_map _
  by_cases hz0 : (((zGlyphSet x0) : Nat) : Int) ≤ 1048576
  · skip
    have c1 := szGlyphSet_le x0 1048576 (by omega) (by omega) hz0
    by_cases hz1 : (((zFeatures x1) : Nat) : Int) ≤ (1048576 - (((zGlyphSet x0) : Nat) : Int))
    · skip
      have c2 := szFeatures_le x1 (1048576 - (((zGlyphSet x0) : Nat) : Int)) (by omega) (by omega) hz1
      by_cases hz2 : ((x2.length : Nat) : Int) ≤ ((1048576 - (((zGlyphSet x0) : Nat) : Int)) - (((zFeatures x1) : Nat) : Int))
      · skip
        have c3 := szItemS_le x2 ((1048576 - (((zGlyphSet x0) : Nat) : Int)) - (((zFeatures x1) : Nat) : Int)) (by omega) (by omega) hz2
        have d0 := toGlyphSet_v x0 (by omega)
        have d1 := eqGlyphSet_v x0
        have d2 := toFeatures_v x1 (by omega)
        have d3 := eqFeatures_v x1
        have d4 := toItemS_v x2 (by omega)
        have d5 := eqItemS_v x2
        have hzO : zGlyphSet x0 = zL zGlyph x0.fGlyphs := rfl
        have hzF : zFeatures x1 = zL zLookup x1.fLookups + zL zKern x1.fKerns + zL zMarkRule x1.fMarks + x1.fJoins.length := rfl
        have hw_6 := wSum_z wgtGlyph wgtGlyph_le x0.fGlyphs
        have d6 := mkGlyphS_pk x0.fGlyphs (1) (by omega) (by omega)
        have hw_7 := wSum_z wgtLookup wgtLookup_le x1.fLookups
        have d7 := mkLookupS_pk x1.fLookups (1 + wSum wgtGlyph x0.fGlyphs) (by omega) (by omega)
        have hw_8 := wSum_z wgtKern wgtKern_le x1.fKerns
        have d8 := mkKernS_pk x1.fKerns (1 + wSum wgtGlyph x0.fGlyphs + wSum wgtLookup x1.fLookups) (by omega) (by omega)
        have hw_9 := wSum_z wgtMarkRule wgtMarkRule_le x1.fMarks
        have d9 := mkMarkRuleS_pk x1.fMarks (1 + wSum wgtGlyph x0.fGlyphs + wSum wgtLookup x1.fLookups + wSum wgtKern x1.fKerns) (by omega) (by omega)
        have d10 := mkJoinS_pk x1.fJoins (1 + wSum wgtGlyph x0.fGlyphs + wSum wgtLookup x1.fLookups + wSum wgtKern x1.fKerns + wSum wgtMarkRule x1.fMarks) (by omega) (by omega)
        have d11 := mkItemS_pk x2 (1 + wSum wgtGlyph x0.fGlyphs + wSum wgtLookup x1.fLookups + wSum wgtKern x1.fKerns + wSum wgtMarkRule x1.fMarks + 5 * x1.fJoins.length) (by omega) (by omega)
        rcases srR_cases x0 x1 x2 with ⟨c, hB⟩ | ⟨ys, c, hlY, hB⟩
        · skip
          have d12 := specShapeRun_v x0 x1 x2 (v := .tup [.nils, .d (.int .i64 c)]) (bs := []) (by rw [hB]; exact ⟨rfl, rfl⟩)
          have d13 := ShapeRun_v x0 x1 x2 (v := .tup [.nils, .d (.int .i64 c)]) (bs := []) (by rw [hB]; exact ⟨rfl, rfl⟩)
          have d14 := eqSlotS_v []
          have d15 := mkSlotS_nil (1)
          have d16 := hdSlotS_v [] (1) (by first | decide | (simp [wSum])) (by first | decide | omega)
          (conv => whnf)
          (repeat' (first | (refine stg_ ?_) | (refine cla_ (c1) ?_) | (refine cla_ (c2) ?_) | (refine cla_ (c3) ?_) | (refine cla_ (d0) ?_) | (refine cla_ (d1) ?_) | (refine cla_ (d2) ?_) | (refine cla_ (d3) ?_) | (refine cla_ (d4) ?_) | (refine cla_ (d5) ?_) | (refine clk_ (d6) ?_) | (refine clk_ (d7) ?_) | (refine clk_ (d8) ?_) | (refine clk_ (d9) ?_) | (refine clk_ (d10) ?_) | (refine clk_ (d11) ?_) | (refine cla_ (d12) ?_) | (refine cla_ (d13) ?_) | (refine cla_ (d14) ?_) | (refine cla_ (d15) ?_) | (refine cla_ (d16) ?_) | (refine CallW.inl ttOk (by kernel_rfl) Tryz.func30 rfl (by kernel_rfl) (by kernel_rfl) (by rfl) (fun s => ?_); (conv => whnf)) | (refine CallW.inl ttOk (by kernel_rfl) Tryz.func15 rfl (by kernel_rfl) (by kernel_rfl) (by rfl) (fun s => ?_); (conv => whnf)) | (refine And.intro rfl ?_; (conv => whnf)) | (refine br_ (fun hbr => ?_) (fun hbr => ?_))))
          all_goals first | (exfalso; omega) | (exfalso; simp_all; done) | (refine RetOK.d rfl rfl ?_; conv => whnf)
        · skip
          have d12 := specShapeRun_v x0 x1 x2 (v := .tup [.own 1 0 ys.length, .d (.int .i64 c)]) (bs := [.arr 6 (ys.map TSlot.D) true]) (by rw [hB]; exact ⟨rfl, rfl⟩)
          have d13 := ShapeRun_v x0 x1 x2 (v := .tup [.own 1 0 ys.length, .d (.int .i64 c)]) (bs := [.arr 6 (ys.map TSlot.D) true]) (by rw [hB]; exact ⟨rfl, rfl⟩)
          have hl1_a : (ys).length = ys.length := rfl
          have hl1_b : ((ys).map TSlot.D).length = ys.length := by (rw [List.length_map]); first | done | exact hl1_a
          have hl1_c : ((mkLSlot (1) (ys)).map TSlot.D).length = ys.length := by (rw [List.length_map, mkLSlot_len]); first | done | exact hl1_a
          have d14 := eqSlotS_v (ys)
          have d15 := mkSlotS_pk (ys) (1) (by omega) (by omega)
          have d16 := hdSlotS_v (ys) (1) (by omega) (by omega)
          (conv => whnf)
          (repeat' (first | (refine stg_ ?_) | (refine cla_ (c1) ?_) | (refine cla_ (c2) ?_) | (refine cla_ (c3) ?_) | (refine cla_ (d0) ?_) | (refine cla_ (d1) ?_) | (refine cla_ (d2) ?_) | (refine cla_ (d3) ?_) | (refine cla_ (d4) ?_) | (refine cla_ (d5) ?_) | (refine clk_ (d6) ?_) | (refine clk_ (d7) ?_) | (refine clk_ (d8) ?_) | (refine clk_ (d9) ?_) | (refine clk_ (d10) ?_) | (refine clk_ (d11) ?_) | (refine cla_ (d12) ?_) | (refine cla_ (d13) ?_) | (refine cla_ (d14) ?_) | (refine clk_ (d15) ?_) | (refine cla_ (d16) ?_) | (refine CallW.inl ttOk (by kernel_rfl) Tryz.func30 rfl (by kernel_rfl) (by kernel_rfl) (by rfl) (fun s => ?_); (conv => whnf)) | (refine CallW.inl ttOk (by kernel_rfl) Tryz.func15 rfl (by kernel_rfl) (by kernel_rfl) (by rfl) (fun s => ?_); (conv => whnf)) | (refine And.intro rfl ?_; (conv => whnf)) | (refine br_ (fun hbr => ?_) (fun hbr => ?_))))
          all_goals first | (exfalso; omega) | (exfalso; simp_all; done) | (refine RetOK.d rfl rfl ?_; conv => whnf)
      · skip
        have e1 := szItemS_gt x2 ((1048576 - (((zGlyphSet x0) : Nat) : Int)) - (((zFeatures x1) : Nat) : Int)) (by omega) (by omega) (by omega)
        (conv => whnf)
        (repeat' (first | (refine stg_ ?_) | (refine cla_ (c1) ?_) | (refine cla_ (c2) ?_) | (refine cla_ (e1) ?_) | (refine br_ (fun hbr => ?_) (fun hbr => ?_))))
        all_goals first | (exfalso; omega) | (refine RetOK.d rfl rfl ?_; conv => whnf)
    · skip
      have e1 := szFeatures_gt x1 (1048576 - (((zGlyphSet x0) : Nat) : Int)) (by omega) (by omega) (by omega)
      (conv => whnf)
      (repeat' (first | (refine stg_ ?_) | (refine cla_ (c1) ?_) | (refine cla_ (e1) ?_) | (refine br_ (fun hbr => ?_) (fun hbr => ?_))))
      all_goals first | (exfalso; omega) | (refine RetOK.d rfl rfl ?_; conv => whnf)
  · skip
    have e1 := szGlyphSet_gt x0 1048576 (by omega) (by omega) (by omega)
    (conv => whnf)
    (repeat' (first | (refine stg_ ?_) | (refine cla_ (e1) ?_) | (refine br_ (fun hbr => ?_) (fun hbr => ?_))))
    all_goals first | (exfalso; omega) | (refine RetOK.d rfl rfl ?_; conv => whnf)

theorem FnExactShapeRun_lc : LawCalls Tryz.prog 7 [47, 27, 60] :=
  law_of_pc ⟨_, _, rfl, (arg_st Tryz.underlying47 rdt_GlyphSet (by rintro y ⟨x, rfl⟩; rfl)), ⟨_, _, rfl, (arg_st Tryz.underlying27 rdt_Features (by rintro y ⟨x, rfl⟩; rfl)), ⟨_, _, rfl, (arg_sl Tryz.underlying60 rdt_ItemS (by rintro y ⟨x, rfl⟩; rfl)), rfl⟩⟩⟩ (fun ds h => by
    obtain ⟨d0, r0, rfl, ⟨x0, rfl⟩, h0⟩ := h
    obtain ⟨d1, r1, rfl, ⟨x1, rfl⟩, h1⟩ := h0
    obtain ⟨d2, r2, rfl, ⟨x2, rfl⟩, h2⟩ := h1
    cases h2
    exact FnExactShapeRun_v x0 x1 x2)

end Go.Proofs.YtcachhipflibkaaGreat
