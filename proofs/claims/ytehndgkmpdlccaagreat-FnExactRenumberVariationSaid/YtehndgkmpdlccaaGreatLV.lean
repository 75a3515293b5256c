/- The laws' own functions (sizes, copies, comparisons): what each returns. Written by a program (wip/tools/gen_lv.py). -/
import Derived.Test.YtehndgkmpdlccaaGreatLVBase
set_option linter.unusedSimpArgs false
set_option linter.unusedVariables false
namespace Go.Proofs.YtehndgkmpdlccaaGreat
open Go.RowKit
def zL {α : Type} (f : α → Nat) (xs : List α) : Nat := xs.length + (xs.map f).sum
def zAxis (x : TAxis) : Nat := x.fName.size + x.fMap.length
def TAxis.V (x : TAxis) : V := .st [.d (.str x.fName), .d (.int .i64 x.fMin), .d (.int .i64 x.fDefault), .d (.int .i64 x.fMax), .own 1 0 x.fMap.length]
def TAxis.bs (x : TAxis) : List Blk := [.arr 2 (x.fMap.map TAxisPoint.D) true]
def zGlyphDelta (x : TGlyphDelta) : Nat := x.fKnots.length + x.fMoves.length
def TGlyphDelta.V (x : TGlyphDelta) : V := .st [.d (.int .i64 x.fGlyph), .own 1 0 x.fKnots.length, .own 2 0 x.fMoves.length, .d (.int .i64 x.fAdvance)]
def TGlyphDelta.bs (x : TGlyphDelta) : List Blk := [.arr 1 (x.fKnots.map (D.int .i64)) true, .arr 2 (x.fMoves.map TPt.D) true]
def zMaster (x : TMaster) : Nat := x.fPeaks.length + (zL zGlyphDelta x.fDeltas)
def TMaster.V (x : TMaster) : V := .st [.own 1 0 x.fPeaks.length, .own 2 0 x.fDeltas.length]
def TMaster.bs (x : TMaster) : List Blk := [.arr 3 (x.fPeaks.map TPeak.D) true, .arr 4 (x.fDeltas.map TGlyphDelta.D) true]
def zVariation (x : TVariation) : Nat := (zL zAxis x.fAxes) + (zL zMaster x.fMasters)
def TVariation.V (x : TVariation) : V := .st [.own 1 0 x.fAxes.length, .own 2 0 x.fMasters.length]
def TVariation.bs (x : TVariation) : List Blk := [.arr 5 (x.fAxes.map TAxis.D) true, .arr 2 (x.fMasters.map TMaster.D) true]
def TLoop.V (x : TLoop) : V := .st [.own 1 0 x.fKnots.length]
def TLoop.bs (x : TLoop) : List Blk := [.arr 3 (x.fKnots.map TKnot.D) true]
def TOutline.V (x : TOutline) : V := .st [.own 1 0 x.fLoops.length]
def TOutline.bs (x : TOutline) : List Blk := [.arr 1 (x.fLoops.map TLoop.D) true]
def TRule.V (x : TRule) : V := .st [.own 1 0 x.fBefore.length, .own 2 0 x.fInput.length, .own 3 0 x.fAfter.length, .own 4 0 x.fOutput.length]
def TRule.bs (x : TRule) : List Blk := [.arr 1 (x.fBefore.map (lstD (D.int .i64))) true, .arr 1 (x.fInput.map (lstD (D.int .i64))) true, .arr 1 (x.fAfter.map (lstD (D.int .i64))) true, .arr 1 (x.fOutput.map (D.int .i64)) true]
def TLookup.V (x : TLookup) : V := .st [.d (.str x.fName), .own 1 0 x.fRules.length]
def TLookup.bs (x : TLookup) : List Blk := [.arr 4 (x.fRules.map TRule.D) true]
def TKern.V (x : TKern) : V := .st [.own 1 0 x.fLeft.length, .own 2 0 x.fRight.length, .d (.int .i64 x.fValue)]
def TKern.bs (x : TKern) : List Blk := [.arr 1 (x.fLeft.map (D.int .i64)) true, .arr 1 (x.fRight.map (D.int .i64)) true]
def TMarkRule.V (x : TMarkRule) : V := .st [.own 1 0 x.fMarks.length, .own 2 0 x.fBases.length, .d (.str x.fAnchor)]
def TMarkRule.bs (x : TMarkRule) : List Blk := [.arr 1 (x.fMarks.map (D.int .i64)) true, .arr 1 (x.fBases.map (D.int .i64)) true]
def TFeatures.V (x : TFeatures) : V := .st [.own 1 0 x.fLookups.length, .own 2 0 x.fKerns.length, .own 3 0 x.fMarks.length, .own 4 0 x.fJoins.length]
def TFeatures.bs (x : TFeatures) : List Blk := [.arr 2 (x.fLookups.map TLookup.D) true, .arr 3 (x.fKerns.map TKern.D) true, .arr 3 (x.fMarks.map TMarkRule.D) true, .arr 5 (x.fJoins.map TJoin.D) true]
def TGlyph.V (x : TGlyph) : V := .st [.d (.str x.fName), .d (.int .i64 x.fCode), .d (.int .i64 x.fAdvance), .st [.own 1 0 x.fOutline.fLoops.length], .own 2 0 x.fParts.length, .own 3 0 x.fAnchors.length, .d (.str x.fHints)]
def TGlyph.bs (x : TGlyph) : List Blk := [.arr 1 (x.fOutline.fLoops.map TLoop.D) true, .arr 3 (x.fParts.map TPart.D) true, .arr 3 (x.fAnchors.map TAnchor.D) true]
def TGlyphSet.V (x : TGlyphSet) : V := .st [.d (.int .i64 x.fUnit), .own 1 0 x.fGlyphs.length]
def TGlyphSet.bs (x : TGlyphSet) : List Blk := [.arr 7 (x.fGlyphs.map TGlyph.D) true]

set_option maxRecDepth 100000 in
set_option maxHeartbeats 2000000 in
theorem szPeakS_v (xs : List TPeak) (left : Int) (hl : left ≤ 1048576) (h0 : 0 ≤ left) : PC Tryz.prog 63 [.d (lstD TPeak.D xs), .d (.int .i64 left)] (.d (.int .i64 (szR left xs.length))) [] := by
  refine pc_intro ttOk (by kernel_rfl) Tryz.func63 rfl (by kernel_rfl) (by kernel_rfl) (by kernel_rfl) (fun hw => ?_)
  have hm : (xs.map TPeak.D).length ≤ maxLen := hw.1.1
  have hL : (xs.map TPeak.D).length = xs.length := by simp
  unfold maxLen at hm
  (conv => whnf)
  (repeat (refine stg_ ?_))
  split
  · rename_i h1
    have h1 := of_decide_eq_true h1
    (conv => whnf)
    (refine RetOK.d rfl rfl ?_; conv => whnf)
    rw [szR_gt (by omega)]
  rename_i h1
  have h1 := of_decide_eq_false h1
  (conv => whnf)
  (refine RetOK.d rfl rfl ?_; conv => whnf)
  rw [szR_le (by omega), hL]
theorem szPeakS_le (xs : List TPeak) (left : Int) (hl : left ≤ 1048576) (h0 : 0 ≤ left) (hz : ((xs.length : Nat) : Int) ≤ left) : PC Tryz.prog 63 [.d (lstD TPeak.D xs), .d (.int .i64 left)] (.d (.int .i64 (left - ((xs.length : Nat) : Int)))) [] := by
  have := szPeakS_v xs left hl h0
  rwa [szR_le hz] at this
theorem szPeakS_gt (xs : List TPeak) (left : Int) (hl : left ≤ 1048576) (h0 : 0 ≤ left) (hz : left < ((xs.length : Nat) : Int)) : PC Tryz.prog 63 [.d (lstD TPeak.D xs), .d (.int .i64 left)] (.d (.int .i64 (-1))) [] := by
  have := szPeakS_v xs left hl h0
  rwa [szR_gt hz] at this
set_option maxRecDepth 100000 in
set_option maxHeartbeats 2000000 in
theorem szAxisPointS_v (xs : List TAxisPoint) (left : Int) (hl : left ≤ 1048576) (h0 : 0 ≤ left) : PC Tryz.prog 62 [.d (lstD TAxisPoint.D xs), .d (.int .i64 left)] (.d (.int .i64 (szR left xs.length))) [] := by
  refine pc_intro ttOk (by kernel_rfl) Tryz.func62 rfl (by kernel_rfl) (by kernel_rfl) (by kernel_rfl) (fun hw => ?_)
  have hm : (xs.map TAxisPoint.D).length ≤ maxLen := hw.1.1
  have hL : (xs.map TAxisPoint.D).length = xs.length := by simp
  unfold maxLen at hm
  (conv => whnf)
  (repeat (refine stg_ ?_))
  split
  · rename_i h1
    have h1 := of_decide_eq_true h1
    (conv => whnf)
    (refine RetOK.d rfl rfl ?_; conv => whnf)
    rw [szR_gt (by omega)]
  rename_i h1
  have h1 := of_decide_eq_false h1
  (conv => whnf)
  (refine RetOK.d rfl rfl ?_; conv => whnf)
  rw [szR_le (by omega), hL]
theorem szAxisPointS_le (xs : List TAxisPoint) (left : Int) (hl : left ≤ 1048576) (h0 : 0 ≤ left) (hz : ((xs.length : Nat) : Int) ≤ left) : PC Tryz.prog 62 [.d (lstD TAxisPoint.D xs), .d (.int .i64 left)] (.d (.int .i64 (left - ((xs.length : Nat) : Int)))) [] := by
  have := szAxisPointS_v xs left hl h0
  rwa [szR_le hz] at this
theorem szAxisPointS_gt (xs : List TAxisPoint) (left : Int) (hl : left ≤ 1048576) (h0 : 0 ≤ left) (hz : left < ((xs.length : Nat) : Int)) : PC Tryz.prog 62 [.d (lstD TAxisPoint.D xs), .d (.int .i64 left)] (.d (.int .i64 (-1))) [] := by
  have := szAxisPointS_v xs left hl h0
  rwa [szR_gt hz] at this
set_option maxRecDepth 100000 in
set_option maxHeartbeats 2000000 in
theorem szAxis_v (x : TAxis) (left : Int) (hl : left ≤ 1048576) (h0 : 0 ≤ left) : PC Tryz.prog 31 [.d x.D, .d (.int .i64 left)] (.d (.int .i64 (szR left (zAxis x)))) [] := by
  refine pc_intro ttOk (by kernel_rfl) Tryz.func31 rfl (by kernel_rfl) (by kernel_rfl) (by kernel_rfl) (fun hw => ?_)
  have hm0 : x.fName.size ≤ maxLen := hw.1.1
  unfold maxLen at hm0
  (conv => whnf)
  (repeat (refine stg_ ?_))
  split
  · rename_i g0
    have g0 := of_decide_eq_true g0
    (conv => whnf)
    (refine RetOK.d rfl rfl ?_; conv => whnf)
    rw [szR_gt (by simp only [zAxis]; omega)]
  rename_i g0
  have g0 := of_decide_eq_false g0
  (conv => whnf)
  by_cases g4 : ((x.fMap.length : Nat) : Int) ≤ (left - ((x.fName.size : Nat) : Int))
  rotate_left
  · (refine cl_ (szAxisPointS_gt x.fMap ((left - ((x.fName.size : Nat) : Int))) (by omega) (by omega) (by omega)) ?_)
    (repeat (refine stg_ ?_))
    (refine RetOK.d rfl rfl ?_; conv => whnf)
    rw [szR_gt (by simp only [zAxis]; omega)]
  (refine cl_ (szAxisPointS_le x.fMap ((left - ((x.fName.size : Nat) : Int))) (by omega) (by omega) g4) ?_)
  (repeat (refine stg_ ?_))
  split
  · rename_i q
    exact absurd (of_decide_eq_true q) (by omega)
  (conv => whnf)
  (refine RetOK.d rfl rfl ?_; conv => whnf)
  rw [szR_le (by simp only [zAxis]; omega)]
  congr 1 <;> ((simp only [zAxis]) <;> omega)
theorem szAxis_le (x : TAxis) (left : Int) (hl : left ≤ 1048576) (h0 : 0 ≤ left) (hz : (((zAxis x) : Nat) : Int) ≤ left) : PC Tryz.prog 31 [.d x.D, .d (.int .i64 left)] (.d (.int .i64 (left - (((zAxis x) : Nat) : Int)))) [] := by
  have := szAxis_v x left hl h0
  rwa [szR_le hz] at this
theorem szAxis_gt (x : TAxis) (left : Int) (hl : left ≤ 1048576) (h0 : 0 ≤ left) (hz : left < (((zAxis x) : Nat) : Int)) : PC Tryz.prog 31 [.d x.D, .d (.int .i64 left)] (.d (.int .i64 (-1))) [] := by
  have := szAxis_v x left hl h0
  rwa [szR_gt hz] at this
set_option maxRecDepth 100000 in
set_option maxHeartbeats 2000000 in
theorem szAxisS_v (xs : List TAxis) (left : Int) (hl : left ≤ 1048576) (h0 : 0 ≤ left) : PC Tryz.prog 14 [.d (lstD TAxis.D xs), .d (.int .i64 left)] (.d (.int .i64 (szR left (zL zAxis xs)))) [] := by
  refine pc_intro ttOk (by kernel_rfl) Tryz.func14 rfl (by kernel_rfl) (by kernel_rfl) (by kernel_rfl) (fun hw => ?_)
  have hm : (xs.map TAxis.D).length ≤ maxLen := hw.1.1
  have hL : (xs.map TAxis.D).length = xs.length := by simp
  unfold maxLen at hm
  have hall := zSum_le_all zAxis xs
  (conv => whnf)
  (repeat (refine stg_ ?_))
  split
  · rename_i h1
    have h1 := of_decide_eq_true h1
    (conv => whnf)
    (refine RetOK.d rfl rfl ?_; conv => whnf)
    rw [szR_gt (by simp only [zL]; omega)]
  rename_i h1
  have h1 := of_decide_eq_false h1
  (conv => whnf)
  refine LoopW.go (α := Nat) (fun k => [(0, .d (lstD TAxis.D xs)), (1, .d (.int .i64 (left - (xs.map TAxis.D).length - (zSum zAxis xs k : Nat)))), (5, .d (.int .i64 k))]) (fun k => [.gone]) (fun k => k ≤ xs.length ∧ (((xs.map TAxis.D).length + zSum zAxis xs k : Nat) : Int) ≤ left) (fun k => xs.length - k) 0
    (Weak.cov ⟨rfl, by rw [zSum_zero]; show V.d (D.int .i64 _) = V.d (D.int .i64 _); congr 2; omega, rfl, trivial⟩ ⟨trivial, trivial⟩ rfl) ⟨Nat.zero_le _, by rw [zSum_zero]; omega⟩ (fun k hk => ?_)
  obtain ⟨hk, hk2⟩ := hk
  (conv => whnf)
  split
  · rename_i h2
    have h2 := of_decide_eq_true h2
    have h2 : k < xs.length := by omega
    obtain ⟨x, hx⟩ := at_lt h2
    have hs := zSum_succ zAxis hx
    have ha := hall (k + 1)
    (conv => whnf)
    (repeat (refine stg_ ?_))
    by_cases q : (((zAxis x) : Nat) : Int) ≤ (left - ((xs.map TAxis.D).length : Nat) - (zSum zAxis xs k : Nat))
    rotate_left
    · (refine cl_ (szAxis_gt x (left - ((xs.map TAxis.D).length : Nat) - (zSum zAxis xs k : Nat)) (by omega) (by omega) (by omega)) ?_)
      (repeat (refine stg_ ?_))
      (refine RetOK.d rfl rfl ?_; conv => whnf)
      rw [szR_gt (by simp only [zL]; omega)]
    (refine cl_ (szAxis_le x (left - ((xs.map TAxis.D).length : Nat) - (zSum zAxis xs k : Nat)) (by omega) (by omega) q) ?_)
    (repeat (refine stg_ ?_))
    split
    · rename_i q2
      exact absurd (of_decide_eq_true q2) (by omega)
    (conv => whnf)
    (repeat (refine stg_ ?_))
    refine NextW.go (k + 1) (Weak.cov ⟨rfl, by show V.d (D.int .i64 _) = V.d (D.int .i64 _); rw [hs]; congr 2; omega, rfl, trivial⟩ ⟨trivial, trivial⟩ rfl) ⟨by omega, by omega⟩ (by omega)
  · rename_i h2
    have h2 := of_decide_eq_false h2
    obtain rfl : k = xs.length := by omega
    have ha := zSum_all zAxis (Nat.le_refl xs.length)
    (conv => whnf)
    (refine RetOK.d rfl rfl ?_; conv => whnf)
    rw [szR_le (by simp only [zL]; omega)]
    congr 1 <;> ((simp only [zL]) <;> omega)
theorem szAxisS_le (xs : List TAxis) (left : Int) (hl : left ≤ 1048576) (h0 : 0 ≤ left) (hz : (((zL zAxis xs) : Nat) : Int) ≤ left) : PC Tryz.prog 14 [.d (lstD TAxis.D xs), .d (.int .i64 left)] (.d (.int .i64 (left - (((zL zAxis xs) : Nat) : Int)))) [] := by
  have := szAxisS_v xs left hl h0
  rwa [szR_le hz] at this
theorem szAxisS_gt (xs : List TAxis) (left : Int) (hl : left ≤ 1048576) (h0 : 0 ≤ left) (hz : left < (((zL zAxis xs) : Nat) : Int)) : PC Tryz.prog 14 [.d (lstD TAxis.D xs), .d (.int .i64 left)] (.d (.int .i64 (-1))) [] := by
  have := szAxisS_v xs left hl h0
  rwa [szR_gt hz] at this
set_option maxRecDepth 100000 in
set_option maxHeartbeats 2000000 in
theorem szInt64S_v (xs : List Int) (left : Int) (hl : left ≤ 1048576) (h0 : 0 ≤ left) : PC Tryz.prog 115 [.d (lstD (D.int .i64) xs), .d (.int .i64 left)] (.d (.int .i64 (szR left xs.length))) [] := by
  refine pc_intro ttOk (by kernel_rfl) Tryz.func115 rfl (by kernel_rfl) (by kernel_rfl) (by kernel_rfl) (fun hw => ?_)
  have hm : (xs.map (D.int .i64)).length ≤ maxLen := hw.1.1
  have hL : (xs.map (D.int .i64)).length = xs.length := by simp
  unfold maxLen at hm
  (conv => whnf)
  (repeat (refine stg_ ?_))
  split
  · rename_i h1
    have h1 := of_decide_eq_true h1
    (conv => whnf)
    (refine RetOK.d rfl rfl ?_; conv => whnf)
    rw [szR_gt (by omega)]
  rename_i h1
  have h1 := of_decide_eq_false h1
  (conv => whnf)
  (refine RetOK.d rfl rfl ?_; conv => whnf)
  rw [szR_le (by omega), hL]
theorem szInt64S_le (xs : List Int) (left : Int) (hl : left ≤ 1048576) (h0 : 0 ≤ left) (hz : ((xs.length : Nat) : Int) ≤ left) : PC Tryz.prog 115 [.d (lstD (D.int .i64) xs), .d (.int .i64 left)] (.d (.int .i64 (left - ((xs.length : Nat) : Int)))) [] := by
  have := szInt64S_v xs left hl h0
  rwa [szR_le hz] at this
theorem szInt64S_gt (xs : List Int) (left : Int) (hl : left ≤ 1048576) (h0 : 0 ≤ left) (hz : left < ((xs.length : Nat) : Int)) : PC Tryz.prog 115 [.d (lstD (D.int .i64) xs), .d (.int .i64 left)] (.d (.int .i64 (-1))) [] := by
  have := szInt64S_v xs left hl h0
  rwa [szR_gt hz] at this
set_option maxRecDepth 100000 in
set_option maxHeartbeats 2000000 in
theorem szPtS_v (xs : List TPt) (left : Int) (hl : left ≤ 1048576) (h0 : 0 ≤ left) : PC Tryz.prog 116 [.d (lstD TPt.D xs), .d (.int .i64 left)] (.d (.int .i64 (szR left xs.length))) [] := by
  refine pc_intro ttOk (by kernel_rfl) Tryz.func116 rfl (by kernel_rfl) (by kernel_rfl) (by kernel_rfl) (fun hw => ?_)
  have hm : (xs.map TPt.D).length ≤ maxLen := hw.1.1
  have hL : (xs.map TPt.D).length = xs.length := by simp
  unfold maxLen at hm
  (conv => whnf)
  (repeat (refine stg_ ?_))
  split
  · rename_i h1
    have h1 := of_decide_eq_true h1
    (conv => whnf)
    (refine RetOK.d rfl rfl ?_; conv => whnf)
    rw [szR_gt (by omega)]
  rename_i h1
  have h1 := of_decide_eq_false h1
  (conv => whnf)
  (refine RetOK.d rfl rfl ?_; conv => whnf)
  rw [szR_le (by omega), hL]
theorem szPtS_le (xs : List TPt) (left : Int) (hl : left ≤ 1048576) (h0 : 0 ≤ left) (hz : ((xs.length : Nat) : Int) ≤ left) : PC Tryz.prog 116 [.d (lstD TPt.D xs), .d (.int .i64 left)] (.d (.int .i64 (left - ((xs.length : Nat) : Int)))) [] := by
  have := szPtS_v xs left hl h0
  rwa [szR_le hz] at this
theorem szPtS_gt (xs : List TPt) (left : Int) (hl : left ≤ 1048576) (h0 : 0 ≤ left) (hz : left < ((xs.length : Nat) : Int)) : PC Tryz.prog 116 [.d (lstD TPt.D xs), .d (.int .i64 left)] (.d (.int .i64 (-1))) [] := by
  have := szPtS_v xs left hl h0
  rwa [szR_gt hz] at this
set_option maxRecDepth 100000 in
set_option maxHeartbeats 2000000 in
theorem szGlyphDelta_v (x : TGlyphDelta) (left : Int) (hl : left ≤ 1048576) (h0 : 0 ≤ left) : PC Tryz.prog 89 [.d x.D, .d (.int .i64 left)] (.d (.int .i64 (szR left (zGlyphDelta x)))) [] := by
  refine pc_intro ttOk (by kernel_rfl) Tryz.func89 rfl (by kernel_rfl) (by kernel_rfl) (by kernel_rfl) (fun hw => ?_)
  (conv => whnf)
  by_cases g1 : ((x.fKnots.length : Nat) : Int) ≤ left
  rotate_left
  · (refine cl_ (szInt64S_gt x.fKnots (left) (by omega) (by omega) (by omega)) ?_)
    (repeat (refine stg_ ?_))
    (refine RetOK.d rfl rfl ?_; conv => whnf)
    rw [szR_gt (by simp only [zGlyphDelta]; omega)]
  (refine cl_ (szInt64S_le x.fKnots (left) (by omega) (by omega) g1) ?_)
  (repeat (refine stg_ ?_))
  split
  · rename_i q
    exact absurd (of_decide_eq_true q) (by omega)
  (conv => whnf)
  by_cases g2 : ((x.fMoves.length : Nat) : Int) ≤ (left - ((x.fKnots.length : Nat) : Int))
  rotate_left
  · (refine cl_ (szPtS_gt x.fMoves ((left - ((x.fKnots.length : Nat) : Int))) (by omega) (by omega) (by omega)) ?_)
    (repeat (refine stg_ ?_))
    (refine RetOK.d rfl rfl ?_; conv => whnf)
    rw [szR_gt (by simp only [zGlyphDelta]; omega)]
  (refine cl_ (szPtS_le x.fMoves ((left - ((x.fKnots.length : Nat) : Int))) (by omega) (by omega) g2) ?_)
  (repeat (refine stg_ ?_))
  split
  · rename_i q
    exact absurd (of_decide_eq_true q) (by omega)
  (conv => whnf)
  (refine RetOK.d rfl rfl ?_; conv => whnf)
  rw [szR_le (by simp only [zGlyphDelta]; omega)]
  congr 1 <;> ((simp only [zGlyphDelta]) <;> omega)
theorem szGlyphDelta_le (x : TGlyphDelta) (left : Int) (hl : left ≤ 1048576) (h0 : 0 ≤ left) (hz : (((zGlyphDelta x) : Nat) : Int) ≤ left) : PC Tryz.prog 89 [.d x.D, .d (.int .i64 left)] (.d (.int .i64 (left - (((zGlyphDelta x) : Nat) : Int)))) [] := by
  have := szGlyphDelta_v x left hl h0
  rwa [szR_le hz] at this
theorem szGlyphDelta_gt (x : TGlyphDelta) (left : Int) (hl : left ≤ 1048576) (h0 : 0 ≤ left) (hz : left < (((zGlyphDelta x) : Nat) : Int)) : PC Tryz.prog 89 [.d x.D, .d (.int .i64 left)] (.d (.int .i64 (-1))) [] := by
  have := szGlyphDelta_v x left hl h0
  rwa [szR_gt hz] at this
set_option maxRecDepth 100000 in
set_option maxHeartbeats 2000000 in
theorem szGlyphDeltaS_v (xs : List TGlyphDelta) (left : Int) (hl : left ≤ 1048576) (h0 : 0 ≤ left) : PC Tryz.prog 64 [.d (lstD TGlyphDelta.D xs), .d (.int .i64 left)] (.d (.int .i64 (szR left (zL zGlyphDelta xs)))) [] := by
  refine pc_intro ttOk (by kernel_rfl) Tryz.func64 rfl (by kernel_rfl) (by kernel_rfl) (by kernel_rfl) (fun hw => ?_)
  have hm : (xs.map TGlyphDelta.D).length ≤ maxLen := hw.1.1
  have hL : (xs.map TGlyphDelta.D).length = xs.length := by simp
  unfold maxLen at hm
  have hall := zSum_le_all zGlyphDelta xs
  (conv => whnf)
  (repeat (refine stg_ ?_))
  split
  · rename_i h1
    have h1 := of_decide_eq_true h1
    (conv => whnf)
    (refine RetOK.d rfl rfl ?_; conv => whnf)
    rw [szR_gt (by simp only [zL]; omega)]
  rename_i h1
  have h1 := of_decide_eq_false h1
  (conv => whnf)
  refine LoopW.go (α := Nat) (fun k => [(0, .d (lstD TGlyphDelta.D xs)), (1, .d (.int .i64 (left - (xs.map TGlyphDelta.D).length - (zSum zGlyphDelta xs k : Nat)))), (5, .d (.int .i64 k))]) (fun k => [.gone]) (fun k => k ≤ xs.length ∧ (((xs.map TGlyphDelta.D).length + zSum zGlyphDelta xs k : Nat) : Int) ≤ left) (fun k => xs.length - k) 0
    (Weak.cov ⟨rfl, by rw [zSum_zero]; show V.d (D.int .i64 _) = V.d (D.int .i64 _); congr 2; omega, rfl, trivial⟩ ⟨trivial, trivial⟩ rfl) ⟨Nat.zero_le _, by rw [zSum_zero]; omega⟩ (fun k hk => ?_)
  obtain ⟨hk, hk2⟩ := hk
  (conv => whnf)
  split
  · rename_i h2
    have h2 := of_decide_eq_true h2
    have h2 : k < xs.length := by omega
    obtain ⟨x, hx⟩ := at_lt h2
    have hs := zSum_succ zGlyphDelta hx
    have ha := hall (k + 1)
    (conv => whnf)
    (repeat (refine stg_ ?_))
    by_cases q : (((zGlyphDelta x) : Nat) : Int) ≤ (left - ((xs.map TGlyphDelta.D).length : Nat) - (zSum zGlyphDelta xs k : Nat))
    rotate_left
    · (refine cl_ (szGlyphDelta_gt x (left - ((xs.map TGlyphDelta.D).length : Nat) - (zSum zGlyphDelta xs k : Nat)) (by omega) (by omega) (by omega)) ?_)
      (repeat (refine stg_ ?_))
      (refine RetOK.d rfl rfl ?_; conv => whnf)
      rw [szR_gt (by simp only [zL]; omega)]
    (refine cl_ (szGlyphDelta_le x (left - ((xs.map TGlyphDelta.D).length : Nat) - (zSum zGlyphDelta xs k : Nat)) (by omega) (by omega) q) ?_)
    (repeat (refine stg_ ?_))
    split
    · rename_i q2
      exact absurd (of_decide_eq_true q2) (by omega)
    (conv => whnf)
    (repeat (refine stg_ ?_))
    refine NextW.go (k + 1) (Weak.cov ⟨rfl, by show V.d (D.int .i64 _) = V.d (D.int .i64 _); rw [hs]; congr 2; omega, rfl, trivial⟩ ⟨trivial, trivial⟩ rfl) ⟨by omega, by omega⟩ (by omega)
  · rename_i h2
    have h2 := of_decide_eq_false h2
    obtain rfl : k = xs.length := by omega
    have ha := zSum_all zGlyphDelta (Nat.le_refl xs.length)
    (conv => whnf)
    (refine RetOK.d rfl rfl ?_; conv => whnf)
    rw [szR_le (by simp only [zL]; omega)]
    congr 1 <;> ((simp only [zL]) <;> omega)
theorem szGlyphDeltaS_le (xs : List TGlyphDelta) (left : Int) (hl : left ≤ 1048576) (h0 : 0 ≤ left) (hz : (((zL zGlyphDelta xs) : Nat) : Int) ≤ left) : PC Tryz.prog 64 [.d (lstD TGlyphDelta.D xs), .d (.int .i64 left)] (.d (.int .i64 (left - (((zL zGlyphDelta xs) : Nat) : Int)))) [] := by
  have := szGlyphDeltaS_v xs left hl h0
  rwa [szR_le hz] at this
theorem szGlyphDeltaS_gt (xs : List TGlyphDelta) (left : Int) (hl : left ≤ 1048576) (h0 : 0 ≤ left) (hz : left < (((zL zGlyphDelta xs) : Nat) : Int)) : PC Tryz.prog 64 [.d (lstD TGlyphDelta.D xs), .d (.int .i64 left)] (.d (.int .i64 (-1))) [] := by
  have := szGlyphDeltaS_v xs left hl h0
  rwa [szR_gt hz] at this
set_option maxRecDepth 100000 in
set_option maxHeartbeats 2000000 in
theorem szMaster_v (x : TMaster) (left : Int) (hl : left ≤ 1048576) (h0 : 0 ≤ left) : PC Tryz.prog 32 [.d x.D, .d (.int .i64 left)] (.d (.int .i64 (szR left (zMaster x)))) [] := by
  refine pc_intro ttOk (by kernel_rfl) Tryz.func32 rfl (by kernel_rfl) (by kernel_rfl) (by kernel_rfl) (fun hw => ?_)
  (conv => whnf)
  by_cases g0 : ((x.fPeaks.length : Nat) : Int) ≤ left
  rotate_left
  · (refine cl_ (szPeakS_gt x.fPeaks (left) (by omega) (by omega) (by omega)) ?_)
    (repeat (refine stg_ ?_))
    (refine RetOK.d rfl rfl ?_; conv => whnf)
    rw [szR_gt (by simp only [zMaster]; omega)]
  (refine cl_ (szPeakS_le x.fPeaks (left) (by omega) (by omega) g0) ?_)
  (repeat (refine stg_ ?_))
  split
  · rename_i q
    exact absurd (of_decide_eq_true q) (by omega)
  (conv => whnf)
  by_cases g1 : (((zL zGlyphDelta x.fDeltas) : Nat) : Int) ≤ (left - ((x.fPeaks.length : Nat) : Int))
  rotate_left
  · (refine cl_ (szGlyphDeltaS_gt x.fDeltas ((left - ((x.fPeaks.length : Nat) : Int))) (by omega) (by omega) (by omega)) ?_)
    (repeat (refine stg_ ?_))
    (refine RetOK.d rfl rfl ?_; conv => whnf)
    rw [szR_gt (by simp only [zMaster]; omega)]
  (refine cl_ (szGlyphDeltaS_le x.fDeltas ((left - ((x.fPeaks.length : Nat) : Int))) (by omega) (by omega) g1) ?_)
  (repeat (refine stg_ ?_))
  split
  · rename_i q
    exact absurd (of_decide_eq_true q) (by omega)
  (conv => whnf)
  (refine RetOK.d rfl rfl ?_; conv => whnf)
  rw [szR_le (by simp only [zMaster]; omega)]
  congr 1 <;> ((simp only [zMaster]) <;> omega)
theorem szMaster_le (x : TMaster) (left : Int) (hl : left ≤ 1048576) (h0 : 0 ≤ left) (hz : (((zMaster x) : Nat) : Int) ≤ left) : PC Tryz.prog 32 [.d x.D, .d (.int .i64 left)] (.d (.int .i64 (left - (((zMaster x) : Nat) : Int)))) [] := by
  have := szMaster_v x left hl h0
  rwa [szR_le hz] at this
theorem szMaster_gt (x : TMaster) (left : Int) (hl : left ≤ 1048576) (h0 : 0 ≤ left) (hz : left < (((zMaster x) : Nat) : Int)) : PC Tryz.prog 32 [.d x.D, .d (.int .i64 left)] (.d (.int .i64 (-1))) [] := by
  have := szMaster_v x left hl h0
  rwa [szR_gt hz] at this
set_option maxRecDepth 100000 in
set_option maxHeartbeats 2000000 in
theorem szMasterS_v (xs : List TMaster) (left : Int) (hl : left ≤ 1048576) (h0 : 0 ≤ left) : PC Tryz.prog 15 [.d (lstD TMaster.D xs), .d (.int .i64 left)] (.d (.int .i64 (szR left (zL zMaster xs)))) [] := by
  refine pc_intro ttOk (by kernel_rfl) Tryz.func15 rfl (by kernel_rfl) (by kernel_rfl) (by kernel_rfl) (fun hw => ?_)
  have hm : (xs.map TMaster.D).length ≤ maxLen := hw.1.1
  have hL : (xs.map TMaster.D).length = xs.length := by simp
  unfold maxLen at hm
  have hall := zSum_le_all zMaster xs
  (conv => whnf)
  (repeat (refine stg_ ?_))
  split
  · rename_i h1
    have h1 := of_decide_eq_true h1
    (conv => whnf)
    (refine RetOK.d rfl rfl ?_; conv => whnf)
    rw [szR_gt (by simp only [zL]; omega)]
  rename_i h1
  have h1 := of_decide_eq_false h1
  (conv => whnf)
  refine LoopW.go (α := Nat) (fun k => [(0, .d (lstD TMaster.D xs)), (1, .d (.int .i64 (left - (xs.map TMaster.D).length - (zSum zMaster xs k : Nat)))), (5, .d (.int .i64 k))]) (fun k => [.gone]) (fun k => k ≤ xs.length ∧ (((xs.map TMaster.D).length + zSum zMaster xs k : Nat) : Int) ≤ left) (fun k => xs.length - k) 0
    (Weak.cov ⟨rfl, by rw [zSum_zero]; show V.d (D.int .i64 _) = V.d (D.int .i64 _); congr 2; omega, rfl, trivial⟩ ⟨trivial, trivial⟩ rfl) ⟨Nat.zero_le _, by rw [zSum_zero]; omega⟩ (fun k hk => ?_)
  obtain ⟨hk, hk2⟩ := hk
  (conv => whnf)
  split
  · rename_i h2
    have h2 := of_decide_eq_true h2
    have h2 : k < xs.length := by omega
    obtain ⟨x, hx⟩ := at_lt h2
    have hs := zSum_succ zMaster hx
    have ha := hall (k + 1)
    (conv => whnf)
    (repeat (refine stg_ ?_))
    by_cases q : (((zMaster x) : Nat) : Int) ≤ (left - ((xs.map TMaster.D).length : Nat) - (zSum zMaster xs k : Nat))
    rotate_left
    · (refine cl_ (szMaster_gt x (left - ((xs.map TMaster.D).length : Nat) - (zSum zMaster xs k : Nat)) (by omega) (by omega) (by omega)) ?_)
      (repeat (refine stg_ ?_))
      (refine RetOK.d rfl rfl ?_; conv => whnf)
      rw [szR_gt (by simp only [zL]; omega)]
    (refine cl_ (szMaster_le x (left - ((xs.map TMaster.D).length : Nat) - (zSum zMaster xs k : Nat)) (by omega) (by omega) q) ?_)
    (repeat (refine stg_ ?_))
    split
    · rename_i q2
      exact absurd (of_decide_eq_true q2) (by omega)
    (conv => whnf)
    (repeat (refine stg_ ?_))
    refine NextW.go (k + 1) (Weak.cov ⟨rfl, by show V.d (D.int .i64 _) = V.d (D.int .i64 _); rw [hs]; congr 2; omega, rfl, trivial⟩ ⟨trivial, trivial⟩ rfl) ⟨by omega, by omega⟩ (by omega)
  · rename_i h2
    have h2 := of_decide_eq_false h2
    obtain rfl : k = xs.length := by omega
    have ha := zSum_all zMaster (Nat.le_refl xs.length)
    (conv => whnf)
    (refine RetOK.d rfl rfl ?_; conv => whnf)
    rw [szR_le (by simp only [zL]; omega)]
    congr 1 <;> ((simp only [zL]) <;> omega)
theorem szMasterS_le (xs : List TMaster) (left : Int) (hl : left ≤ 1048576) (h0 : 0 ≤ left) (hz : (((zL zMaster xs) : Nat) : Int) ≤ left) : PC Tryz.prog 15 [.d (lstD TMaster.D xs), .d (.int .i64 left)] (.d (.int .i64 (left - (((zL zMaster xs) : Nat) : Int)))) [] := by
  have := szMasterS_v xs left hl h0
  rwa [szR_le hz] at this
theorem szMasterS_gt (xs : List TMaster) (left : Int) (hl : left ≤ 1048576) (h0 : 0 ≤ left) (hz : left < (((zL zMaster xs) : Nat) : Int)) : PC Tryz.prog 15 [.d (lstD TMaster.D xs), .d (.int .i64 left)] (.d (.int .i64 (-1))) [] := by
  have := szMasterS_v xs left hl h0
  rwa [szR_gt hz] at this
set_option maxRecDepth 100000 in
set_option maxHeartbeats 2000000 in
theorem szVariation_v (x : TVariation) (left : Int) (hl : left ≤ 1048576) (h0 : 0 ≤ left) : PC Tryz.prog 4 [.d x.D, .d (.int .i64 left)] (.d (.int .i64 (szR left (zVariation x)))) [] := by
  refine pc_intro ttOk (by kernel_rfl) Tryz.func4 rfl (by kernel_rfl) (by kernel_rfl) (by kernel_rfl) (fun hw => ?_)
  (conv => whnf)
  by_cases g0 : (((zL zAxis x.fAxes) : Nat) : Int) ≤ left
  rotate_left
  · (refine cl_ (szAxisS_gt x.fAxes (left) (by omega) (by omega) (by omega)) ?_)
    (repeat (refine stg_ ?_))
    (refine RetOK.d rfl rfl ?_; conv => whnf)
    rw [szR_gt (by simp only [zVariation]; omega)]
  (refine cl_ (szAxisS_le x.fAxes (left) (by omega) (by omega) g0) ?_)
  (repeat (refine stg_ ?_))
  split
  · rename_i q
    exact absurd (of_decide_eq_true q) (by omega)
  (conv => whnf)
  by_cases g1 : (((zL zMaster x.fMasters) : Nat) : Int) ≤ (left - (((zL zAxis x.fAxes) : Nat) : Int))
  rotate_left
  · (refine cl_ (szMasterS_gt x.fMasters ((left - (((zL zAxis x.fAxes) : Nat) : Int))) (by omega) (by omega) (by omega)) ?_)
    (repeat (refine stg_ ?_))
    (refine RetOK.d rfl rfl ?_; conv => whnf)
    rw [szR_gt (by simp only [zVariation]; omega)]
  (refine cl_ (szMasterS_le x.fMasters ((left - (((zL zAxis x.fAxes) : Nat) : Int))) (by omega) (by omega) g1) ?_)
  (repeat (refine stg_ ?_))
  split
  · rename_i q
    exact absurd (of_decide_eq_true q) (by omega)
  (conv => whnf)
  (refine RetOK.d rfl rfl ?_; conv => whnf)
  rw [szR_le (by simp only [zVariation]; omega)]
  congr 1 <;> ((simp only [zVariation]) <;> omega)
theorem szVariation_le (x : TVariation) (left : Int) (hl : left ≤ 1048576) (h0 : 0 ≤ left) (hz : (((zVariation x) : Nat) : Int) ≤ left) : PC Tryz.prog 4 [.d x.D, .d (.int .i64 left)] (.d (.int .i64 (left - (((zVariation x) : Nat) : Int)))) [] := by
  have := szVariation_v x left hl h0
  rwa [szR_le hz] at this
theorem szVariation_gt (x : TVariation) (left : Int) (hl : left ≤ 1048576) (h0 : 0 ≤ left) (hz : left < (((zVariation x) : Nat) : Int)) : PC Tryz.prog 4 [.d x.D, .d (.int .i64 left)] (.d (.int .i64 (-1))) [] := by
  have := szVariation_v x left hl h0
  rwa [szR_gt hz] at this

set_option maxRecDepth 100000 in
set_option maxHeartbeats 2000000 in
theorem toPeak_v (x : TPeak) : PC Tryz.prog 95 [.d x.D] (.d x.D) [] := by
  refine pc_intro ttOk (by kernel_rfl) Tryz.func95 rfl (by kernel_rfl) (by kernel_rfl) (by kernel_rfl) (fun hw => ?_)
  (conv => whnf)
  refine RetOK.d rfl rfl ?_
  ((conv => whnf); (try (refine ⟨_, rfl, ?_⟩)); (repeat ((conv => whnf); (refine ⟨_, _, rfl, ?_, ?_⟩); (focus (first | ((conv => whnf); done) | ((conv => whnf); (refine ⟨_, rfl, ?_⟩); (repeat ((conv => whnf); (refine ⟨_, _, rfl, ?_, ?_⟩); (focus ((conv => whnf); done)))); (conv => whnf)))))); (conv => whnf))
set_option maxRecDepth 100000 in
set_option maxHeartbeats 2000000 in
theorem toPeakS_v (xs : List TPeak) (hz : xs.length ≤ 1048576) : PC Tryz.prog 69 [.d (lstD TPeak.D xs)] (.own 1 0 xs.length) [.arr 3 (xs.map TPeak.D) true] := by
  refine pc_intro ttOk (by kernel_rfl) Tryz.func69 rfl (by kernel_rfl) (by kernel_rfl) (by kernel_rfl) (fun hw => ?_)
  have hL : (xs.map TPeak.D).length = xs.length := by simp
  (conv => whnf)
  refine MkW.at (by omega) (by omega) (by show (24 : Int) * _ ≤ _; omega) ?_
  (conv => whnf)
  refine LoopW.go (α := Nat) (fun k => [(0, .d (lstD TPeak.D xs)), (3, .own 1 0 xs.length), (4, .d (.int .i64 k))]) (fun k => [.gone, .arr 3 (fillL TPeak.D (.st [(.int .i64 0), (.int .i64 0), (.int .i64 0)]) xs k) true]) (fun k => k ≤ xs.length) (fun k => xs.length - k) 0
    (Weak.cov ⟨rfl, by rw [← hL]; rfl, rfl, trivial⟩ ⟨trivial, by rw [fillL_zero, ← hL]; rfl, trivial⟩ rfl) (Nat.zero_le _) (fun k hk => ?_)
  (conv => whnf)
  split
  · rename_i h1
    have h1 := of_decide_eq_true h1
    have h1 : k < xs.length := by omega
    obtain ⟨x, hx⟩ := at_lt h1
    have he := fillL_get TPeak.D (.st [(.int .i64 0), (.int .i64 0), (.int .i64 0)]) xs h1
    have hfl := fillL_len TPeak.D (.st [(.int .i64 0), (.int .i64 0), (.int .i64 0)]) xs k (by omega)
    (conv => whnf)
    (repeat (refine stg_ ?_))
    (refine cl_ (toPeak_v x) ?_)
    (repeat (refine stg_ ?_))
    refine NextW.go (k + 1) (Weak.cov ⟨rfl, rfl, rfl, trivial⟩ ⟨trivial, by rw [← fillL_set _ _ _ hx]; rfl, trivial⟩ rfl) (by omega) (by omega)
  · rename_i h1
    have h1 := of_decide_eq_false h1
    obtain rfl : k = xs.length := by omega
    (conv => whnf)
    refine ⟨⟨[some 1], ⟨by decide, by rw [fillL_all]; rfl, trivial, trivial⟩, by decide, rfl, ?_⟩⟩
    (conv => whnf)
    exact ⟨by decide, rfl⟩
set_option maxRecDepth 100000 in
set_option maxHeartbeats 2000000 in
theorem toAxisPoint_v (x : TAxisPoint) : PC Tryz.prog 94 [.d x.D] (.d x.D) [] := by
  refine pc_intro ttOk (by kernel_rfl) Tryz.func94 rfl (by kernel_rfl) (by kernel_rfl) (by kernel_rfl) (fun hw => ?_)
  (conv => whnf)
  refine RetOK.d rfl rfl ?_
  ((conv => whnf); (try (refine ⟨_, rfl, ?_⟩)); (repeat ((conv => whnf); (refine ⟨_, _, rfl, ?_, ?_⟩); (focus (first | ((conv => whnf); done) | ((conv => whnf); (refine ⟨_, rfl, ?_⟩); (repeat ((conv => whnf); (refine ⟨_, _, rfl, ?_, ?_⟩); (focus ((conv => whnf); done)))); (conv => whnf)))))); (conv => whnf))
set_option maxRecDepth 100000 in
set_option maxHeartbeats 2000000 in
theorem toAxisPointS_v (xs : List TAxisPoint) (hz : xs.length ≤ 1048576) : PC Tryz.prog 68 [.d (lstD TAxisPoint.D xs)] (.own 1 0 xs.length) [.arr 2 (xs.map TAxisPoint.D) true] := by
  refine pc_intro ttOk (by kernel_rfl) Tryz.func68 rfl (by kernel_rfl) (by kernel_rfl) (by kernel_rfl) (fun hw => ?_)
  have hL : (xs.map TAxisPoint.D).length = xs.length := by simp
  (conv => whnf)
  refine MkW.at (by omega) (by omega) (by show (16 : Int) * _ ≤ _; omega) ?_
  (conv => whnf)
  refine LoopW.go (α := Nat) (fun k => [(0, .d (lstD TAxisPoint.D xs)), (3, .own 1 0 xs.length), (4, .d (.int .i64 k))]) (fun k => [.gone, .arr 2 (fillL TAxisPoint.D (.st [(.int .i64 0), (.int .i64 0)]) xs k) true]) (fun k => k ≤ xs.length) (fun k => xs.length - k) 0
    (Weak.cov ⟨rfl, by rw [← hL]; rfl, rfl, trivial⟩ ⟨trivial, by rw [fillL_zero, ← hL]; rfl, trivial⟩ rfl) (Nat.zero_le _) (fun k hk => ?_)
  (conv => whnf)
  split
  · rename_i h1
    have h1 := of_decide_eq_true h1
    have h1 : k < xs.length := by omega
    obtain ⟨x, hx⟩ := at_lt h1
    have he := fillL_get TAxisPoint.D (.st [(.int .i64 0), (.int .i64 0)]) xs h1
    have hfl := fillL_len TAxisPoint.D (.st [(.int .i64 0), (.int .i64 0)]) xs k (by omega)
    (conv => whnf)
    (repeat (refine stg_ ?_))
    (refine cl_ (toAxisPoint_v x) ?_)
    (repeat (refine stg_ ?_))
    refine NextW.go (k + 1) (Weak.cov ⟨rfl, rfl, rfl, trivial⟩ ⟨trivial, by rw [← fillL_set _ _ _ hx]; rfl, trivial⟩ rfl) (by omega) (by omega)
  · rename_i h1
    have h1 := of_decide_eq_false h1
    obtain rfl : k = xs.length := by omega
    (conv => whnf)
    refine ⟨⟨[some 1], ⟨by decide, by rw [fillL_all]; rfl, trivial, trivial⟩, by decide, rfl, ?_⟩⟩
    (conv => whnf)
    exact ⟨by decide, rfl⟩
set_option maxRecDepth 100000 in
set_option maxHeartbeats 2000000 in
theorem toAxis_v (x : TAxis) (hz : zAxis x ≤ 1048576) : PC Tryz.prog 39 [.d x.D] x.V x.bs := by
  simp only [zAxis] at hz
  refine pc_intro ttOk (by kernel_rfl) Tryz.func39 rfl (by kernel_rfl) (by kernel_rfl) (by kernel_rfl) (fun hw => ?_)
  (conv => whnf)
  (refine cl_ (toAxisPointS_v x.fMap (by omega)) ?_)
  (repeat (refine stg_ ?_))
  refine ⟨⟨[some 4], ⟨by decide, rfl, trivial, trivial⟩, by decide, rfl, ?_⟩⟩
  ((conv => whnf); (refine ⟨_, rfl, ?_⟩); (repeat ((conv => whnf); (refine ⟨_, _, rfl, ?_, ?_⟩); (focus ((conv => whnf); first | exact ⟨rfl, rfl⟩ | exact ⟨by decide, rfl⟩ | ((refine ⟨_, rfl, ?_⟩); (repeat ((conv => whnf); (refine ⟨_, _, rfl, ?_, ?_⟩); (focus ((conv => whnf); first | exact ⟨rfl, rfl⟩ | exact ⟨by decide, rfl⟩)))); (conv => whnf); (first | done | rfl)))))); (conv => whnf))
set_option maxRecDepth 100000 in
set_option maxHeartbeats 2000000 in
theorem toAxisS_v (xs : List TAxis) (hz : (zL zAxis xs) ≤ 1048576) : PC Tryz.prog 20 [.d (lstD TAxis.D xs)] (.own 1 0 xs.length) [.arr 5 (xs.map TAxis.D) true] := by
  simp only [zL] at hz
  have hall := fun x hx => sum_mem zAxis (xs := xs) (x := x) hx
  refine pc_intro ttOk (by kernel_rfl) Tryz.func20 rfl (by kernel_rfl) (by kernel_rfl) (by kernel_rfl) (fun hw => ?_)
  have hL : (xs.map TAxis.D).length = xs.length := by simp
  (conv => whnf)
  refine MkW.at (by omega) (by omega) (by show (64 : Int) * _ ≤ _; omega) ?_
  (conv => whnf)
  refine LoopW.go (α := Nat) (fun k => [(0, .d (lstD TAxis.D xs)), (3, .own 1 0 xs.length), (4, .d (.int .i64 k))]) (fun k => [.gone, .arr 5 (fillL TAxis.D (.st [(.str .empty), (.int .i64 0), (.int .i64 0), (.int .i64 0), (.lst [])]) xs k) true]) (fun k => k ≤ xs.length) (fun k => xs.length - k) 0
    (Weak.cov ⟨rfl, by rw [← hL]; rfl, rfl, trivial⟩ ⟨trivial, by rw [fillL_zero, ← hL]; rfl, trivial⟩ rfl) (Nat.zero_le _) (fun k hk => ?_)
  (conv => whnf)
  split
  · rename_i h1
    have h1 := of_decide_eq_true h1
    have h1 : k < xs.length := by omega
    obtain ⟨x, hx⟩ := at_lt h1
    have he := fillL_get TAxis.D (.st [(.str .empty), (.int .i64 0), (.int .i64 0), (.int .i64 0), (.lst [])]) xs h1
    have hfl := fillL_len TAxis.D (.st [(.str .empty), (.int .i64 0), (.int .i64 0), (.int .i64 0), (.lst [])]) xs k (by omega)
    have ha := hall x (List.mem_of_getElem? hx)
    (conv => whnf)
    (repeat (refine stg_ ?_))
    (refine cl_ (toAxis_v x (by omega)) ?_)
    (repeat (refine stg_ ?_))
    refine NextW.go (k + 1) (Weak.cov ⟨rfl, rfl, rfl, trivial⟩ ⟨trivial, by rw [← fillL_set _ _ _ hx]; rfl, trivial⟩ rfl) (by omega) (by omega)
  · rename_i h1
    have h1 := of_decide_eq_false h1
    obtain rfl : k = xs.length := by omega
    (conv => whnf)
    refine ⟨⟨[some 1], ⟨by decide, by rw [fillL_all]; rfl, trivial, trivial⟩, by decide, rfl, ?_⟩⟩
    (conv => whnf)
    exact ⟨by decide, rfl⟩
set_option maxRecDepth 100000 in
set_option maxHeartbeats 2000000 in
theorem toInt64S_v (xs : List Int) (hz : xs.length ≤ 1048576) : PC Tryz.prog 7 [.d (lstD (D.int .i64) xs)] (.own 1 0 xs.length) [.arr 1 (xs.map (D.int .i64)) true] := by
  refine pc_intro ttOk (by kernel_rfl) Tryz.func7 rfl (by kernel_rfl) (by kernel_rfl) (by kernel_rfl) (fun hw => ?_)
  have hL : (xs.map (D.int .i64)).length = xs.length := by simp
  (conv => whnf)
  refine MkW.at (by omega) (by omega) (by show (8 : Int) * _ ≤ _; omega) ?_
  (conv => whnf)
  refine LoopW.go (α := Nat) (fun k => [(0, .d (lstD (D.int .i64) xs)), (3, .own 1 0 xs.length), (4, .d (.int .i64 k))]) (fun k => [.gone, .arr 1 (fillL (D.int .i64) (.int .i64 0) xs k) true]) (fun k => k ≤ xs.length) (fun k => xs.length - k) 0
    (Weak.cov ⟨rfl, by rw [← hL]; rfl, rfl, trivial⟩ ⟨trivial, by rw [fillL_zero, ← hL]; rfl, trivial⟩ rfl) (Nat.zero_le _) (fun k hk => ?_)
  (conv => whnf)
  split
  · rename_i h1
    have h1 := of_decide_eq_true h1
    have h1 : k < xs.length := by omega
    obtain ⟨x, hx⟩ := at_lt h1
    have he := fillL_get (D.int .i64) (.int .i64 0) xs h1
    have hfl := fillL_len (D.int .i64) (.int .i64 0) xs k (by omega)
    (conv => whnf)
    (repeat (refine stg_ ?_))
    refine NextW.go (k + 1) (Weak.cov ⟨rfl, rfl, rfl, trivial⟩ ⟨trivial, by rw [← fillL_set _ _ _ hx]; rfl, trivial⟩ rfl) (by omega) (by omega)
  · rename_i h1
    have h1 := of_decide_eq_false h1
    obtain rfl : k = xs.length := by omega
    (conv => whnf)
    refine ⟨⟨[some 1], ⟨by decide, by rw [fillL_all]; rfl, trivial, trivial⟩, by decide, rfl, ?_⟩⟩
    (conv => whnf)
    exact ⟨by decide, rfl⟩
set_option maxRecDepth 100000 in
set_option maxHeartbeats 2000000 in
theorem toPt_v (x : TPt) : PC Tryz.prog 130 [.d x.D] (.d x.D) [] := by
  refine pc_intro ttOk (by kernel_rfl) Tryz.func130 rfl (by kernel_rfl) (by kernel_rfl) (by kernel_rfl) (fun hw => ?_)
  (conv => whnf)
  refine RetOK.d rfl rfl ?_
  ((conv => whnf); (try (refine ⟨_, rfl, ?_⟩)); (repeat ((conv => whnf); (refine ⟨_, _, rfl, ?_, ?_⟩); (focus (first | ((conv => whnf); done) | ((conv => whnf); (refine ⟨_, rfl, ?_⟩); (repeat ((conv => whnf); (refine ⟨_, _, rfl, ?_, ?_⟩); (focus ((conv => whnf); done)))); (conv => whnf)))))); (conv => whnf))
set_option maxRecDepth 100000 in
set_option maxHeartbeats 2000000 in
theorem toPtS_v (xs : List TPt) (hz : xs.length ≤ 1048576) : PC Tryz.prog 120 [.d (lstD TPt.D xs)] (.own 1 0 xs.length) [.arr 2 (xs.map TPt.D) true] := by
  refine pc_intro ttOk (by kernel_rfl) Tryz.func120 rfl (by kernel_rfl) (by kernel_rfl) (by kernel_rfl) (fun hw => ?_)
  have hL : (xs.map TPt.D).length = xs.length := by simp
  (conv => whnf)
  refine MkW.at (by omega) (by omega) (by show (16 : Int) * _ ≤ _; omega) ?_
  (conv => whnf)
  refine LoopW.go (α := Nat) (fun k => [(0, .d (lstD TPt.D xs)), (3, .own 1 0 xs.length), (4, .d (.int .i64 k))]) (fun k => [.gone, .arr 2 (fillL TPt.D (.st [(.int .i64 0), (.int .i64 0)]) xs k) true]) (fun k => k ≤ xs.length) (fun k => xs.length - k) 0
    (Weak.cov ⟨rfl, by rw [← hL]; rfl, rfl, trivial⟩ ⟨trivial, by rw [fillL_zero, ← hL]; rfl, trivial⟩ rfl) (Nat.zero_le _) (fun k hk => ?_)
  (conv => whnf)
  split
  · rename_i h1
    have h1 := of_decide_eq_true h1
    have h1 : k < xs.length := by omega
    obtain ⟨x, hx⟩ := at_lt h1
    have he := fillL_get TPt.D (.st [(.int .i64 0), (.int .i64 0)]) xs h1
    have hfl := fillL_len TPt.D (.st [(.int .i64 0), (.int .i64 0)]) xs k (by omega)
    (conv => whnf)
    (repeat (refine stg_ ?_))
    (refine cl_ (toPt_v x) ?_)
    (repeat (refine stg_ ?_))
    refine NextW.go (k + 1) (Weak.cov ⟨rfl, rfl, rfl, trivial⟩ ⟨trivial, by rw [← fillL_set _ _ _ hx]; rfl, trivial⟩ rfl) (by omega) (by omega)
  · rename_i h1
    have h1 := of_decide_eq_false h1
    obtain rfl : k = xs.length := by omega
    (conv => whnf)
    refine ⟨⟨[some 1], ⟨by decide, by rw [fillL_all]; rfl, trivial, trivial⟩, by decide, rfl, ?_⟩⟩
    (conv => whnf)
    exact ⟨by decide, rfl⟩
set_option maxRecDepth 100000 in
set_option maxHeartbeats 2000000 in
theorem toGlyphDelta_v (x : TGlyphDelta) (hz : zGlyphDelta x ≤ 1048576) : PC Tryz.prog 96 [.d x.D] x.V x.bs := by
  simp only [zGlyphDelta] at hz
  refine pc_intro ttOk (by kernel_rfl) Tryz.func96 rfl (by kernel_rfl) (by kernel_rfl) (by kernel_rfl) (fun hw => ?_)
  (conv => whnf)
  (refine cl_ (toInt64S_v x.fKnots (by omega)) ?_)
  (repeat (refine stg_ ?_))
  (refine cl_ (toPtS_v x.fMoves (by omega)) ?_)
  (repeat (refine stg_ ?_))
  refine ⟨⟨[some 4, some 5], ⟨by decide, rfl, trivial, by decide, rfl, trivial, trivial⟩, by decide, rfl, ?_⟩⟩
  ((conv => whnf); (refine ⟨_, rfl, ?_⟩); (repeat ((conv => whnf); (refine ⟨_, _, rfl, ?_, ?_⟩); (focus ((conv => whnf); first | exact ⟨rfl, rfl⟩ | exact ⟨by decide, rfl⟩ | ((refine ⟨_, rfl, ?_⟩); (repeat ((conv => whnf); (refine ⟨_, _, rfl, ?_, ?_⟩); (focus ((conv => whnf); first | exact ⟨rfl, rfl⟩ | exact ⟨by decide, rfl⟩)))); (conv => whnf); (first | done | rfl)))))); (conv => whnf))
set_option maxRecDepth 100000 in
set_option maxHeartbeats 2000000 in
theorem toGlyphDeltaS_v (xs : List TGlyphDelta) (hz : (zL zGlyphDelta xs) ≤ 1048576) : PC Tryz.prog 70 [.d (lstD TGlyphDelta.D xs)] (.own 1 0 xs.length) [.arr 4 (xs.map TGlyphDelta.D) true] := by
  simp only [zL] at hz
  have hall := fun x hx => sum_mem zGlyphDelta (xs := xs) (x := x) hx
  refine pc_intro ttOk (by kernel_rfl) Tryz.func70 rfl (by kernel_rfl) (by kernel_rfl) (by kernel_rfl) (fun hw => ?_)
  have hL : (xs.map TGlyphDelta.D).length = xs.length := by simp
  (conv => whnf)
  refine MkW.at (by omega) (by omega) (by show (64 : Int) * _ ≤ _; omega) ?_
  (conv => whnf)
  refine LoopW.go (α := Nat) (fun k => [(0, .d (lstD TGlyphDelta.D xs)), (3, .own 1 0 xs.length), (4, .d (.int .i64 k))]) (fun k => [.gone, .arr 4 (fillL TGlyphDelta.D (.st [(.int .i64 0), (.lst []), (.lst []), (.int .i64 0)]) xs k) true]) (fun k => k ≤ xs.length) (fun k => xs.length - k) 0
    (Weak.cov ⟨rfl, by rw [← hL]; rfl, rfl, trivial⟩ ⟨trivial, by rw [fillL_zero, ← hL]; rfl, trivial⟩ rfl) (Nat.zero_le _) (fun k hk => ?_)
  (conv => whnf)
  split
  · rename_i h1
    have h1 := of_decide_eq_true h1
    have h1 : k < xs.length := by omega
    obtain ⟨x, hx⟩ := at_lt h1
    have he := fillL_get TGlyphDelta.D (.st [(.int .i64 0), (.lst []), (.lst []), (.int .i64 0)]) xs h1
    have hfl := fillL_len TGlyphDelta.D (.st [(.int .i64 0), (.lst []), (.lst []), (.int .i64 0)]) xs k (by omega)
    have ha := hall x (List.mem_of_getElem? hx)
    (conv => whnf)
    (repeat (refine stg_ ?_))
    (refine cl_ (toGlyphDelta_v x (by omega)) ?_)
    (repeat (refine stg_ ?_))
    refine NextW.go (k + 1) (Weak.cov ⟨rfl, rfl, rfl, trivial⟩ ⟨trivial, by rw [← fillL_set _ _ _ hx]; rfl, trivial⟩ rfl) (by omega) (by omega)
  · rename_i h1
    have h1 := of_decide_eq_false h1
    obtain rfl : k = xs.length := by omega
    (conv => whnf)
    refine ⟨⟨[some 1], ⟨by decide, by rw [fillL_all]; rfl, trivial, trivial⟩, by decide, rfl, ?_⟩⟩
    (conv => whnf)
    exact ⟨by decide, rfl⟩
set_option maxRecDepth 100000 in
set_option maxHeartbeats 2000000 in
theorem toMaster_v (x : TMaster) (hz : zMaster x ≤ 1048576) : PC Tryz.prog 40 [.d x.D] x.V x.bs := by
  simp only [zMaster] at hz
  refine pc_intro ttOk (by kernel_rfl) Tryz.func40 rfl (by kernel_rfl) (by kernel_rfl) (by kernel_rfl) (fun hw => ?_)
  (conv => whnf)
  (refine cl_ (toPeakS_v x.fPeaks (by omega)) ?_)
  (repeat (refine stg_ ?_))
  (refine cl_ (toGlyphDeltaS_v x.fDeltas (by simp only [zL] at hz ⊢; omega)) ?_)
  (repeat (refine stg_ ?_))
  refine ⟨⟨[some 4, some 5], ⟨by decide, rfl, trivial, by decide, rfl, trivial, trivial⟩, by decide, rfl, ?_⟩⟩
  ((conv => whnf); (refine ⟨_, rfl, ?_⟩); (repeat ((conv => whnf); (refine ⟨_, _, rfl, ?_, ?_⟩); (focus ((conv => whnf); first | exact ⟨rfl, rfl⟩ | exact ⟨by decide, rfl⟩ | ((refine ⟨_, rfl, ?_⟩); (repeat ((conv => whnf); (refine ⟨_, _, rfl, ?_, ?_⟩); (focus ((conv => whnf); first | exact ⟨rfl, rfl⟩ | exact ⟨by decide, rfl⟩)))); (conv => whnf); (first | done | rfl)))))); (conv => whnf))
set_option maxRecDepth 100000 in
set_option maxHeartbeats 2000000 in
theorem toMasterS_v (xs : List TMaster) (hz : (zL zMaster xs) ≤ 1048576) : PC Tryz.prog 21 [.d (lstD TMaster.D xs)] (.own 1 0 xs.length) [.arr 2 (xs.map TMaster.D) true] := by
  simp only [zL] at hz
  have hall := fun x hx => sum_mem zMaster (xs := xs) (x := x) hx
  refine pc_intro ttOk (by kernel_rfl) Tryz.func21 rfl (by kernel_rfl) (by kernel_rfl) (by kernel_rfl) (fun hw => ?_)
  have hL : (xs.map TMaster.D).length = xs.length := by simp
  (conv => whnf)
  refine MkW.at (by omega) (by omega) (by show (48 : Int) * _ ≤ _; omega) ?_
  (conv => whnf)
  refine LoopW.go (α := Nat) (fun k => [(0, .d (lstD TMaster.D xs)), (3, .own 1 0 xs.length), (4, .d (.int .i64 k))]) (fun k => [.gone, .arr 2 (fillL TMaster.D (.st [(.lst []), (.lst [])]) xs k) true]) (fun k => k ≤ xs.length) (fun k => xs.length - k) 0
    (Weak.cov ⟨rfl, by rw [← hL]; rfl, rfl, trivial⟩ ⟨trivial, by rw [fillL_zero, ← hL]; rfl, trivial⟩ rfl) (Nat.zero_le _) (fun k hk => ?_)
  (conv => whnf)
  split
  · rename_i h1
    have h1 := of_decide_eq_true h1
    have h1 : k < xs.length := by omega
    obtain ⟨x, hx⟩ := at_lt h1
    have he := fillL_get TMaster.D (.st [(.lst []), (.lst [])]) xs h1
    have hfl := fillL_len TMaster.D (.st [(.lst []), (.lst [])]) xs k (by omega)
    have ha := hall x (List.mem_of_getElem? hx)
    (conv => whnf)
    (repeat (refine stg_ ?_))
    (refine cl_ (toMaster_v x (by omega)) ?_)
    (repeat (refine stg_ ?_))
    refine NextW.go (k + 1) (Weak.cov ⟨rfl, rfl, rfl, trivial⟩ ⟨trivial, by rw [← fillL_set _ _ _ hx]; rfl, trivial⟩ rfl) (by omega) (by omega)
  · rename_i h1
    have h1 := of_decide_eq_false h1
    obtain rfl : k = xs.length := by omega
    (conv => whnf)
    refine ⟨⟨[some 1], ⟨by decide, by rw [fillL_all]; rfl, trivial, trivial⟩, by decide, rfl, ?_⟩⟩
    (conv => whnf)
    exact ⟨by decide, rfl⟩
set_option maxRecDepth 100000 in
set_option maxHeartbeats 2000000 in
theorem toVariation_v (x : TVariation) (hz : zVariation x ≤ 1048576) : PC Tryz.prog 6 [.d x.D] x.V x.bs := by
  simp only [zVariation] at hz
  refine pc_intro ttOk (by kernel_rfl) Tryz.func6 rfl (by kernel_rfl) (by kernel_rfl) (by kernel_rfl) (fun hw => ?_)
  (conv => whnf)
  (refine cl_ (toAxisS_v x.fAxes (by simp only [zL] at hz ⊢; omega)) ?_)
  (repeat (refine stg_ ?_))
  (refine cl_ (toMasterS_v x.fMasters (by simp only [zL] at hz ⊢; omega)) ?_)
  (repeat (refine stg_ ?_))
  refine ⟨⟨[some 4, some 5], ⟨by decide, rfl, trivial, by decide, rfl, trivial, trivial⟩, by decide, rfl, ?_⟩⟩
  ((conv => whnf); (refine ⟨_, rfl, ?_⟩); (repeat ((conv => whnf); (refine ⟨_, _, rfl, ?_, ?_⟩); (focus ((conv => whnf); first | exact ⟨rfl, rfl⟩ | exact ⟨by decide, rfl⟩ | ((refine ⟨_, rfl, ?_⟩); (repeat ((conv => whnf); (refine ⟨_, _, rfl, ?_, ?_⟩); (focus ((conv => whnf); first | exact ⟨rfl, rfl⟩ | exact ⟨by decide, rfl⟩)))); (conv => whnf); (first | done | rfl)))))); (conv => whnf))

set_option maxRecDepth 100000 in
set_option maxHeartbeats 2000000 in
theorem eqPeak_v (x : TPeak) : PC Tryz.prog 113 [.d x.D, .d x.D] (.d (.bool true)) [] := by
  refine pc_intro ttOk (by kernel_rfl) Tryz.func113 rfl (by kernel_rfl) (by kernel_rfl) (by kernel_rfl) (fun hw => ?_)
  (conv => whnf)
  (repeat (refine stg_ ?_))
  split
  · rename_i q
    simp at q
  (conv => whnf)
  (repeat (refine stg_ ?_))
  split
  · rename_i q
    simp at q
  (conv => whnf)
  (repeat (refine stg_ ?_))
  split
  · rename_i q
    simp at q
  (conv => whnf)
  (repeat (refine stg_ ?_))
  (refine RetOK.d rfl rfl ?_; conv => whnf)
set_option maxRecDepth 100000 in
set_option maxHeartbeats 2000000 in
theorem eqPeakS_v (xs : List TPeak) : PC Tryz.prog 84 [.d (lstD TPeak.D xs), .d (lstD TPeak.D xs)] (.d (.bool true)) [] := by
  refine pc_intro ttOk (by kernel_rfl) Tryz.func84 rfl (by kernel_rfl) (by kernel_rfl) (by kernel_rfl) (fun hw => ?_)
  have hm : (xs.map TPeak.D).length ≤ maxLen := hw.1.1
  have hL : (xs.map TPeak.D).length = xs.length := by simp
  unfold maxLen at hm
  (conv => whnf)
  split
  · rename_i h
    simp at h
  (conv => whnf)
  refine LoopW.go (α := Nat) (fun k => [(0, .d (lstD TPeak.D xs)), (1, .d (lstD TPeak.D xs)), (5, .d (.int .i64 k))]) (fun k => [.gone]) (fun k => k ≤ xs.length) (fun k => xs.length - k) 0
    (Weak.cov ⟨rfl, rfl, rfl, trivial⟩ ⟨trivial, trivial⟩ rfl) (Nat.zero_le _) (fun k hk => ?_)
  (conv => whnf)
  split
  · rename_i h1
    have h1 := of_decide_eq_true h1
    have h1 : k < xs.length := by omega
    obtain ⟨x, hx⟩ := at_lt h1
    (conv => whnf)
    (repeat (refine stg_ ?_))
    (refine cl_ (eqPeak_v x) ?_)
    (repeat (refine stg_ ?_))
    refine NextW.go (k + 1) (Weak.cov ⟨rfl, rfl, rfl, trivial⟩ ⟨trivial, trivial⟩ rfl) (by omega) (by omega)
  · (conv => whnf)
    (refine RetOK.d rfl rfl ?_; conv => whnf)
set_option maxRecDepth 100000 in
set_option maxHeartbeats 2000000 in
theorem eqAxisPoint_v (x : TAxisPoint) : PC Tryz.prog 112 [.d x.D, .d x.D] (.d (.bool true)) [] := by
  refine pc_intro ttOk (by kernel_rfl) Tryz.func112 rfl (by kernel_rfl) (by kernel_rfl) (by kernel_rfl) (fun hw => ?_)
  (conv => whnf)
  (repeat (refine stg_ ?_))
  split
  · rename_i q
    simp at q
  (conv => whnf)
  (repeat (refine stg_ ?_))
  split
  · rename_i q
    simp at q
  (conv => whnf)
  (repeat (refine stg_ ?_))
  (refine RetOK.d rfl rfl ?_; conv => whnf)
set_option maxRecDepth 100000 in
set_option maxHeartbeats 2000000 in
theorem eqAxisPointS_v (xs : List TAxisPoint) : PC Tryz.prog 83 [.d (lstD TAxisPoint.D xs), .d (lstD TAxisPoint.D xs)] (.d (.bool true)) [] := by
  refine pc_intro ttOk (by kernel_rfl) Tryz.func83 rfl (by kernel_rfl) (by kernel_rfl) (by kernel_rfl) (fun hw => ?_)
  have hm : (xs.map TAxisPoint.D).length ≤ maxLen := hw.1.1
  have hL : (xs.map TAxisPoint.D).length = xs.length := by simp
  unfold maxLen at hm
  (conv => whnf)
  split
  · rename_i h
    simp at h
  (conv => whnf)
  refine LoopW.go (α := Nat) (fun k => [(0, .d (lstD TAxisPoint.D xs)), (1, .d (lstD TAxisPoint.D xs)), (5, .d (.int .i64 k))]) (fun k => [.gone]) (fun k => k ≤ xs.length) (fun k => xs.length - k) 0
    (Weak.cov ⟨rfl, rfl, rfl, trivial⟩ ⟨trivial, trivial⟩ rfl) (Nat.zero_le _) (fun k hk => ?_)
  (conv => whnf)
  split
  · rename_i h1
    have h1 := of_decide_eq_true h1
    have h1 : k < xs.length := by omega
    obtain ⟨x, hx⟩ := at_lt h1
    (conv => whnf)
    (repeat (refine stg_ ?_))
    (refine cl_ (eqAxisPoint_v x) ?_)
    (repeat (refine stg_ ?_))
    refine NextW.go (k + 1) (Weak.cov ⟨rfl, rfl, rfl, trivial⟩ ⟨trivial, trivial⟩ rfl) (by omega) (by omega)
  · (conv => whnf)
    (refine RetOK.d rfl rfl ?_; conv => whnf)
set_option maxRecDepth 100000 in
set_option maxHeartbeats 2000000 in
theorem eqAxis_v (x : TAxis) : PC Tryz.prog 53 [.d x.D, .d x.D] (.d (.bool true)) [] := by
  refine pc_intro ttOk (by kernel_rfl) Tryz.func53 rfl (by kernel_rfl) (by kernel_rfl) (by kernel_rfl) (fun hw => ?_)
  (conv => whnf)
  (repeat (refine stg_ ?_))
  split
  · rename_i q
    simp at q
  (conv => whnf)
  (repeat (refine stg_ ?_))
  split
  · rename_i q
    simp at q
  (conv => whnf)
  (repeat (refine stg_ ?_))
  split
  · rename_i q
    simp at q
  (conv => whnf)
  (repeat (refine stg_ ?_))
  split
  · rename_i q
    simp at q
  (conv => whnf)
  (repeat (refine stg_ ?_))
  (refine cl_ (eqAxisPointS_v x.fMap) ?_)
  (repeat (refine stg_ ?_))
  (repeat (refine stg_ ?_))
  (refine RetOK.d rfl rfl ?_; conv => whnf)
set_option maxRecDepth 100000 in
set_option maxHeartbeats 2000000 in
theorem eqAxisS_v (xs : List TAxis) : PC Tryz.prog 25 [.d (lstD TAxis.D xs), .d (lstD TAxis.D xs)] (.d (.bool true)) [] := by
  refine pc_intro ttOk (by kernel_rfl) Tryz.func25 rfl (by kernel_rfl) (by kernel_rfl) (by kernel_rfl) (fun hw => ?_)
  have hm : (xs.map TAxis.D).length ≤ maxLen := hw.1.1
  have hL : (xs.map TAxis.D).length = xs.length := by simp
  unfold maxLen at hm
  (conv => whnf)
  split
  · rename_i h
    simp at h
  (conv => whnf)
  refine LoopW.go (α := Nat) (fun k => [(0, .d (lstD TAxis.D xs)), (1, .d (lstD TAxis.D xs)), (5, .d (.int .i64 k))]) (fun k => [.gone]) (fun k => k ≤ xs.length) (fun k => xs.length - k) 0
    (Weak.cov ⟨rfl, rfl, rfl, trivial⟩ ⟨trivial, trivial⟩ rfl) (Nat.zero_le _) (fun k hk => ?_)
  (conv => whnf)
  split
  · rename_i h1
    have h1 := of_decide_eq_true h1
    have h1 : k < xs.length := by omega
    obtain ⟨x, hx⟩ := at_lt h1
    (conv => whnf)
    (repeat (refine stg_ ?_))
    (refine cl_ (eqAxis_v x) ?_)
    (repeat (refine stg_ ?_))
    refine NextW.go (k + 1) (Weak.cov ⟨rfl, rfl, rfl, trivial⟩ ⟨trivial, trivial⟩ rfl) (by omega) (by omega)
  · (conv => whnf)
    (refine RetOK.d rfl rfl ?_; conv => whnf)
set_option maxRecDepth 100000 in
set_option maxHeartbeats 2000000 in
theorem eqInt64S_v (xs : List Int) : PC Tryz.prog 10 [.d (lstD (D.int .i64) xs), .d (lstD (D.int .i64) xs)] (.d (.bool true)) [] := by
  refine pc_intro ttOk (by kernel_rfl) Tryz.func10 rfl (by kernel_rfl) (by kernel_rfl) (by kernel_rfl) (fun hw => ?_)
  have hm : (xs.map (D.int .i64)).length ≤ maxLen := hw.1.1
  have hL : (xs.map (D.int .i64)).length = xs.length := by simp
  unfold maxLen at hm
  (conv => whnf)
  split
  · rename_i h
    simp at h
  (conv => whnf)
  refine LoopW.go (α := Nat) (fun k => [(0, .d (lstD (D.int .i64) xs)), (1, .d (lstD (D.int .i64) xs)), (5, .d (.int .i64 k))]) (fun k => [.gone]) (fun k => k ≤ xs.length) (fun k => xs.length - k) 0
    (Weak.cov ⟨rfl, rfl, rfl, trivial⟩ ⟨trivial, trivial⟩ rfl) (Nat.zero_le _) (fun k hk => ?_)
  (conv => whnf)
  split
  · rename_i h1
    have h1 := of_decide_eq_true h1
    have h1 : k < xs.length := by omega
    obtain ⟨x, hx⟩ := at_lt h1
    (conv => whnf)
    (repeat (refine stg_ ?_))
    split
    · rename_i q
      simp at q
    (conv => whnf)
    (repeat (refine stg_ ?_))
    refine NextW.go (k + 1) (Weak.cov ⟨rfl, rfl, rfl, trivial⟩ ⟨trivial, trivial⟩ rfl) (by omega) (by omega)
  · (conv => whnf)
    (refine RetOK.d rfl rfl ?_; conv => whnf)
set_option maxRecDepth 100000 in
set_option maxHeartbeats 2000000 in
theorem eqPt_v (x : TPt) : PC Tryz.prog 133 [.d x.D, .d x.D] (.d (.bool true)) [] := by
  refine pc_intro ttOk (by kernel_rfl) Tryz.func133 rfl (by kernel_rfl) (by kernel_rfl) (by kernel_rfl) (fun hw => ?_)
  (conv => whnf)
  (repeat (refine stg_ ?_))
  split
  · rename_i q
    simp at q
  (conv => whnf)
  (repeat (refine stg_ ?_))
  split
  · rename_i q
    simp at q
  (conv => whnf)
  (repeat (refine stg_ ?_))
  (refine RetOK.d rfl rfl ?_; conv => whnf)
set_option maxRecDepth 100000 in
set_option maxHeartbeats 2000000 in
theorem eqPtS_v (xs : List TPt) : PC Tryz.prog 129 [.d (lstD TPt.D xs), .d (lstD TPt.D xs)] (.d (.bool true)) [] := by
  refine pc_intro ttOk (by kernel_rfl) Tryz.func129 rfl (by kernel_rfl) (by kernel_rfl) (by kernel_rfl) (fun hw => ?_)
  have hm : (xs.map TPt.D).length ≤ maxLen := hw.1.1
  have hL : (xs.map TPt.D).length = xs.length := by simp
  unfold maxLen at hm
  (conv => whnf)
  split
  · rename_i h
    simp at h
  (conv => whnf)
  refine LoopW.go (α := Nat) (fun k => [(0, .d (lstD TPt.D xs)), (1, .d (lstD TPt.D xs)), (5, .d (.int .i64 k))]) (fun k => [.gone]) (fun k => k ≤ xs.length) (fun k => xs.length - k) 0
    (Weak.cov ⟨rfl, rfl, rfl, trivial⟩ ⟨trivial, trivial⟩ rfl) (Nat.zero_le _) (fun k hk => ?_)
  (conv => whnf)
  split
  · rename_i h1
    have h1 := of_decide_eq_true h1
    have h1 : k < xs.length := by omega
    obtain ⟨x, hx⟩ := at_lt h1
    (conv => whnf)
    (repeat (refine stg_ ?_))
    (refine cl_ (eqPt_v x) ?_)
    (repeat (refine stg_ ?_))
    refine NextW.go (k + 1) (Weak.cov ⟨rfl, rfl, rfl, trivial⟩ ⟨trivial, trivial⟩ rfl) (by omega) (by omega)
  · (conv => whnf)
    (refine RetOK.d rfl rfl ?_; conv => whnf)
set_option maxRecDepth 100000 in
set_option maxHeartbeats 2000000 in
theorem eqGlyphDelta_v (x : TGlyphDelta) : PC Tryz.prog 114 [.d x.D, .d x.D] (.d (.bool true)) [] := by
  refine pc_intro ttOk (by kernel_rfl) Tryz.func114 rfl (by kernel_rfl) (by kernel_rfl) (by kernel_rfl) (fun hw => ?_)
  (conv => whnf)
  (repeat (refine stg_ ?_))
  split
  · rename_i q
    simp at q
  (conv => whnf)
  (repeat (refine stg_ ?_))
  (refine cl_ (eqInt64S_v x.fKnots) ?_)
  (repeat (refine stg_ ?_))
  (repeat (refine stg_ ?_))
  (refine cl_ (eqPtS_v x.fMoves) ?_)
  (repeat (refine stg_ ?_))
  (repeat (refine stg_ ?_))
  split
  · rename_i q
    simp at q
  (conv => whnf)
  (repeat (refine stg_ ?_))
  (refine RetOK.d rfl rfl ?_; conv => whnf)
set_option maxRecDepth 100000 in
set_option maxHeartbeats 2000000 in
theorem eqGlyphDeltaS_v (xs : List TGlyphDelta) : PC Tryz.prog 85 [.d (lstD TGlyphDelta.D xs), .d (lstD TGlyphDelta.D xs)] (.d (.bool true)) [] := by
  refine pc_intro ttOk (by kernel_rfl) Tryz.func85 rfl (by kernel_rfl) (by kernel_rfl) (by kernel_rfl) (fun hw => ?_)
  have hm : (xs.map TGlyphDelta.D).length ≤ maxLen := hw.1.1
  have hL : (xs.map TGlyphDelta.D).length = xs.length := by simp
  unfold maxLen at hm
  (conv => whnf)
  split
  · rename_i h
    simp at h
  (conv => whnf)
  refine LoopW.go (α := Nat) (fun k => [(0, .d (lstD TGlyphDelta.D xs)), (1, .d (lstD TGlyphDelta.D xs)), (5, .d (.int .i64 k))]) (fun k => [.gone]) (fun k => k ≤ xs.length) (fun k => xs.length - k) 0
    (Weak.cov ⟨rfl, rfl, rfl, trivial⟩ ⟨trivial, trivial⟩ rfl) (Nat.zero_le _) (fun k hk => ?_)
  (conv => whnf)
  split
  · rename_i h1
    have h1 := of_decide_eq_true h1
    have h1 : k < xs.length := by omega
    obtain ⟨x, hx⟩ := at_lt h1
    (conv => whnf)
    (repeat (refine stg_ ?_))
    (refine cl_ (eqGlyphDelta_v x) ?_)
    (repeat (refine stg_ ?_))
    refine NextW.go (k + 1) (Weak.cov ⟨rfl, rfl, rfl, trivial⟩ ⟨trivial, trivial⟩ rfl) (by omega) (by omega)
  · (conv => whnf)
    (refine RetOK.d rfl rfl ?_; conv => whnf)
set_option maxRecDepth 100000 in
set_option maxHeartbeats 2000000 in
theorem eqMaster_v (x : TMaster) : PC Tryz.prog 54 [.d x.D, .d x.D] (.d (.bool true)) [] := by
  refine pc_intro ttOk (by kernel_rfl) Tryz.func54 rfl (by kernel_rfl) (by kernel_rfl) (by kernel_rfl) (fun hw => ?_)
  (conv => whnf)
  (repeat (refine stg_ ?_))
  (refine cl_ (eqPeakS_v x.fPeaks) ?_)
  (repeat (refine stg_ ?_))
  (repeat (refine stg_ ?_))
  (refine cl_ (eqGlyphDeltaS_v x.fDeltas) ?_)
  (repeat (refine stg_ ?_))
  (repeat (refine stg_ ?_))
  (refine RetOK.d rfl rfl ?_; conv => whnf)
set_option maxRecDepth 100000 in
set_option maxHeartbeats 2000000 in
theorem eqMasterS_v (xs : List TMaster) : PC Tryz.prog 26 [.d (lstD TMaster.D xs), .d (lstD TMaster.D xs)] (.d (.bool true)) [] := by
  refine pc_intro ttOk (by kernel_rfl) Tryz.func26 rfl (by kernel_rfl) (by kernel_rfl) (by kernel_rfl) (fun hw => ?_)
  have hm : (xs.map TMaster.D).length ≤ maxLen := hw.1.1
  have hL : (xs.map TMaster.D).length = xs.length := by simp
  unfold maxLen at hm
  (conv => whnf)
  split
  · rename_i h
    simp at h
  (conv => whnf)
  refine LoopW.go (α := Nat) (fun k => [(0, .d (lstD TMaster.D xs)), (1, .d (lstD TMaster.D xs)), (5, .d (.int .i64 k))]) (fun k => [.gone]) (fun k => k ≤ xs.length) (fun k => xs.length - k) 0
    (Weak.cov ⟨rfl, rfl, rfl, trivial⟩ ⟨trivial, trivial⟩ rfl) (Nat.zero_le _) (fun k hk => ?_)
  (conv => whnf)
  split
  · rename_i h1
    have h1 := of_decide_eq_true h1
    have h1 : k < xs.length := by omega
    obtain ⟨x, hx⟩ := at_lt h1
    (conv => whnf)
    (repeat (refine stg_ ?_))
    (refine cl_ (eqMaster_v x) ?_)
    (repeat (refine stg_ ?_))
    refine NextW.go (k + 1) (Weak.cov ⟨rfl, rfl, rfl, trivial⟩ ⟨trivial, trivial⟩ rfl) (by omega) (by omega)
  · (conv => whnf)
    (refine RetOK.d rfl rfl ?_; conv => whnf)
set_option maxRecDepth 100000 in
set_option maxHeartbeats 2000000 in
theorem eqVariation_v (x : TVariation) : PC Tryz.prog 9 [.d x.D, .d x.D] (.d (.bool true)) [] := by
  refine pc_intro ttOk (by kernel_rfl) Tryz.func9 rfl (by kernel_rfl) (by kernel_rfl) (by kernel_rfl) (fun hw => ?_)
  (conv => whnf)
  (repeat (refine stg_ ?_))
  (refine cl_ (eqAxisS_v x.fAxes) ?_)
  (repeat (refine stg_ ?_))
  (repeat (refine stg_ ?_))
  (refine cl_ (eqMasterS_v x.fMasters) ?_)
  (repeat (refine stg_ ?_))
  (repeat (refine stg_ ?_))
  (refine RetOK.d rfl rfl ?_; conv => whnf)

end Go.Proofs.YtehndgkmpdlccaaGreat
