/- The laws' own functions (sizes, copies, comparisons): what each returns. Written by a program (wip/tools/gen_lv.py). -/
import Derived.Test.YtfnnlipcclklnaaLVBase
set_option linter.unusedSimpArgs false
set_option linter.unusedVariables false
namespace Go.Proofs.Ytfnnlipcclklnaa
open Go.RowKit
def zL {α : Type} (f : α → Nat) (xs : List α) : Nat := xs.length + (xs.map f).sum
def zTable (x : TTable) : Nat := x.fTag.size + x.fData.size
def zAxis (x : TAxis) : Nat := x.fName.size + x.fMap.length
def TAxis.V (x : TAxis) : V := .st [.d (.str x.fName), .d (.int .i64 x.fMin), .d (.int .i64 x.fDefault), .d (.int .i64 x.fMax), .own 1 0 x.fMap.length]
def TAxis.bs (x : TAxis) : List Blk := [.arr 2 (x.fMap.map TAxisPoint.D) true]
def zGlyphDelta (x : TGlyphDelta) : Nat := x.fKnots.length + x.fMoves.length
def TGlyphDelta.V (x : TGlyphDelta) : V := .st [.d (.int .i64 x.fGlyph), .own 1 0 x.fKnots.length, .own 2 0 x.fMoves.length, .d (.int .i64 x.fAdvance)]
def TGlyphDelta.bs (x : TGlyphDelta) : List Blk := [.arr 1 (x.fKnots.map (D.int .i64)) true, .arr 2 (x.fMoves.map TPt.D) true]
def zMaster (x : TMaster) : Nat := x.fPeaks.length + (zL zGlyphDelta x.fDeltas)
def TMaster.V (x : TMaster) : V := .st [.own 1 0 x.fPeaks.length, .own 2 0 x.fDeltas.length]
def TMaster.bs (x : TMaster) : List Blk := [.arr 3 (x.fPeaks.map TPeak.D) true, .arr 4 (x.fDeltas.map TGlyphDelta.D) true]
def zVariation (x : TVariation) : Nat := (zL zAxis x.fAxes) + (zL zMaster x.fMasters)
def TVariation.V (x : TVariation) : V := .st [.own 1 0 x.fAxes.length, .own 2 0 x.fMasters.length]
def TVariation.bs (x : TVariation) : List Blk := [.arr 5 (x.fAxes.map TAxis.D) true, .arr 2 (x.fMasters.map TMaster.D) true]
def zLoop (x : TLoop) : Nat := x.fKnots.length
def TLoop.V (x : TLoop) : V := .st [.own 1 0 x.fKnots.length]
def TLoop.bs (x : TLoop) : List Blk := [.arr 3 (x.fKnots.map TKnot.D) true]
def zOutline (x : TOutline) : Nat := (zL zLoop x.fLoops)
def TOutline.V (x : TOutline) : V := .st [.own 1 0 x.fLoops.length]
def TOutline.bs (x : TOutline) : List Blk := [.arr 1 (x.fLoops.map TLoop.D) true]
def zRule (x : TRule) : Nat := (zL List.length x.fBefore) + (zL List.length x.fInput) + (zL List.length x.fAfter) + x.fOutput.length
def TRule.V (x : TRule) : V := .st [.own 1 0 x.fBefore.length, .own 2 0 x.fInput.length, .own 3 0 x.fAfter.length, .own 4 0 x.fOutput.length]
def TRule.bs (x : TRule) : List Blk := [.arr 1 (x.fBefore.map (lstD (D.int .i64))) true, .arr 1 (x.fInput.map (lstD (D.int .i64))) true, .arr 1 (x.fAfter.map (lstD (D.int .i64))) true, .arr 1 (x.fOutput.map (D.int .i64)) true]
def zLookup (x : TLookup) : Nat := x.fName.size + (zL zRule x.fRules)
def TLookup.V (x : TLookup) : V := .st [.d (.str x.fName), .own 1 0 x.fRules.length]
def TLookup.bs (x : TLookup) : List Blk := [.arr 4 (x.fRules.map TRule.D) true]
def zKern (x : TKern) : Nat := x.fLeft.length + x.fRight.length
def TKern.V (x : TKern) : V := .st [.own 1 0 x.fLeft.length, .own 2 0 x.fRight.length, .d (.int .i64 x.fValue)]
def TKern.bs (x : TKern) : List Blk := [.arr 1 (x.fLeft.map (D.int .i64)) true, .arr 1 (x.fRight.map (D.int .i64)) true]
def zMarkRule (x : TMarkRule) : Nat := x.fMarks.length + x.fBases.length + x.fAnchor.size
def TMarkRule.V (x : TMarkRule) : V := .st [.own 1 0 x.fMarks.length, .own 2 0 x.fBases.length, .d (.str x.fAnchor)]
def TMarkRule.bs (x : TMarkRule) : List Blk := [.arr 1 (x.fMarks.map (D.int .i64)) true, .arr 1 (x.fBases.map (D.int .i64)) true]
def zFeatures (x : TFeatures) : Nat := (zL zLookup x.fLookups) + (zL zKern x.fKerns) + (zL zMarkRule x.fMarks) + x.fJoins.length
def TFeatures.V (x : TFeatures) : V := .st [.own 1 0 x.fLookups.length, .own 2 0 x.fKerns.length, .own 3 0 x.fMarks.length, .own 4 0 x.fJoins.length]
def TFeatures.bs (x : TFeatures) : List Blk := [.arr 2 (x.fLookups.map TLookup.D) true, .arr 3 (x.fKerns.map TKern.D) true, .arr 3 (x.fMarks.map TMarkRule.D) true, .arr 5 (x.fJoins.map TJoin.D) true]
def zAnchor (x : TAnchor) : Nat := x.fName.size
def zGlyph (x : TGlyph) : Nat := x.fName.size + (zOutline x.fOutline) + x.fParts.length + (zL zAnchor x.fAnchors) + x.fHints.size
def TGlyph.V (x : TGlyph) : V := .st [.d (.str x.fName), .d (.int .i64 x.fCode), .d (.int .i64 x.fAdvance), .st [.own 1 0 x.fOutline.fLoops.length], .own 2 0 x.fParts.length, .own 3 0 x.fAnchors.length, .d (.str x.fHints)]
def TGlyph.bs (x : TGlyph) : List Blk := [.arr 1 (x.fOutline.fLoops.map TLoop.D) true, .arr 3 (x.fParts.map TPart.D) true, .arr 3 (x.fAnchors.map TAnchor.D) true]
def zGlyphSet (x : TGlyphSet) : Nat := (zL zGlyph x.fGlyphs)
def TGlyphSet.V (x : TGlyphSet) : V := .st [.d (.int .i64 x.fUnit), .own 1 0 x.fGlyphs.length]
def TGlyphSet.bs (x : TGlyphSet) : List Blk := [.arr 7 (x.fGlyphs.map TGlyph.D) true]

set_option maxHeartbeats 2000000 in
theorem szKnotS_v (xs : List TKnot) (left : Int) (hl : left ≤ 1048576) (h0 : 0 ≤ left) : PC Try.prog 82 [.d (lstD TKnot.D xs), .d (.int .i64 left)] (.d (.int .i64 (szR left xs.length))) [] := by
  refine pc_intro ttOk (by kernel_rfl) Try.func82 rfl (by kernel_rfl) (by kernel_rfl) (by kernel_rfl) (fun hw => ?_)
  have hm : (xs.map TKnot.D).length ≤ maxLen := hw.1.1
  have hL : (xs.map TKnot.D).length = xs.length := by simp
  unfold maxLen at hm
  (conv => whnf)
  (repeat (refine stg_ ?_))
  split
  · rename_i h1
    have h1 := of_decide_eq_true h1
    (conv => whnf)
    (refine RetOK.d rfl rfl ?_; conv => whnf)
    rw [szR_gt (by omega)]
  rename_i h1
  have h1 := of_decide_eq_false h1
  (conv => whnf)
  (refine RetOK.d rfl rfl ?_; conv => whnf)
  rw [szR_le (by omega), hL]
theorem szKnotS_le (xs : List TKnot) (left : Int) (hl : left ≤ 1048576) (h0 : 0 ≤ left) (hz : ((xs.length : Nat) : Int) ≤ left) : PC Try.prog 82 [.d (lstD TKnot.D xs), .d (.int .i64 left)] (.d (.int .i64 (left - ((xs.length : Nat) : Int)))) [] := by
  have := szKnotS_v xs left hl h0
  rwa [szR_le hz] at this
theorem szKnotS_gt (xs : List TKnot) (left : Int) (hl : left ≤ 1048576) (h0 : 0 ≤ left) (hz : left < ((xs.length : Nat) : Int)) : PC Try.prog 82 [.d (lstD TKnot.D xs), .d (.int .i64 left)] (.d (.int .i64 (-1))) [] := by
  have := szKnotS_v xs left hl h0
  rwa [szR_gt hz] at this
set_option maxHeartbeats 2000000 in
theorem szLoop_v (x : TLoop) (left : Int) (hl : left ≤ 1048576) (h0 : 0 ≤ left) : PC Try.prog 74 [.d x.D, .d (.int .i64 left)] (.d (.int .i64 (szR left (zLoop x)))) [] := by
  refine pc_intro ttOk (by kernel_rfl) Try.func74 rfl (by kernel_rfl) (by kernel_rfl) (by kernel_rfl) (fun hw => ?_)
  (conv => whnf)
  by_cases g0 : ((x.fKnots.length : Nat) : Int) ≤ left
  rotate_left
  · (refine cl_ (szKnotS_gt x.fKnots (left) (by omega) (by omega) (by omega)) ?_)
    (repeat (refine stg_ ?_))
    (refine RetOK.d rfl rfl ?_; conv => whnf)
    rw [szR_gt (by simp only [zLoop]; omega)]
  (refine cl_ (szKnotS_le x.fKnots (left) (by omega) (by omega) g0) ?_)
  (repeat (refine stg_ ?_))
  split
  · rename_i q
    exact absurd (of_decide_eq_true q) (by omega)
  (conv => whnf)
  (refine RetOK.d rfl rfl ?_; conv => whnf)
  rw [szR_le (by simp only [zLoop]; omega)]
  congr 1 <;> ((simp only [zLoop]) <;> omega)
theorem szLoop_le (x : TLoop) (left : Int) (hl : left ≤ 1048576) (h0 : 0 ≤ left) (hz : (((zLoop x) : Nat) : Int) ≤ left) : PC Try.prog 74 [.d x.D, .d (.int .i64 left)] (.d (.int .i64 (left - (((zLoop x) : Nat) : Int)))) [] := by
  have := szLoop_v x left hl h0
  rwa [szR_le hz] at this
theorem szLoop_gt (x : TLoop) (left : Int) (hl : left ≤ 1048576) (h0 : 0 ≤ left) (hz : left < (((zLoop x) : Nat) : Int)) : PC Try.prog 74 [.d x.D, .d (.int .i64 left)] (.d (.int .i64 (-1))) [] := by
  have := szLoop_v x left hl h0
  rwa [szR_gt hz] at this
set_option maxHeartbeats 2000000 in
theorem szLoopS_v (xs : List TLoop) (left : Int) (hl : left ≤ 1048576) (h0 : 0 ≤ left) : PC Try.prog 56 [.d (lstD TLoop.D xs), .d (.int .i64 left)] (.d (.int .i64 (szR left (zL zLoop xs)))) [] := by
  refine pc_intro ttOk (by kernel_rfl) Try.func56 rfl (by kernel_rfl) (by kernel_rfl) (by kernel_rfl) (fun hw => ?_)
  have hm : (xs.map TLoop.D).length ≤ maxLen := hw.1.1
  have hL : (xs.map TLoop.D).length = xs.length := by simp
  unfold maxLen at hm
  have hall := zSum_le_all zLoop xs
  (conv => whnf)
  (repeat (refine stg_ ?_))
  split
  · rename_i h1
    have h1 := of_decide_eq_true h1
    (conv => whnf)
    (refine RetOK.d rfl rfl ?_; conv => whnf)
    rw [szR_gt (by simp only [zL]; omega)]
  rename_i h1
  have h1 := of_decide_eq_false h1
  (conv => whnf)
  refine LoopW.go (α := Nat) (fun k => [(0, .d (lstD TLoop.D xs)), (1, .d (.int .i64 (left - (xs.map TLoop.D).length - (zSum zLoop xs k : Nat)))), (5, .d (.int .i64 k))]) (fun k => [.gone]) (fun k => k ≤ xs.length ∧ (((xs.map TLoop.D).length + zSum zLoop xs k : Nat) : Int) ≤ left) (fun k => xs.length - k) 0
    (Weak.cov ⟨rfl, by rw [zSum_zero]; show V.d (D.int .i64 _) = V.d (D.int .i64 _); congr 2; omega, rfl, trivial⟩ ⟨trivial, trivial⟩ rfl) ⟨Nat.zero_le _, by rw [zSum_zero]; omega⟩ (fun k hk => ?_)
  obtain ⟨hk, hk2⟩ := hk
  (conv => whnf)
  split
  · rename_i h2
    have h2 := of_decide_eq_true h2
    have h2 : k < xs.length := by omega
    obtain ⟨x, hx⟩ := at_lt h2
    have hs := zSum_succ zLoop hx
    have ha := hall (k + 1)
    (conv => whnf)
    (repeat (refine stg_ ?_))
    by_cases q : (((zLoop x) : Nat) : Int) ≤ (left - ((xs.map TLoop.D).length : Nat) - (zSum zLoop xs k : Nat))
    rotate_left
    · (refine cl_ (szLoop_gt x (left - ((xs.map TLoop.D).length : Nat) - (zSum zLoop xs k : Nat)) (by omega) (by omega) (by omega)) ?_)
      (repeat (refine stg_ ?_))
      (refine RetOK.d rfl rfl ?_; conv => whnf)
      rw [szR_gt (by simp only [zL]; omega)]
    (refine cl_ (szLoop_le x (left - ((xs.map TLoop.D).length : Nat) - (zSum zLoop xs k : Nat)) (by omega) (by omega) q) ?_)
    (repeat (refine stg_ ?_))
    split
    · rename_i q2
      exact absurd (of_decide_eq_true q2) (by omega)
    (conv => whnf)
    (repeat (refine stg_ ?_))
    refine NextW.go (k + 1) (Weak.cov ⟨rfl, by show V.d (D.int .i64 _) = V.d (D.int .i64 _); rw [hs]; congr 2; omega, rfl, trivial⟩ ⟨trivial, trivial⟩ rfl) ⟨by omega, by omega⟩ (by omega)
  · rename_i h2
    have h2 := of_decide_eq_false h2
    obtain rfl : k = xs.length := by omega
    have ha := zSum_all zLoop (Nat.le_refl xs.length)
    (conv => whnf)
    (refine RetOK.d rfl rfl ?_; conv => whnf)
    rw [szR_le (by simp only [zL]; omega)]
    congr 1 <;> ((simp only [zL]) <;> omega)
theorem szLoopS_le (xs : List TLoop) (left : Int) (hl : left ≤ 1048576) (h0 : 0 ≤ left) (hz : (((zL zLoop xs) : Nat) : Int) ≤ left) : PC Try.prog 56 [.d (lstD TLoop.D xs), .d (.int .i64 left)] (.d (.int .i64 (left - (((zL zLoop xs) : Nat) : Int)))) [] := by
  have := szLoopS_v xs left hl h0
  rwa [szR_le hz] at this
theorem szLoopS_gt (xs : List TLoop) (left : Int) (hl : left ≤ 1048576) (h0 : 0 ≤ left) (hz : left < (((zL zLoop xs) : Nat) : Int)) : PC Try.prog 56 [.d (lstD TLoop.D xs), .d (.int .i64 left)] (.d (.int .i64 (-1))) [] := by
  have := szLoopS_v xs left hl h0
  rwa [szR_gt hz] at this
set_option maxHeartbeats 2000000 in
theorem szOutline_v (x : TOutline) (left : Int) (hl : left ≤ 1048576) (h0 : 0 ≤ left) : PC Try.prog 38 [.d x.D, .d (.int .i64 left)] (.d (.int .i64 (szR left (zOutline x)))) [] := by
  refine pc_intro ttOk (by kernel_rfl) Try.func38 rfl (by kernel_rfl) (by kernel_rfl) (by kernel_rfl) (fun hw => ?_)
  (conv => whnf)
  by_cases g0 : (((zL zLoop x.fLoops) : Nat) : Int) ≤ left
  rotate_left
  · (refine cl_ (szLoopS_gt x.fLoops (left) (by omega) (by omega) (by omega)) ?_)
    (repeat (refine stg_ ?_))
    (refine RetOK.d rfl rfl ?_; conv => whnf)
    rw [szR_gt (by simp only [zOutline]; omega)]
  (refine cl_ (szLoopS_le x.fLoops (left) (by omega) (by omega) g0) ?_)
  (repeat (refine stg_ ?_))
  split
  · rename_i q
    exact absurd (of_decide_eq_true q) (by omega)
  (conv => whnf)
  (refine RetOK.d rfl rfl ?_; conv => whnf)
  rw [szR_le (by simp only [zOutline]; omega)]
  congr 1 <;> ((simp only [zOutline]) <;> omega)
theorem szOutline_le (x : TOutline) (left : Int) (hl : left ≤ 1048576) (h0 : 0 ≤ left) (hz : (((zOutline x) : Nat) : Int) ≤ left) : PC Try.prog 38 [.d x.D, .d (.int .i64 left)] (.d (.int .i64 (left - (((zOutline x) : Nat) : Int)))) [] := by
  have := szOutline_v x left hl h0
  rwa [szR_le hz] at this
theorem szOutline_gt (x : TOutline) (left : Int) (hl : left ≤ 1048576) (h0 : 0 ≤ left) (hz : left < (((zOutline x) : Nat) : Int)) : PC Try.prog 38 [.d x.D, .d (.int .i64 left)] (.d (.int .i64 (-1))) [] := by
  have := szOutline_v x left hl h0
  rwa [szR_gt hz] at this
set_option maxHeartbeats 2000000 in
theorem szPartS_v (xs : List TPart) (left : Int) (hl : left ≤ 1048576) (h0 : 0 ≤ left) : PC Try.prog 39 [.d (lstD TPart.D xs), .d (.int .i64 left)] (.d (.int .i64 (szR left xs.length))) [] := by
  refine pc_intro ttOk (by kernel_rfl) Try.func39 rfl (by kernel_rfl) (by kernel_rfl) (by kernel_rfl) (fun hw => ?_)
  have hm : (xs.map TPart.D).length ≤ maxLen := hw.1.1
  have hL : (xs.map TPart.D).length = xs.length := by simp
  unfold maxLen at hm
  (conv => whnf)
  (repeat (refine stg_ ?_))
  split
  · rename_i h1
    have h1 := of_decide_eq_true h1
    (conv => whnf)
    (refine RetOK.d rfl rfl ?_; conv => whnf)
    rw [szR_gt (by omega)]
  rename_i h1
  have h1 := of_decide_eq_false h1
  (conv => whnf)
  (refine RetOK.d rfl rfl ?_; conv => whnf)
  rw [szR_le (by omega), hL]
theorem szPartS_le (xs : List TPart) (left : Int) (hl : left ≤ 1048576) (h0 : 0 ≤ left) (hz : ((xs.length : Nat) : Int) ≤ left) : PC Try.prog 39 [.d (lstD TPart.D xs), .d (.int .i64 left)] (.d (.int .i64 (left - ((xs.length : Nat) : Int)))) [] := by
  have := szPartS_v xs left hl h0
  rwa [szR_le hz] at this
theorem szPartS_gt (xs : List TPart) (left : Int) (hl : left ≤ 1048576) (h0 : 0 ≤ left) (hz : left < ((xs.length : Nat) : Int)) : PC Try.prog 39 [.d (lstD TPart.D xs), .d (.int .i64 left)] (.d (.int .i64 (-1))) [] := by
  have := szPartS_v xs left hl h0
  rwa [szR_gt hz] at this
set_option maxHeartbeats 2000000 in
theorem szAnchor_v (x : TAnchor) (left : Int) (hl : left ≤ 1048576) (h0 : 0 ≤ left) : PC Try.prog 57 [.d x.D, .d (.int .i64 left)] (.d (.int .i64 (szR left (zAnchor x)))) [] := by
  refine pc_intro ttOk (by kernel_rfl) Try.func57 rfl (by kernel_rfl) (by kernel_rfl) (by kernel_rfl) (fun hw => ?_)
  have hm0 : x.fName.size ≤ maxLen := hw.1.1
  unfold maxLen at hm0
  (conv => whnf)
  (repeat (refine stg_ ?_))
  split
  · rename_i g0
    have g0 := of_decide_eq_true g0
    (conv => whnf)
    (refine RetOK.d rfl rfl ?_; conv => whnf)
    rw [szR_gt (by simp only [zAnchor]; omega)]
  rename_i g0
  have g0 := of_decide_eq_false g0
  (conv => whnf)
  (refine RetOK.d rfl rfl ?_; conv => whnf)
  rw [szR_le (by simp only [zAnchor]; omega)]
  congr 1 <;> ((simp only [zAnchor]) <;> omega)
theorem szAnchor_le (x : TAnchor) (left : Int) (hl : left ≤ 1048576) (h0 : 0 ≤ left) (hz : (((zAnchor x) : Nat) : Int) ≤ left) : PC Try.prog 57 [.d x.D, .d (.int .i64 left)] (.d (.int .i64 (left - (((zAnchor x) : Nat) : Int)))) [] := by
  have := szAnchor_v x left hl h0
  rwa [szR_le hz] at this
theorem szAnchor_gt (x : TAnchor) (left : Int) (hl : left ≤ 1048576) (h0 : 0 ≤ left) (hz : left < (((zAnchor x) : Nat) : Int)) : PC Try.prog 57 [.d x.D, .d (.int .i64 left)] (.d (.int .i64 (-1))) [] := by
  have := szAnchor_v x left hl h0
  rwa [szR_gt hz] at this
set_option maxHeartbeats 2000000 in
theorem szAnchorS_v (xs : List TAnchor) (left : Int) (hl : left ≤ 1048576) (h0 : 0 ≤ left) : PC Try.prog 40 [.d (lstD TAnchor.D xs), .d (.int .i64 left)] (.d (.int .i64 (szR left (zL zAnchor xs)))) [] := by
  refine pc_intro ttOk (by kernel_rfl) Try.func40 rfl (by kernel_rfl) (by kernel_rfl) (by kernel_rfl) (fun hw => ?_)
  have hm : (xs.map TAnchor.D).length ≤ maxLen := hw.1.1
  have hL : (xs.map TAnchor.D).length = xs.length := by simp
  unfold maxLen at hm
  have hall := zSum_le_all zAnchor xs
  (conv => whnf)
  (repeat (refine stg_ ?_))
  split
  · rename_i h1
    have h1 := of_decide_eq_true h1
    (conv => whnf)
    (refine RetOK.d rfl rfl ?_; conv => whnf)
    rw [szR_gt (by simp only [zL]; omega)]
  rename_i h1
  have h1 := of_decide_eq_false h1
  (conv => whnf)
  refine LoopW.go (α := Nat) (fun k => [(0, .d (lstD TAnchor.D xs)), (1, .d (.int .i64 (left - (xs.map TAnchor.D).length - (zSum zAnchor xs k : Nat)))), (5, .d (.int .i64 k))]) (fun k => [.gone]) (fun k => k ≤ xs.length ∧ (((xs.map TAnchor.D).length + zSum zAnchor xs k : Nat) : Int) ≤ left) (fun k => xs.length - k) 0
    (Weak.cov ⟨rfl, by rw [zSum_zero]; show V.d (D.int .i64 _) = V.d (D.int .i64 _); congr 2; omega, rfl, trivial⟩ ⟨trivial, trivial⟩ rfl) ⟨Nat.zero_le _, by rw [zSum_zero]; omega⟩ (fun k hk => ?_)
  obtain ⟨hk, hk2⟩ := hk
  (conv => whnf)
  split
  · rename_i h2
    have h2 := of_decide_eq_true h2
    have h2 : k < xs.length := by omega
    obtain ⟨x, hx⟩ := at_lt h2
    have hs := zSum_succ zAnchor hx
    have ha := hall (k + 1)
    (conv => whnf)
    (repeat (refine stg_ ?_))
    by_cases q : (((zAnchor x) : Nat) : Int) ≤ (left - ((xs.map TAnchor.D).length : Nat) - (zSum zAnchor xs k : Nat))
    rotate_left
    · (refine cl_ (szAnchor_gt x (left - ((xs.map TAnchor.D).length : Nat) - (zSum zAnchor xs k : Nat)) (by omega) (by omega) (by omega)) ?_)
      (repeat (refine stg_ ?_))
      (refine RetOK.d rfl rfl ?_; conv => whnf)
      rw [szR_gt (by simp only [zL]; omega)]
    (refine cl_ (szAnchor_le x (left - ((xs.map TAnchor.D).length : Nat) - (zSum zAnchor xs k : Nat)) (by omega) (by omega) q) ?_)
    (repeat (refine stg_ ?_))
    split
    · rename_i q2
      exact absurd (of_decide_eq_true q2) (by omega)
    (conv => whnf)
    (repeat (refine stg_ ?_))
    refine NextW.go (k + 1) (Weak.cov ⟨rfl, by show V.d (D.int .i64 _) = V.d (D.int .i64 _); rw [hs]; congr 2; omega, rfl, trivial⟩ ⟨trivial, trivial⟩ rfl) ⟨by omega, by omega⟩ (by omega)
  · rename_i h2
    have h2 := of_decide_eq_false h2
    obtain rfl : k = xs.length := by omega
    have ha := zSum_all zAnchor (Nat.le_refl xs.length)
    (conv => whnf)
    (refine RetOK.d rfl rfl ?_; conv => whnf)
    rw [szR_le (by simp only [zL]; omega)]
    congr 1 <;> ((simp only [zL]) <;> omega)
theorem szAnchorS_le (xs : List TAnchor) (left : Int) (hl : left ≤ 1048576) (h0 : 0 ≤ left) (hz : (((zL zAnchor xs) : Nat) : Int) ≤ left) : PC Try.prog 40 [.d (lstD TAnchor.D xs), .d (.int .i64 left)] (.d (.int .i64 (left - (((zL zAnchor xs) : Nat) : Int)))) [] := by
  have := szAnchorS_v xs left hl h0
  rwa [szR_le hz] at this
theorem szAnchorS_gt (xs : List TAnchor) (left : Int) (hl : left ≤ 1048576) (h0 : 0 ≤ left) (hz : left < (((zL zAnchor xs) : Nat) : Int)) : PC Try.prog 40 [.d (lstD TAnchor.D xs), .d (.int .i64 left)] (.d (.int .i64 (-1))) [] := by
  have := szAnchorS_v xs left hl h0
  rwa [szR_gt hz] at this
set_option maxHeartbeats 2000000 in
theorem szGlyph_v (x : TGlyph) (left : Int) (hl : left ≤ 1048576) (h0 : 0 ≤ left) : PC Try.prog 22 [.d x.D, .d (.int .i64 left)] (.d (.int .i64 (szR left (zGlyph x)))) [] := by
  refine pc_intro ttOk (by kernel_rfl) Try.func22 rfl (by kernel_rfl) (by kernel_rfl) (by kernel_rfl) (fun hw => ?_)
  have hm0 : x.fName.size ≤ maxLen := hw.1.1
  unfold maxLen at hm0
  have hm6 : x.fHints.size ≤ maxLen := hw.1.2.2.2.2.2.2.1
  unfold maxLen at hm6
  (conv => whnf)
  (repeat (refine stg_ ?_))
  split
  · rename_i g0
    have g0 := of_decide_eq_true g0
    (conv => whnf)
    (refine RetOK.d rfl rfl ?_; conv => whnf)
    rw [szR_gt (by simp only [zGlyph]; omega)]
  rename_i g0
  have g0 := of_decide_eq_false g0
  (conv => whnf)
  by_cases g3 : (((zOutline x.fOutline) : Nat) : Int) ≤ (left - ((x.fName.size : Nat) : Int))
  rotate_left
  · (refine cl_ (szOutline_gt x.fOutline ((left - ((x.fName.size : Nat) : Int))) (by omega) (by omega) (by omega)) ?_)
    (repeat (refine stg_ ?_))
    (refine RetOK.d rfl rfl ?_; conv => whnf)
    rw [szR_gt (by simp only [zGlyph]; omega)]
  (refine cl_ (szOutline_le x.fOutline ((left - ((x.fName.size : Nat) : Int))) (by omega) (by omega) g3) ?_)
  (repeat (refine stg_ ?_))
  split
  · rename_i q
    exact absurd (of_decide_eq_true q) (by omega)
  (conv => whnf)
  by_cases g4 : ((x.fParts.length : Nat) : Int) ≤ ((left - ((x.fName.size : Nat) : Int)) - (((zOutline x.fOutline) : Nat) : Int))
  rotate_left
  · (refine cl_ (szPartS_gt x.fParts (((left - ((x.fName.size : Nat) : Int)) - (((zOutline x.fOutline) : Nat) : Int))) (by omega) (by omega) (by omega)) ?_)
    (repeat (refine stg_ ?_))
    (refine RetOK.d rfl rfl ?_; conv => whnf)
    rw [szR_gt (by simp only [zGlyph]; omega)]
  (refine cl_ (szPartS_le x.fParts (((left - ((x.fName.size : Nat) : Int)) - (((zOutline x.fOutline) : Nat) : Int))) (by omega) (by omega) g4) ?_)
  (repeat (refine stg_ ?_))
  split
  · rename_i q
    exact absurd (of_decide_eq_true q) (by omega)
  (conv => whnf)
  by_cases g5 : (((zL zAnchor x.fAnchors) : Nat) : Int) ≤ (((left - ((x.fName.size : Nat) : Int)) - (((zOutline x.fOutline) : Nat) : Int)) - ((x.fParts.length : Nat) : Int))
  rotate_left
  · (refine cl_ (szAnchorS_gt x.fAnchors ((((left - ((x.fName.size : Nat) : Int)) - (((zOutline x.fOutline) : Nat) : Int)) - ((x.fParts.length : Nat) : Int))) (by omega) (by omega) (by omega)) ?_)
    (repeat (refine stg_ ?_))
    (refine RetOK.d rfl rfl ?_; conv => whnf)
    rw [szR_gt (by simp only [zGlyph]; omega)]
  (refine cl_ (szAnchorS_le x.fAnchors ((((left - ((x.fName.size : Nat) : Int)) - (((zOutline x.fOutline) : Nat) : Int)) - ((x.fParts.length : Nat) : Int))) (by omega) (by omega) g5) ?_)
  (repeat (refine stg_ ?_))
  split
  · rename_i q
    exact absurd (of_decide_eq_true q) (by omega)
  (conv => whnf)
  (repeat (refine stg_ ?_))
  split
  · rename_i g6
    have g6 := of_decide_eq_true g6
    (conv => whnf)
    (refine RetOK.d rfl rfl ?_; conv => whnf)
    rw [szR_gt (by simp only [zGlyph]; omega)]
  rename_i g6
  have g6 := of_decide_eq_false g6
  (conv => whnf)
  (refine RetOK.d rfl rfl ?_; conv => whnf)
  rw [szR_le (by simp only [zGlyph]; omega)]
  congr 1 <;> ((simp only [zGlyph]) <;> omega)
theorem szGlyph_le (x : TGlyph) (left : Int) (hl : left ≤ 1048576) (h0 : 0 ≤ left) (hz : (((zGlyph x) : Nat) : Int) ≤ left) : PC Try.prog 22 [.d x.D, .d (.int .i64 left)] (.d (.int .i64 (left - (((zGlyph x) : Nat) : Int)))) [] := by
  have := szGlyph_v x left hl h0
  rwa [szR_le hz] at this
theorem szGlyph_gt (x : TGlyph) (left : Int) (hl : left ≤ 1048576) (h0 : 0 ≤ left) (hz : left < (((zGlyph x) : Nat) : Int)) : PC Try.prog 22 [.d x.D, .d (.int .i64 left)] (.d (.int .i64 (-1))) [] := by
  have := szGlyph_v x left hl h0
  rwa [szR_gt hz] at this
set_option maxHeartbeats 2000000 in
theorem szGlyphS_v (xs : List TGlyph) (left : Int) (hl : left ≤ 1048576) (h0 : 0 ≤ left) : PC Try.prog 13 [.d (lstD TGlyph.D xs), .d (.int .i64 left)] (.d (.int .i64 (szR left (zL zGlyph xs)))) [] := by
  refine pc_intro ttOk (by kernel_rfl) Try.func13 rfl (by kernel_rfl) (by kernel_rfl) (by kernel_rfl) (fun hw => ?_)
  have hm : (xs.map TGlyph.D).length ≤ maxLen := hw.1.1
  have hL : (xs.map TGlyph.D).length = xs.length := by simp
  unfold maxLen at hm
  have hall := zSum_le_all zGlyph xs
  (conv => whnf)
  (repeat (refine stg_ ?_))
  split
  · rename_i h1
    have h1 := of_decide_eq_true h1
    (conv => whnf)
    (refine RetOK.d rfl rfl ?_; conv => whnf)
    rw [szR_gt (by simp only [zL]; omega)]
  rename_i h1
  have h1 := of_decide_eq_false h1
  (conv => whnf)
  refine LoopW.go (α := Nat) (fun k => [(0, .d (lstD TGlyph.D xs)), (1, .d (.int .i64 (left - (xs.map TGlyph.D).length - (zSum zGlyph xs k : Nat)))), (5, .d (.int .i64 k))]) (fun k => [.gone]) (fun k => k ≤ xs.length ∧ (((xs.map TGlyph.D).length + zSum zGlyph xs k : Nat) : Int) ≤ left) (fun k => xs.length - k) 0
    (Weak.cov ⟨rfl, by rw [zSum_zero]; show V.d (D.int .i64 _) = V.d (D.int .i64 _); congr 2; omega, rfl, trivial⟩ ⟨trivial, trivial⟩ rfl) ⟨Nat.zero_le _, by rw [zSum_zero]; omega⟩ (fun k hk => ?_)
  obtain ⟨hk, hk2⟩ := hk
  (conv => whnf)
  split
  · rename_i h2
    have h2 := of_decide_eq_true h2
    have h2 : k < xs.length := by omega
    obtain ⟨x, hx⟩ := at_lt h2
    have hs := zSum_succ zGlyph hx
    have ha := hall (k + 1)
    (conv => whnf)
    (repeat (refine stg_ ?_))
    by_cases q : (((zGlyph x) : Nat) : Int) ≤ (left - ((xs.map TGlyph.D).length : Nat) - (zSum zGlyph xs k : Nat))
    rotate_left
    · (refine cl_ (szGlyph_gt x (left - ((xs.map TGlyph.D).length : Nat) - (zSum zGlyph xs k : Nat)) (by omega) (by omega) (by omega)) ?_)
      (repeat (refine stg_ ?_))
      (refine RetOK.d rfl rfl ?_; conv => whnf)
      rw [szR_gt (by simp only [zL]; omega)]
    (refine cl_ (szGlyph_le x (left - ((xs.map TGlyph.D).length : Nat) - (zSum zGlyph xs k : Nat)) (by omega) (by omega) q) ?_)
    (repeat (refine stg_ ?_))
    split
    · rename_i q2
      exact absurd (of_decide_eq_true q2) (by omega)
    (conv => whnf)
    (repeat (refine stg_ ?_))
    refine NextW.go (k + 1) (Weak.cov ⟨rfl, by show V.d (D.int .i64 _) = V.d (D.int .i64 _); rw [hs]; congr 2; omega, rfl, trivial⟩ ⟨trivial, trivial⟩ rfl) ⟨by omega, by omega⟩ (by omega)
  · rename_i h2
    have h2 := of_decide_eq_false h2
    obtain rfl : k = xs.length := by omega
    have ha := zSum_all zGlyph (Nat.le_refl xs.length)
    (conv => whnf)
    (refine RetOK.d rfl rfl ?_; conv => whnf)
    rw [szR_le (by simp only [zL]; omega)]
    congr 1 <;> ((simp only [zL]) <;> omega)
theorem szGlyphS_le (xs : List TGlyph) (left : Int) (hl : left ≤ 1048576) (h0 : 0 ≤ left) (hz : (((zL zGlyph xs) : Nat) : Int) ≤ left) : PC Try.prog 13 [.d (lstD TGlyph.D xs), .d (.int .i64 left)] (.d (.int .i64 (left - (((zL zGlyph xs) : Nat) : Int)))) [] := by
  have := szGlyphS_v xs left hl h0
  rwa [szR_le hz] at this
theorem szGlyphS_gt (xs : List TGlyph) (left : Int) (hl : left ≤ 1048576) (h0 : 0 ≤ left) (hz : left < (((zL zGlyph xs) : Nat) : Int)) : PC Try.prog 13 [.d (lstD TGlyph.D xs), .d (.int .i64 left)] (.d (.int .i64 (-1))) [] := by
  have := szGlyphS_v xs left hl h0
  rwa [szR_gt hz] at this
set_option maxHeartbeats 2000000 in
theorem szGlyphSet_v (x : TGlyphSet) (left : Int) (hl : left ≤ 1048576) (h0 : 0 ≤ left) : PC Try.prog 4 [.d x.D, .d (.int .i64 left)] (.d (.int .i64 (szR left (zGlyphSet x)))) [] := by
  refine pc_intro ttOk (by kernel_rfl) Try.func4 rfl (by kernel_rfl) (by kernel_rfl) (by kernel_rfl) (fun hw => ?_)
  (conv => whnf)
  by_cases g1 : (((zL zGlyph x.fGlyphs) : Nat) : Int) ≤ left
  rotate_left
  · (refine cl_ (szGlyphS_gt x.fGlyphs (left) (by omega) (by omega) (by omega)) ?_)
    (repeat (refine stg_ ?_))
    (refine RetOK.d rfl rfl ?_; conv => whnf)
    rw [szR_gt (by simp only [zGlyphSet]; omega)]
  (refine cl_ (szGlyphS_le x.fGlyphs (left) (by omega) (by omega) g1) ?_)
  (repeat (refine stg_ ?_))
  split
  · rename_i q
    exact absurd (of_decide_eq_true q) (by omega)
  (conv => whnf)
  (refine RetOK.d rfl rfl ?_; conv => whnf)
  rw [szR_le (by simp only [zGlyphSet]; omega)]
  congr 1 <;> ((simp only [zGlyphSet]) <;> omega)
theorem szGlyphSet_le (x : TGlyphSet) (left : Int) (hl : left ≤ 1048576) (h0 : 0 ≤ left) (hz : (((zGlyphSet x) : Nat) : Int) ≤ left) : PC Try.prog 4 [.d x.D, .d (.int .i64 left)] (.d (.int .i64 (left - (((zGlyphSet x) : Nat) : Int)))) [] := by
  have := szGlyphSet_v x left hl h0
  rwa [szR_le hz] at this
theorem szGlyphSet_gt (x : TGlyphSet) (left : Int) (hl : left ≤ 1048576) (h0 : 0 ≤ left) (hz : left < (((zGlyphSet x) : Nat) : Int)) : PC Try.prog 4 [.d x.D, .d (.int .i64 left)] (.d (.int .i64 (-1))) [] := by
  have := szGlyphSet_v x left hl h0
  rwa [szR_gt hz] at this

set_option maxHeartbeats 2000000 in
theorem toPt_v (x : TPt) : PC Try.prog 76 [.d x.D] (.d x.D) [] := by
  refine pc_intro ttOk (by kernel_rfl) Try.func76 rfl (by kernel_rfl) (by kernel_rfl) (by kernel_rfl) (fun hw => ?_)
  (conv => whnf)
  refine RetOK.d rfl rfl ?_
  ((conv => whnf); (try (refine ⟨_, rfl, ?_⟩)); (repeat ((conv => whnf); (refine ⟨_, _, rfl, ?_, ?_⟩); (focus (first | ((conv => whnf); done) | ((conv => whnf); (refine ⟨_, rfl, ?_⟩); (repeat ((conv => whnf); (refine ⟨_, _, rfl, ?_, ?_⟩); (focus ((conv => whnf); done)))); (conv => whnf)))))); (conv => whnf))
set_option maxHeartbeats 2000000 in
theorem toKnot_v (x : TKnot) : PC Try.prog 86 [.d x.D] (.d x.D) [] := by
  refine pc_intro ttOk (by kernel_rfl) Try.func86 rfl (by kernel_rfl) (by kernel_rfl) (by kernel_rfl) (fun hw => ?_)
  (conv => whnf)
  (refine cl_ (toPt_v x.fAt) ?_)
  (repeat (refine stg_ ?_))
  refine RetOK.d rfl rfl ?_
  ((conv => whnf); (try (refine ⟨_, rfl, ?_⟩)); (repeat ((conv => whnf); (refine ⟨_, _, rfl, ?_, ?_⟩); (focus (first | ((conv => whnf); done) | ((conv => whnf); (refine ⟨_, rfl, ?_⟩); (repeat ((conv => whnf); (refine ⟨_, _, rfl, ?_, ?_⟩); (focus ((conv => whnf); done)))); (conv => whnf)))))); (conv => whnf))
set_option maxHeartbeats 2000000 in
theorem toKnotS_v (xs : List TKnot) (hz : xs.length ≤ 1048576) : PC Try.prog 83 [.d (lstD TKnot.D xs)] (.own 1 0 xs.length) [.arr 3 (xs.map TKnot.D) true] := by
  refine pc_intro ttOk (by kernel_rfl) Try.func83 rfl (by kernel_rfl) (by kernel_rfl) (by kernel_rfl) (fun hw => ?_)
  have hL : (xs.map TKnot.D).length = xs.length := by simp
  (conv => whnf)
  refine MkW.at (by omega) (by omega) (by show (24 : Int) * _ ≤ _; omega) ?_
  (conv => whnf)
  refine LoopW.go (α := Nat) (fun k => [(0, .d (lstD TKnot.D xs)), (3, .own 1 0 xs.length), (4, .d (.int .i64 k))]) (fun k => [.gone, .arr 3 (fillL TKnot.D (.st [(.st [(.int .i64 0), (.int .i64 0)]), (.bool false)]) xs k) true]) (fun k => k ≤ xs.length) (fun k => xs.length - k) 0
    (Weak.cov ⟨rfl, by rw [← hL]; rfl, rfl, trivial⟩ ⟨trivial, by rw [fillL_zero, ← hL]; rfl, trivial⟩ rfl) (Nat.zero_le _) (fun k hk => ?_)
  (conv => whnf)
  split
  · rename_i h1
    have h1 := of_decide_eq_true h1
    have h1 : k < xs.length := by omega
    obtain ⟨x, hx⟩ := at_lt h1
    have he := fillL_get TKnot.D (.st [(.st [(.int .i64 0), (.int .i64 0)]), (.bool false)]) xs h1
    have hfl := fillL_len TKnot.D (.st [(.st [(.int .i64 0), (.int .i64 0)]), (.bool false)]) xs k (by omega)
    (conv => whnf)
    (repeat (refine stg_ ?_))
    (refine cl_ (toKnot_v x) ?_)
    (repeat (refine stg_ ?_))
    refine NextW.go (k + 1) (Weak.cov ⟨rfl, rfl, rfl, trivial⟩ ⟨trivial, by rw [← fillL_set _ _ _ hx]; rfl, trivial⟩ rfl) (by omega) (by omega)
  · rename_i h1
    have h1 := of_decide_eq_false h1
    obtain rfl : k = xs.length := by omega
    (conv => whnf)
    refine ⟨⟨[some 1], ⟨by decide, by rw [fillL_all]; rfl, trivial, trivial⟩, by decide, rfl, ?_⟩⟩
    (conv => whnf)
    exact ⟨by decide, rfl⟩
set_option maxHeartbeats 2000000 in
theorem toLoop_v (x : TLoop) (hz : zLoop x ≤ 1048576) : PC Try.prog 75 [.d x.D] x.V x.bs := by
  simp only [zLoop] at hz
  refine pc_intro ttOk (by kernel_rfl) Try.func75 rfl (by kernel_rfl) (by kernel_rfl) (by kernel_rfl) (fun hw => ?_)
  (conv => whnf)
  (refine cl_ (toKnotS_v x.fKnots (by omega)) ?_)
  (repeat (refine stg_ ?_))
  refine ⟨⟨[some 4], ⟨by decide, rfl, trivial, trivial⟩, by decide, rfl, ?_⟩⟩
  ((conv => whnf); (refine ⟨_, rfl, ?_⟩); (repeat ((conv => whnf); (refine ⟨_, _, rfl, ?_, ?_⟩); (focus ((conv => whnf); first | exact ⟨rfl, rfl⟩ | exact ⟨by decide, rfl⟩ | ((refine ⟨_, rfl, ?_⟩); (repeat ((conv => whnf); (refine ⟨_, _, rfl, ?_, ?_⟩); (focus ((conv => whnf); first | exact ⟨rfl, rfl⟩ | exact ⟨by decide, rfl⟩)))); (conv => whnf); (first | done | rfl)))))); (conv => whnf))
set_option maxHeartbeats 2000000 in
theorem toLoopS_v (xs : List TLoop) (hz : (zL zLoop xs) ≤ 1048576) : PC Try.prog 61 [.d (lstD TLoop.D xs)] (.own 1 0 xs.length) [.arr 1 (xs.map TLoop.D) true] := by
  simp only [zL] at hz
  have hall := fun x hx => sum_mem zLoop (xs := xs) (x := x) hx
  refine pc_intro ttOk (by kernel_rfl) Try.func61 rfl (by kernel_rfl) (by kernel_rfl) (by kernel_rfl) (fun hw => ?_)
  have hL : (xs.map TLoop.D).length = xs.length := by simp
  (conv => whnf)
  refine MkW.at (by omega) (by omega) (by show (24 : Int) * _ ≤ _; omega) ?_
  (conv => whnf)
  refine LoopW.go (α := Nat) (fun k => [(0, .d (lstD TLoop.D xs)), (3, .own 1 0 xs.length), (4, .d (.int .i64 k))]) (fun k => [.gone, .arr 1 (fillL TLoop.D (.st [(.lst [])]) xs k) true]) (fun k => k ≤ xs.length) (fun k => xs.length - k) 0
    (Weak.cov ⟨rfl, by rw [← hL]; rfl, rfl, trivial⟩ ⟨trivial, by rw [fillL_zero, ← hL]; rfl, trivial⟩ rfl) (Nat.zero_le _) (fun k hk => ?_)
  (conv => whnf)
  split
  · rename_i h1
    have h1 := of_decide_eq_true h1
    have h1 : k < xs.length := by omega
    obtain ⟨x, hx⟩ := at_lt h1
    have he := fillL_get TLoop.D (.st [(.lst [])]) xs h1
    have hfl := fillL_len TLoop.D (.st [(.lst [])]) xs k (by omega)
    have ha := hall x (List.mem_of_getElem? hx)
    (conv => whnf)
    (repeat (refine stg_ ?_))
    (refine cl_ (toLoop_v x (by omega)) ?_)
    (repeat (refine stg_ ?_))
    refine NextW.go (k + 1) (Weak.cov ⟨rfl, rfl, rfl, trivial⟩ ⟨trivial, by rw [← fillL_set _ _ _ hx]; rfl, trivial⟩ rfl) (by omega) (by omega)
  · rename_i h1
    have h1 := of_decide_eq_false h1
    obtain rfl : k = xs.length := by omega
    (conv => whnf)
    refine ⟨⟨[some 1], ⟨by decide, by rw [fillL_all]; rfl, trivial, trivial⟩, by decide, rfl, ?_⟩⟩
    (conv => whnf)
    exact ⟨by decide, rfl⟩
set_option maxHeartbeats 2000000 in
theorem toOutline_v (x : TOutline) (hz : zOutline x ≤ 1048576) : PC Try.prog 45 [.d x.D] x.V x.bs := by
  simp only [zOutline] at hz
  refine pc_intro ttOk (by kernel_rfl) Try.func45 rfl (by kernel_rfl) (by kernel_rfl) (by kernel_rfl) (fun hw => ?_)
  (conv => whnf)
  (refine cl_ (toLoopS_v x.fLoops (by simp only [zL] at hz ⊢; omega)) ?_)
  (repeat (refine stg_ ?_))
  refine ⟨⟨[some 4], ⟨by decide, rfl, trivial, trivial⟩, by decide, rfl, ?_⟩⟩
  ((conv => whnf); (refine ⟨_, rfl, ?_⟩); (repeat ((conv => whnf); (refine ⟨_, _, rfl, ?_, ?_⟩); (focus ((conv => whnf); first | exact ⟨rfl, rfl⟩ | exact ⟨by decide, rfl⟩ | ((refine ⟨_, rfl, ?_⟩); (repeat ((conv => whnf); (refine ⟨_, _, rfl, ?_, ?_⟩); (focus ((conv => whnf); first | exact ⟨rfl, rfl⟩ | exact ⟨by decide, rfl⟩)))); (conv => whnf); (first | done | rfl)))))); (conv => whnf))
set_option maxHeartbeats 2000000 in
theorem toPart_v (x : TPart) : PC Try.prog 62 [.d x.D] (.d x.D) [] := by
  refine pc_intro ttOk (by kernel_rfl) Try.func62 rfl (by kernel_rfl) (by kernel_rfl) (by kernel_rfl) (fun hw => ?_)
  (conv => whnf)
  (refine cl_ (toPt_v x.fMove) ?_)
  (repeat (refine stg_ ?_))
  refine RetOK.d rfl rfl ?_
  ((conv => whnf); (try (refine ⟨_, rfl, ?_⟩)); (repeat ((conv => whnf); (refine ⟨_, _, rfl, ?_, ?_⟩); (focus (first | ((conv => whnf); done) | ((conv => whnf); (refine ⟨_, rfl, ?_⟩); (repeat ((conv => whnf); (refine ⟨_, _, rfl, ?_, ?_⟩); (focus ((conv => whnf); done)))); (conv => whnf)))))); (conv => whnf))
set_option maxHeartbeats 2000000 in
theorem toPartS_v (xs : List TPart) (hz : xs.length ≤ 1048576) : PC Try.prog 46 [.d (lstD TPart.D xs)] (.own 1 0 xs.length) [.arr 3 (xs.map TPart.D) true] := by
  refine pc_intro ttOk (by kernel_rfl) Try.func46 rfl (by kernel_rfl) (by kernel_rfl) (by kernel_rfl) (fun hw => ?_)
  have hL : (xs.map TPart.D).length = xs.length := by simp
  (conv => whnf)
  refine MkW.at (by omega) (by omega) (by show (24 : Int) * _ ≤ _; omega) ?_
  (conv => whnf)
  refine LoopW.go (α := Nat) (fun k => [(0, .d (lstD TPart.D xs)), (3, .own 1 0 xs.length), (4, .d (.int .i64 k))]) (fun k => [.gone, .arr 3 (fillL TPart.D (.st [(.int .i64 0), (.st [(.int .i64 0), (.int .i64 0)])]) xs k) true]) (fun k => k ≤ xs.length) (fun k => xs.length - k) 0
    (Weak.cov ⟨rfl, by rw [← hL]; rfl, rfl, trivial⟩ ⟨trivial, by rw [fillL_zero, ← hL]; rfl, trivial⟩ rfl) (Nat.zero_le _) (fun k hk => ?_)
  (conv => whnf)
  split
  · rename_i h1
    have h1 := of_decide_eq_true h1
    have h1 : k < xs.length := by omega
    obtain ⟨x, hx⟩ := at_lt h1
    have he := fillL_get TPart.D (.st [(.int .i64 0), (.st [(.int .i64 0), (.int .i64 0)])]) xs h1
    have hfl := fillL_len TPart.D (.st [(.int .i64 0), (.st [(.int .i64 0), (.int .i64 0)])]) xs k (by omega)
    (conv => whnf)
    (repeat (refine stg_ ?_))
    (refine cl_ (toPart_v x) ?_)
    (repeat (refine stg_ ?_))
    refine NextW.go (k + 1) (Weak.cov ⟨rfl, rfl, rfl, trivial⟩ ⟨trivial, by rw [← fillL_set _ _ _ hx]; rfl, trivial⟩ rfl) (by omega) (by omega)
  · rename_i h1
    have h1 := of_decide_eq_false h1
    obtain rfl : k = xs.length := by omega
    (conv => whnf)
    refine ⟨⟨[some 1], ⟨by decide, by rw [fillL_all]; rfl, trivial, trivial⟩, by decide, rfl, ?_⟩⟩
    (conv => whnf)
    exact ⟨by decide, rfl⟩
set_option maxHeartbeats 2000000 in
theorem toAnchor_v (x : TAnchor) : PC Try.prog 63 [.d x.D] (.d x.D) [] := by
  refine pc_intro ttOk (by kernel_rfl) Try.func63 rfl (by kernel_rfl) (by kernel_rfl) (by kernel_rfl) (fun hw => ?_)
  (conv => whnf)
  (refine cl_ (toPt_v x.fAt) ?_)
  (repeat (refine stg_ ?_))
  refine RetOK.d rfl rfl ?_
  ((conv => whnf); (try (refine ⟨_, rfl, ?_⟩)); (repeat ((conv => whnf); (refine ⟨_, _, rfl, ?_, ?_⟩); (focus (first | ((conv => whnf); done) | ((conv => whnf); (refine ⟨_, rfl, ?_⟩); (repeat ((conv => whnf); (refine ⟨_, _, rfl, ?_, ?_⟩); (focus ((conv => whnf); done)))); (conv => whnf)))))); (conv => whnf))
set_option maxHeartbeats 2000000 in
theorem toAnchorS_v (xs : List TAnchor) (hz : (zL zAnchor xs) ≤ 1048576) : PC Try.prog 47 [.d (lstD TAnchor.D xs)] (.own 1 0 xs.length) [.arr 3 (xs.map TAnchor.D) true] := by
  simp only [zL] at hz
  have hall := fun x hx => sum_mem zAnchor (xs := xs) (x := x) hx
  refine pc_intro ttOk (by kernel_rfl) Try.func47 rfl (by kernel_rfl) (by kernel_rfl) (by kernel_rfl) (fun hw => ?_)
  have hL : (xs.map TAnchor.D).length = xs.length := by simp
  (conv => whnf)
  refine MkW.at (by omega) (by omega) (by show (32 : Int) * _ ≤ _; omega) ?_
  (conv => whnf)
  refine LoopW.go (α := Nat) (fun k => [(0, .d (lstD TAnchor.D xs)), (3, .own 1 0 xs.length), (4, .d (.int .i64 k))]) (fun k => [.gone, .arr 3 (fillL TAnchor.D (.st [(.str .empty), (.st [(.int .i64 0), (.int .i64 0)])]) xs k) true]) (fun k => k ≤ xs.length) (fun k => xs.length - k) 0
    (Weak.cov ⟨rfl, by rw [← hL]; rfl, rfl, trivial⟩ ⟨trivial, by rw [fillL_zero, ← hL]; rfl, trivial⟩ rfl) (Nat.zero_le _) (fun k hk => ?_)
  (conv => whnf)
  split
  · rename_i h1
    have h1 := of_decide_eq_true h1
    have h1 : k < xs.length := by omega
    obtain ⟨x, hx⟩ := at_lt h1
    have he := fillL_get TAnchor.D (.st [(.str .empty), (.st [(.int .i64 0), (.int .i64 0)])]) xs h1
    have hfl := fillL_len TAnchor.D (.st [(.str .empty), (.st [(.int .i64 0), (.int .i64 0)])]) xs k (by omega)
    have ha := hall x (List.mem_of_getElem? hx)
    (conv => whnf)
    (repeat (refine stg_ ?_))
    (refine cl_ (toAnchor_v x) ?_)
    (repeat (refine stg_ ?_))
    refine NextW.go (k + 1) (Weak.cov ⟨rfl, rfl, rfl, trivial⟩ ⟨trivial, by rw [← fillL_set _ _ _ hx]; rfl, trivial⟩ rfl) (by omega) (by omega)
  · rename_i h1
    have h1 := of_decide_eq_false h1
    obtain rfl : k = xs.length := by omega
    (conv => whnf)
    refine ⟨⟨[some 1], ⟨by decide, by rw [fillL_all]; rfl, trivial, trivial⟩, by decide, rfl, ?_⟩⟩
    (conv => whnf)
    exact ⟨by decide, rfl⟩
set_option maxHeartbeats 2000000 in
theorem toGlyph_v (x : TGlyph) (hz : zGlyph x ≤ 1048576) : PC Try.prog 28 [.d x.D] x.V x.bs := by
  simp only [zGlyph] at hz
  refine pc_intro ttOk (by kernel_rfl) Try.func28 rfl (by kernel_rfl) (by kernel_rfl) (by kernel_rfl) (fun hw => ?_)
  (conv => whnf)
  (refine cl_ (toOutline_v x.fOutline (by omega)) ?_)
  (repeat (refine stg_ ?_))
  (refine cl_ (toPartS_v x.fParts (by omega)) ?_)
  (repeat (refine stg_ ?_))
  (refine cl_ (toAnchorS_v x.fAnchors (by simp only [zL] at hz ⊢; omega)) ?_)
  (repeat (refine stg_ ?_))
  refine ⟨⟨[some 4, some 5, some 6], ⟨by decide, rfl, trivial, by decide, rfl, trivial, by decide, rfl, trivial, trivial⟩, by decide, rfl, ?_⟩⟩
  ((conv => whnf); (refine ⟨_, rfl, ?_⟩); (repeat ((conv => whnf); (refine ⟨_, _, rfl, ?_, ?_⟩); (focus ((conv => whnf); first | exact ⟨rfl, rfl⟩ | exact ⟨by decide, rfl⟩ | ((refine ⟨_, rfl, ?_⟩); (repeat ((conv => whnf); (refine ⟨_, _, rfl, ?_, ?_⟩); (focus ((conv => whnf); first | exact ⟨rfl, rfl⟩ | exact ⟨by decide, rfl⟩)))); (conv => whnf); (first | done | rfl)))))); (conv => whnf))
set_option maxHeartbeats 2000000 in
theorem toGlyphS_v (xs : List TGlyph) (hz : (zL zGlyph xs) ≤ 1048576) : PC Try.prog 16 [.d (lstD TGlyph.D xs)] (.own 1 0 xs.length) [.arr 7 (xs.map TGlyph.D) true] := by
  simp only [zL] at hz
  have hall := fun x hx => sum_mem zGlyph (xs := xs) (x := x) hx
  refine pc_intro ttOk (by kernel_rfl) Try.func16 rfl (by kernel_rfl) (by kernel_rfl) (by kernel_rfl) (fun hw => ?_)
  have hL : (xs.map TGlyph.D).length = xs.length := by simp
  (conv => whnf)
  refine MkW.at (by omega) (by omega) (by show (120 : Int) * _ ≤ _; omega) ?_
  (conv => whnf)
  refine LoopW.go (α := Nat) (fun k => [(0, .d (lstD TGlyph.D xs)), (3, .own 1 0 xs.length), (4, .d (.int .i64 k))]) (fun k => [.gone, .arr 7 (fillL TGlyph.D (.st [(.str .empty), (.int .i64 0), (.int .i64 0), (.st [(.lst [])]), (.lst []), (.lst []), (.str .empty)]) xs k) true]) (fun k => k ≤ xs.length) (fun k => xs.length - k) 0
    (Weak.cov ⟨rfl, by rw [← hL]; rfl, rfl, trivial⟩ ⟨trivial, by rw [fillL_zero, ← hL]; rfl, trivial⟩ rfl) (Nat.zero_le _) (fun k hk => ?_)
  (conv => whnf)
  split
  · rename_i h1
    have h1 := of_decide_eq_true h1
    have h1 : k < xs.length := by omega
    obtain ⟨x, hx⟩ := at_lt h1
    have he := fillL_get TGlyph.D (.st [(.str .empty), (.int .i64 0), (.int .i64 0), (.st [(.lst [])]), (.lst []), (.lst []), (.str .empty)]) xs h1
    have hfl := fillL_len TGlyph.D (.st [(.str .empty), (.int .i64 0), (.int .i64 0), (.st [(.lst [])]), (.lst []), (.lst []), (.str .empty)]) xs k (by omega)
    have ha := hall x (List.mem_of_getElem? hx)
    (conv => whnf)
    (repeat (refine stg_ ?_))
    (refine cl_ (toGlyph_v x (by omega)) ?_)
    (repeat (refine stg_ ?_))
    refine NextW.go (k + 1) (Weak.cov ⟨rfl, rfl, rfl, trivial⟩ ⟨trivial, by rw [← fillL_set _ _ _ hx]; rfl, trivial⟩ rfl) (by omega) (by omega)
  · rename_i h1
    have h1 := of_decide_eq_false h1
    obtain rfl : k = xs.length := by omega
    (conv => whnf)
    refine ⟨⟨[some 1], ⟨by decide, by rw [fillL_all]; rfl, trivial, trivial⟩, by decide, rfl, ?_⟩⟩
    (conv => whnf)
    exact ⟨by decide, rfl⟩
set_option maxHeartbeats 2000000 in
theorem toGlyphSet_v (x : TGlyphSet) (hz : zGlyphSet x ≤ 1048576) : PC Try.prog 6 [.d x.D] x.V x.bs := by
  simp only [zGlyphSet] at hz
  refine pc_intro ttOk (by kernel_rfl) Try.func6 rfl (by kernel_rfl) (by kernel_rfl) (by kernel_rfl) (fun hw => ?_)
  (conv => whnf)
  (refine cl_ (toGlyphS_v x.fGlyphs (by simp only [zL] at hz ⊢; omega)) ?_)
  (repeat (refine stg_ ?_))
  refine ⟨⟨[some 4], ⟨by decide, rfl, trivial, trivial⟩, by decide, rfl, ?_⟩⟩
  ((conv => whnf); (refine ⟨_, rfl, ?_⟩); (repeat ((conv => whnf); (refine ⟨_, _, rfl, ?_, ?_⟩); (focus ((conv => whnf); first | exact ⟨rfl, rfl⟩ | exact ⟨by decide, rfl⟩ | ((refine ⟨_, rfl, ?_⟩); (repeat ((conv => whnf); (refine ⟨_, _, rfl, ?_, ?_⟩); (focus ((conv => whnf); first | exact ⟨rfl, rfl⟩ | exact ⟨by decide, rfl⟩)))); (conv => whnf); (first | done | rfl)))))); (conv => whnf))

set_option maxHeartbeats 2000000 in
theorem eqPt_v (x : TPt) : PC Try.prog 81 [.d x.D, .d x.D] (.d (.bool true)) [] := by
  refine pc_intro ttOk (by kernel_rfl) Try.func81 rfl (by kernel_rfl) (by kernel_rfl) (by kernel_rfl) (fun hw => ?_)
  (conv => whnf)
  (repeat (refine stg_ ?_))
  split
  · rename_i q
    simp at q
  (conv => whnf)
  (repeat (refine stg_ ?_))
  split
  · rename_i q
    simp at q
  (conv => whnf)
  (repeat (refine stg_ ?_))
  (refine RetOK.d rfl rfl ?_; conv => whnf)
set_option maxHeartbeats 2000000 in
theorem eqItem_v (x : TItem) : PC Try.prog 19 [.d x.D, .d x.D] (.d (.bool true)) [] := by
  refine pc_intro ttOk (by kernel_rfl) Try.func19 rfl (by kernel_rfl) (by kernel_rfl) (by kernel_rfl) (fun hw => ?_)
  (conv => whnf)
  (repeat (refine stg_ ?_))
  split
  · rename_i q
    simp at q
  (conv => whnf)
  (repeat (refine stg_ ?_))
  split
  · rename_i q
    simp at q
  (conv => whnf)
  (repeat (refine stg_ ?_))
  split
  · rename_i q
    simp at q
  (conv => whnf)
  (repeat (refine stg_ ?_))
  (refine RetOK.d rfl rfl ?_; conv => whnf)
set_option maxHeartbeats 2000000 in
theorem eqItemS_v (xs : List TItem) : PC Try.prog 8 [.d (lstD TItem.D xs), .d (lstD TItem.D xs)] (.d (.bool true)) [] := by
  refine pc_intro ttOk (by kernel_rfl) Try.func8 rfl (by kernel_rfl) (by kernel_rfl) (by kernel_rfl) (fun hw => ?_)
  have hm : (xs.map TItem.D).length ≤ maxLen := hw.1.1
  have hL : (xs.map TItem.D).length = xs.length := by simp
  unfold maxLen at hm
  (conv => whnf)
  split
  · rename_i h
    simp at h
  (conv => whnf)
  refine LoopW.go (α := Nat) (fun k => [(0, .d (lstD TItem.D xs)), (1, .d (lstD TItem.D xs)), (5, .d (.int .i64 k))]) (fun k => [.gone]) (fun k => k ≤ xs.length) (fun k => xs.length - k) 0
    (Weak.cov ⟨rfl, rfl, rfl, trivial⟩ ⟨trivial, trivial⟩ rfl) (Nat.zero_le _) (fun k hk => ?_)
  (conv => whnf)
  split
  · rename_i h1
    have h1 := of_decide_eq_true h1
    have h1 : k < xs.length := by omega
    obtain ⟨x, hx⟩ := at_lt h1
    (conv => whnf)
    (repeat (refine stg_ ?_))
    (refine cl_ (eqItem_v x) ?_)
    (repeat (refine stg_ ?_))
    refine NextW.go (k + 1) (Weak.cov ⟨rfl, rfl, rfl, trivial⟩ ⟨trivial, trivial⟩ rfl) (by omega) (by omega)
  · (conv => whnf)
    (refine RetOK.d rfl rfl ?_; conv => whnf)
set_option maxHeartbeats 2000000 in
theorem eqKnot_v (x : TKnot) : PC Try.prog 87 [.d x.D, .d x.D] (.d (.bool true)) [] := by
  refine pc_intro ttOk (by kernel_rfl) Try.func87 rfl (by kernel_rfl) (by kernel_rfl) (by kernel_rfl) (fun hw => ?_)
  (conv => whnf)
  (repeat (refine stg_ ?_))
  (refine cl_ (eqPt_v x.fAt) ?_)
  (repeat (refine stg_ ?_))
  (repeat (refine stg_ ?_))
  split
  · rename_i q
    simp at q
  (conv => whnf)
  (repeat (refine stg_ ?_))
  (refine RetOK.d rfl rfl ?_; conv => whnf)
set_option maxHeartbeats 2000000 in
theorem eqKnotS_v (xs : List TKnot) : PC Try.prog 85 [.d (lstD TKnot.D xs), .d (lstD TKnot.D xs)] (.d (.bool true)) [] := by
  refine pc_intro ttOk (by kernel_rfl) Try.func85 rfl (by kernel_rfl) (by kernel_rfl) (by kernel_rfl) (fun hw => ?_)
  have hm : (xs.map TKnot.D).length ≤ maxLen := hw.1.1
  have hL : (xs.map TKnot.D).length = xs.length := by simp
  unfold maxLen at hm
  (conv => whnf)
  split
  · rename_i h
    simp at h
  (conv => whnf)
  refine LoopW.go (α := Nat) (fun k => [(0, .d (lstD TKnot.D xs)), (1, .d (lstD TKnot.D xs)), (5, .d (.int .i64 k))]) (fun k => [.gone]) (fun k => k ≤ xs.length) (fun k => xs.length - k) 0
    (Weak.cov ⟨rfl, rfl, rfl, trivial⟩ ⟨trivial, trivial⟩ rfl) (Nat.zero_le _) (fun k hk => ?_)
  (conv => whnf)
  split
  · rename_i h1
    have h1 := of_decide_eq_true h1
    have h1 : k < xs.length := by omega
    obtain ⟨x, hx⟩ := at_lt h1
    (conv => whnf)
    (repeat (refine stg_ ?_))
    (refine cl_ (eqKnot_v x) ?_)
    (repeat (refine stg_ ?_))
    refine NextW.go (k + 1) (Weak.cov ⟨rfl, rfl, rfl, trivial⟩ ⟨trivial, trivial⟩ rfl) (by omega) (by omega)
  · (conv => whnf)
    (refine RetOK.d rfl rfl ?_; conv => whnf)
set_option maxHeartbeats 2000000 in
theorem eqLoop_v (x : TLoop) : PC Try.prog 80 [.d x.D, .d x.D] (.d (.bool true)) [] := by
  refine pc_intro ttOk (by kernel_rfl) Try.func80 rfl (by kernel_rfl) (by kernel_rfl) (by kernel_rfl) (fun hw => ?_)
  (conv => whnf)
  (repeat (refine stg_ ?_))
  (refine cl_ (eqKnotS_v x.fKnots) ?_)
  (repeat (refine stg_ ?_))
  (repeat (refine stg_ ?_))
  (refine RetOK.d rfl rfl ?_; conv => whnf)
set_option maxHeartbeats 2000000 in
theorem eqLoopS_v (xs : List TLoop) : PC Try.prog 71 [.d (lstD TLoop.D xs), .d (lstD TLoop.D xs)] (.d (.bool true)) [] := by
  refine pc_intro ttOk (by kernel_rfl) Try.func71 rfl (by kernel_rfl) (by kernel_rfl) (by kernel_rfl) (fun hw => ?_)
  have hm : (xs.map TLoop.D).length ≤ maxLen := hw.1.1
  have hL : (xs.map TLoop.D).length = xs.length := by simp
  unfold maxLen at hm
  (conv => whnf)
  split
  · rename_i h
    simp at h
  (conv => whnf)
  refine LoopW.go (α := Nat) (fun k => [(0, .d (lstD TLoop.D xs)), (1, .d (lstD TLoop.D xs)), (5, .d (.int .i64 k))]) (fun k => [.gone]) (fun k => k ≤ xs.length) (fun k => xs.length - k) 0
    (Weak.cov ⟨rfl, rfl, rfl, trivial⟩ ⟨trivial, trivial⟩ rfl) (Nat.zero_le _) (fun k hk => ?_)
  (conv => whnf)
  split
  · rename_i h1
    have h1 := of_decide_eq_true h1
    have h1 : k < xs.length := by omega
    obtain ⟨x, hx⟩ := at_lt h1
    (conv => whnf)
    (repeat (refine stg_ ?_))
    (refine cl_ (eqLoop_v x) ?_)
    (repeat (refine stg_ ?_))
    refine NextW.go (k + 1) (Weak.cov ⟨rfl, rfl, rfl, trivial⟩ ⟨trivial, trivial⟩ rfl) (by omega) (by omega)
  · (conv => whnf)
    (refine RetOK.d rfl rfl ?_; conv => whnf)
set_option maxHeartbeats 2000000 in
theorem eqOutline_v (x : TOutline) : PC Try.prog 52 [.d x.D, .d x.D] (.d (.bool true)) [] := by
  refine pc_intro ttOk (by kernel_rfl) Try.func52 rfl (by kernel_rfl) (by kernel_rfl) (by kernel_rfl) (fun hw => ?_)
  (conv => whnf)
  (repeat (refine stg_ ?_))
  (refine cl_ (eqLoopS_v x.fLoops) ?_)
  (repeat (refine stg_ ?_))
  (repeat (refine stg_ ?_))
  (refine RetOK.d rfl rfl ?_; conv => whnf)
set_option maxHeartbeats 2000000 in
theorem eqPart_v (x : TPart) : PC Try.prog 72 [.d x.D, .d x.D] (.d (.bool true)) [] := by
  refine pc_intro ttOk (by kernel_rfl) Try.func72 rfl (by kernel_rfl) (by kernel_rfl) (by kernel_rfl) (fun hw => ?_)
  (conv => whnf)
  (repeat (refine stg_ ?_))
  split
  · rename_i q
    simp at q
  (conv => whnf)
  (repeat (refine stg_ ?_))
  (refine cl_ (eqPt_v x.fMove) ?_)
  (repeat (refine stg_ ?_))
  (repeat (refine stg_ ?_))
  (refine RetOK.d rfl rfl ?_; conv => whnf)
set_option maxHeartbeats 2000000 in
theorem eqPartS_v (xs : List TPart) : PC Try.prog 53 [.d (lstD TPart.D xs), .d (lstD TPart.D xs)] (.d (.bool true)) [] := by
  refine pc_intro ttOk (by kernel_rfl) Try.func53 rfl (by kernel_rfl) (by kernel_rfl) (by kernel_rfl) (fun hw => ?_)
  have hm : (xs.map TPart.D).length ≤ maxLen := hw.1.1
  have hL : (xs.map TPart.D).length = xs.length := by simp
  unfold maxLen at hm
  (conv => whnf)
  split
  · rename_i h
    simp at h
  (conv => whnf)
  refine LoopW.go (α := Nat) (fun k => [(0, .d (lstD TPart.D xs)), (1, .d (lstD TPart.D xs)), (5, .d (.int .i64 k))]) (fun k => [.gone]) (fun k => k ≤ xs.length) (fun k => xs.length - k) 0
    (Weak.cov ⟨rfl, rfl, rfl, trivial⟩ ⟨trivial, trivial⟩ rfl) (Nat.zero_le _) (fun k hk => ?_)
  (conv => whnf)
  split
  · rename_i h1
    have h1 := of_decide_eq_true h1
    have h1 : k < xs.length := by omega
    obtain ⟨x, hx⟩ := at_lt h1
    (conv => whnf)
    (repeat (refine stg_ ?_))
    (refine cl_ (eqPart_v x) ?_)
    (repeat (refine stg_ ?_))
    refine NextW.go (k + 1) (Weak.cov ⟨rfl, rfl, rfl, trivial⟩ ⟨trivial, trivial⟩ rfl) (by omega) (by omega)
  · (conv => whnf)
    (refine RetOK.d rfl rfl ?_; conv => whnf)
set_option maxHeartbeats 2000000 in
theorem eqAnchor_v (x : TAnchor) : PC Try.prog 73 [.d x.D, .d x.D] (.d (.bool true)) [] := by
  refine pc_intro ttOk (by kernel_rfl) Try.func73 rfl (by kernel_rfl) (by kernel_rfl) (by kernel_rfl) (fun hw => ?_)
  (conv => whnf)
  (repeat (refine stg_ ?_))
  split
  · rename_i q
    simp at q
  (conv => whnf)
  (repeat (refine stg_ ?_))
  (refine cl_ (eqPt_v x.fAt) ?_)
  (repeat (refine stg_ ?_))
  (repeat (refine stg_ ?_))
  (refine RetOK.d rfl rfl ?_; conv => whnf)
set_option maxHeartbeats 2000000 in
theorem eqAnchorS_v (xs : List TAnchor) : PC Try.prog 54 [.d (lstD TAnchor.D xs), .d (lstD TAnchor.D xs)] (.d (.bool true)) [] := by
  refine pc_intro ttOk (by kernel_rfl) Try.func54 rfl (by kernel_rfl) (by kernel_rfl) (by kernel_rfl) (fun hw => ?_)
  have hm : (xs.map TAnchor.D).length ≤ maxLen := hw.1.1
  have hL : (xs.map TAnchor.D).length = xs.length := by simp
  unfold maxLen at hm
  (conv => whnf)
  split
  · rename_i h
    simp at h
  (conv => whnf)
  refine LoopW.go (α := Nat) (fun k => [(0, .d (lstD TAnchor.D xs)), (1, .d (lstD TAnchor.D xs)), (5, .d (.int .i64 k))]) (fun k => [.gone]) (fun k => k ≤ xs.length) (fun k => xs.length - k) 0
    (Weak.cov ⟨rfl, rfl, rfl, trivial⟩ ⟨trivial, trivial⟩ rfl) (Nat.zero_le _) (fun k hk => ?_)
  (conv => whnf)
  split
  · rename_i h1
    have h1 := of_decide_eq_true h1
    have h1 : k < xs.length := by omega
    obtain ⟨x, hx⟩ := at_lt h1
    (conv => whnf)
    (repeat (refine stg_ ?_))
    (refine cl_ (eqAnchor_v x) ?_)
    (repeat (refine stg_ ?_))
    refine NextW.go (k + 1) (Weak.cov ⟨rfl, rfl, rfl, trivial⟩ ⟨trivial, trivial⟩ rfl) (by omega) (by omega)
  · (conv => whnf)
    (refine RetOK.d rfl rfl ?_; conv => whnf)
set_option maxHeartbeats 2000000 in
theorem eqGlyph_v (x : TGlyph) : PC Try.prog 33 [.d x.D, .d x.D] (.d (.bool true)) [] := by
  refine pc_intro ttOk (by kernel_rfl) Try.func33 rfl (by kernel_rfl) (by kernel_rfl) (by kernel_rfl) (fun hw => ?_)
  (conv => whnf)
  (repeat (refine stg_ ?_))
  split
  · rename_i q
    simp at q
  (conv => whnf)
  (repeat (refine stg_ ?_))
  split
  · rename_i q
    simp at q
  (conv => whnf)
  (repeat (refine stg_ ?_))
  split
  · rename_i q
    simp at q
  (conv => whnf)
  (repeat (refine stg_ ?_))
  (refine cl_ (eqOutline_v x.fOutline) ?_)
  (repeat (refine stg_ ?_))
  (repeat (refine stg_ ?_))
  (refine cl_ (eqPartS_v x.fParts) ?_)
  (repeat (refine stg_ ?_))
  (repeat (refine stg_ ?_))
  (refine cl_ (eqAnchorS_v x.fAnchors) ?_)
  (repeat (refine stg_ ?_))
  (repeat (refine stg_ ?_))
  split
  · rename_i q
    simp at q
  (conv => whnf)
  (repeat (refine stg_ ?_))
  (refine RetOK.d rfl rfl ?_; conv => whnf)
set_option maxHeartbeats 2000000 in
theorem eqGlyphS_v (xs : List TGlyph) : PC Try.prog 20 [.d (lstD TGlyph.D xs), .d (lstD TGlyph.D xs)] (.d (.bool true)) [] := by
  refine pc_intro ttOk (by kernel_rfl) Try.func20 rfl (by kernel_rfl) (by kernel_rfl) (by kernel_rfl) (fun hw => ?_)
  have hm : (xs.map TGlyph.D).length ≤ maxLen := hw.1.1
  have hL : (xs.map TGlyph.D).length = xs.length := by simp
  unfold maxLen at hm
  (conv => whnf)
  split
  · rename_i h
    simp at h
  (conv => whnf)
  refine LoopW.go (α := Nat) (fun k => [(0, .d (lstD TGlyph.D xs)), (1, .d (lstD TGlyph.D xs)), (5, .d (.int .i64 k))]) (fun k => [.gone]) (fun k => k ≤ xs.length) (fun k => xs.length - k) 0
    (Weak.cov ⟨rfl, rfl, rfl, trivial⟩ ⟨trivial, trivial⟩ rfl) (Nat.zero_le _) (fun k hk => ?_)
  (conv => whnf)
  split
  · rename_i h1
    have h1 := of_decide_eq_true h1
    have h1 : k < xs.length := by omega
    obtain ⟨x, hx⟩ := at_lt h1
    (conv => whnf)
    (repeat (refine stg_ ?_))
    (refine cl_ (eqGlyph_v x) ?_)
    (repeat (refine stg_ ?_))
    refine NextW.go (k + 1) (Weak.cov ⟨rfl, rfl, rfl, trivial⟩ ⟨trivial, trivial⟩ rfl) (by omega) (by omega)
  · (conv => whnf)
    (refine RetOK.d rfl rfl ?_; conv => whnf)
set_option maxHeartbeats 2000000 in
theorem eqGlyphSet_v (x : TGlyphSet) : PC Try.prog 9 [.d x.D, .d x.D] (.d (.bool true)) [] := by
  refine pc_intro ttOk (by kernel_rfl) Try.func9 rfl (by kernel_rfl) (by kernel_rfl) (by kernel_rfl) (fun hw => ?_)
  (conv => whnf)
  (repeat (refine stg_ ?_))
  split
  · rename_i q
    simp at q
  (conv => whnf)
  (repeat (refine stg_ ?_))
  (refine cl_ (eqGlyphS_v x.fGlyphs) ?_)
  (repeat (refine stg_ ?_))
  (repeat (refine stg_ ?_))
  (refine RetOK.d rfl rfl ?_; conv => whnf)

end Go.Proofs.Ytfnnlipcclklnaa
