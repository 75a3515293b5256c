/- The laws' own functions (sizes, copies, comparisons): what each returns. Written by a program (wip/tools/gen_lv.py). -/
import Derived.Test.YtdeafbgnbgihgaaLVBase
set_option linter.unusedSimpArgs false
set_option linter.unusedVariables false
namespace Go.Proofs.Ytdeafbgnbgihgaa
open Go.RowKit
def zL {α : Type} (f : α → Nat) (xs : List α) : Nat := xs.length + (xs.map f).sum
def zTable (x : TTable) : Nat := x.fTag.size + x.fData.size
def zAxis (x : TAxis) : Nat := x.fName.size + x.fMap.length
def TAxis.V (x : TAxis) : V := .st [.d (.str x.fName), .d (.int .i64 x.fMin), .d (.int .i64 x.fDefault), .d (.int .i64 x.fMax), .own 1 0 x.fMap.length]
def TAxis.bs (x : TAxis) : List Blk := [.arr 2 (x.fMap.map TAxisPoint.D) true]
def zGlyphDelta (x : TGlyphDelta) : Nat := x.fKnots.length + x.fMoves.length
def TGlyphDelta.V (x : TGlyphDelta) : V := .st [.d (.int .i64 x.fGlyph), .own 1 0 x.fKnots.length, .own 2 0 x.fMoves.length, .d (.int .i64 x.fAdvance)]
def TGlyphDelta.bs (x : TGlyphDelta) : List Blk := [.arr 1 (x.fKnots.map (D.int .i64)) true, .arr 2 (x.fMoves.map TPt.D) true]
def zMaster (x : TMaster) : Nat := x.fPeaks.length + (zL zGlyphDelta x.fDeltas)
def TMaster.V (x : TMaster) : V := .st [.own 1 0 x.fPeaks.length, .own 2 0 x.fDeltas.length]
def TMaster.bs (x : TMaster) : List Blk := [.arr 3 (x.fPeaks.map TPeak.D) true, .arr 4 (x.fDeltas.map TGlyphDelta.D) true]
def zVariation (x : TVariation) : Nat := (zL zAxis x.fAxes) + (zL zMaster x.fMasters)
def TVariation.V (x : TVariation) : V := .st [.own 1 0 x.fAxes.length, .own 2 0 x.fMasters.length]
def TVariation.bs (x : TVariation) : List Blk := [.arr 5 (x.fAxes.map TAxis.D) true, .arr 2 (x.fMasters.map TMaster.D) true]
def zLoop (x : TLoop) : Nat := x.fKnots.length
def TLoop.V (x : TLoop) : V := .st [.own 1 0 x.fKnots.length]
def TLoop.bs (x : TLoop) : List Blk := [.arr 3 (x.fKnots.map TKnot.D) true]
def zOutline (x : TOutline) : Nat := (zL zLoop x.fLoops)
def TOutline.V (x : TOutline) : V := .st [.own 1 0 x.fLoops.length]
def TOutline.bs (x : TOutline) : List Blk := [.arr 1 (x.fLoops.map TLoop.D) true]
def zRule (x : TRule) : Nat := (zL List.length x.fBefore) + (zL List.length x.fInput) + (zL List.length x.fAfter) + x.fOutput.length
def TRule.V (x : TRule) : V := .st [.own 1 0 x.fBefore.length, .own 2 0 x.fInput.length, .own 3 0 x.fAfter.length, .own 4 0 x.fOutput.length]
def TRule.bs (x : TRule) : List Blk := [.arr 1 (x.fBefore.map (lstD (D.int .i64))) true, .arr 1 (x.fInput.map (lstD (D.int .i64))) true, .arr 1 (x.fAfter.map (lstD (D.int .i64))) true, .arr 1 (x.fOutput.map (D.int .i64)) true]
def zLookup (x : TLookup) : Nat := x.fName.size + (zL zRule x.fRules)
def TLookup.V (x : TLookup) : V := .st [.d (.str x.fName), .own 1 0 x.fRules.length]
def TLookup.bs (x : TLookup) : List Blk := [.arr 4 (x.fRules.map TRule.D) true]
def zKern (x : TKern) : Nat := x.fLeft.length + x.fRight.length
def TKern.V (x : TKern) : V := .st [.own 1 0 x.fLeft.length, .own 2 0 x.fRight.length, .d (.int .i64 x.fValue)]
def TKern.bs (x : TKern) : List Blk := [.arr 1 (x.fLeft.map (D.int .i64)) true, .arr 1 (x.fRight.map (D.int .i64)) true]
def zMarkRule (x : TMarkRule) : Nat := x.fMarks.length + x.fBases.length + x.fAnchor.size
def TMarkRule.V (x : TMarkRule) : V := .st [.own 1 0 x.fMarks.length, .own 2 0 x.fBases.length, .d (.str x.fAnchor)]
def TMarkRule.bs (x : TMarkRule) : List Blk := [.arr 1 (x.fMarks.map (D.int .i64)) true, .arr 1 (x.fBases.map (D.int .i64)) true]
def zFeatures (x : TFeatures) : Nat := (zL zLookup x.fLookups) + (zL zKern x.fKerns) + (zL zMarkRule x.fMarks) + x.fJoins.length
def TFeatures.V (x : TFeatures) : V := .st [.own 1 0 x.fLookups.length, .own 2 0 x.fKerns.length, .own 3 0 x.fMarks.length, .own 4 0 x.fJoins.length]
def TFeatures.bs (x : TFeatures) : List Blk := [.arr 2 (x.fLookups.map TLookup.D) true, .arr 3 (x.fKerns.map TKern.D) true, .arr 3 (x.fMarks.map TMarkRule.D) true, .arr 5 (x.fJoins.map TJoin.D) true]
def zAnchor (x : TAnchor) : Nat := x.fName.size
def zGlyph (x : TGlyph) : Nat := x.fName.size + (zOutline x.fOutline) + x.fParts.length + (zL zAnchor x.fAnchors) + x.fHints.size
def TGlyph.V (x : TGlyph) : V := .st [.d (.str x.fName), .d (.int .i64 x.fCode), .d (.int .i64 x.fAdvance), .st [.own 1 0 x.fOutline.fLoops.length], .own 2 0 x.fParts.length, .own 3 0 x.fAnchors.length, .d (.str x.fHints)]
def TGlyph.bs (x : TGlyph) : List Blk := [.arr 1 (x.fOutline.fLoops.map TLoop.D) true, .arr 3 (x.fParts.map TPart.D) true, .arr 3 (x.fAnchors.map TAnchor.D) true]
def zGlyphSet (x : TGlyphSet) : Nat := (zL zGlyph x.fGlyphs)
def TGlyphSet.V (x : TGlyphSet) : V := .st [.d (.int .i64 x.fUnit), .own 1 0 x.fGlyphs.length]
def TGlyphSet.bs (x : TGlyphSet) : List Blk := [.arr 7 (x.fGlyphs.map TGlyph.D) true]

set_option maxHeartbeats 2000000 in
theorem szTable_v (x : TTable) (left : Int) (hl : left ≤ 1048576) (h0 : 0 ≤ left) : PC Try.prog 13 [.d x.D, .d (.int .i64 left)] (.d (.int .i64 (szR left (zTable x)))) [] := by
  refine pc_intro ttOk (by kernel_rfl) Try.func13 rfl (by kernel_rfl) (by kernel_rfl) (by kernel_rfl) (fun hw => ?_)
  have hm0 : x.fTag.size ≤ maxLen := hw.1.1
  unfold maxLen at hm0
  have hm1 : x.fData.size ≤ maxLen := hw.1.2.1
  unfold maxLen at hm1
  (conv => whnf)
  (repeat (refine stg_ ?_))
  split
  · rename_i g0
    have g0 := of_decide_eq_true g0
    (conv => whnf)
    (refine RetOK.d rfl rfl ?_; conv => whnf)
    rw [szR_gt (by simp only [zTable]; omega)]
  rename_i g0
  have g0 := of_decide_eq_false g0
  (conv => whnf)
  (repeat (refine stg_ ?_))
  split
  · rename_i g1
    have g1 := of_decide_eq_true g1
    (conv => whnf)
    (refine RetOK.d rfl rfl ?_; conv => whnf)
    rw [szR_gt (by simp only [zTable]; omega)]
  rename_i g1
  have g1 := of_decide_eq_false g1
  (conv => whnf)
  (refine RetOK.d rfl rfl ?_; conv => whnf)
  rw [szR_le (by simp only [zTable]; omega)]
  congr 1 <;> ((simp only [zTable]) <;> omega)
theorem szTable_le (x : TTable) (left : Int) (hl : left ≤ 1048576) (h0 : 0 ≤ left) (hz : (((zTable x) : Nat) : Int) ≤ left) : PC Try.prog 13 [.d x.D, .d (.int .i64 left)] (.d (.int .i64 (left - (((zTable x) : Nat) : Int)))) [] := by
  have := szTable_v x left hl h0
  rwa [szR_le hz] at this
theorem szTable_gt (x : TTable) (left : Int) (hl : left ≤ 1048576) (h0 : 0 ≤ left) (hz : left < (((zTable x) : Nat) : Int)) : PC Try.prog 13 [.d x.D, .d (.int .i64 left)] (.d (.int .i64 (-1))) [] := by
  have := szTable_v x left hl h0
  rwa [szR_gt hz] at this
set_option maxHeartbeats 2000000 in
theorem szTableS_v (xs : List TTable) (left : Int) (hl : left ≤ 1048576) (h0 : 0 ≤ left) : PC Try.prog 6 [.d (lstD TTable.D xs), .d (.int .i64 left)] (.d (.int .i64 (szR left (zL zTable xs)))) [] := by
  refine pc_intro ttOk (by kernel_rfl) Try.func6 rfl (by kernel_rfl) (by kernel_rfl) (by kernel_rfl) (fun hw => ?_)
  have hm : (xs.map TTable.D).length ≤ maxLen := hw.1.1
  have hL : (xs.map TTable.D).length = xs.length := by simp
  unfold maxLen at hm
  have hall := zSum_le_all zTable xs
  (conv => whnf)
  (repeat (refine stg_ ?_))
  split
  · rename_i h1
    have h1 := of_decide_eq_true h1
    (conv => whnf)
    (refine RetOK.d rfl rfl ?_; conv => whnf)
    rw [szR_gt (by simp only [zL]; omega)]
  rename_i h1
  have h1 := of_decide_eq_false h1
  (conv => whnf)
  refine LoopW.go (α := Nat) (fun k => [(0, .d (lstD TTable.D xs)), (1, .d (.int .i64 (left - (xs.map TTable.D).length - (zSum zTable xs k : Nat)))), (5, .d (.int .i64 k))]) (fun k => [.gone]) (fun k => k ≤ xs.length ∧ (((xs.map TTable.D).length + zSum zTable xs k : Nat) : Int) ≤ left) (fun k => xs.length - k) 0
    (Weak.cov ⟨rfl, by rw [zSum_zero]; show V.d (D.int .i64 _) = V.d (D.int .i64 _); congr 2; omega, rfl, trivial⟩ ⟨trivial, trivial⟩ rfl) ⟨Nat.zero_le _, by rw [zSum_zero]; omega⟩ (fun k hk => ?_)
  obtain ⟨hk, hk2⟩ := hk
  (conv => whnf)
  split
  · rename_i h2
    have h2 := of_decide_eq_true h2
    have h2 : k < xs.length := by omega
    obtain ⟨x, hx⟩ := at_lt h2
    have hs := zSum_succ zTable hx
    have ha := hall (k + 1)
    (conv => whnf)
    (repeat (refine stg_ ?_))
    by_cases q : (((zTable x) : Nat) : Int) ≤ (left - ((xs.map TTable.D).length : Nat) - (zSum zTable xs k : Nat))
    rotate_left
    · (refine cl_ (szTable_gt x (left - ((xs.map TTable.D).length : Nat) - (zSum zTable xs k : Nat)) (by omega) (by omega) (by omega)) ?_)
      (repeat (refine stg_ ?_))
      (refine RetOK.d rfl rfl ?_; conv => whnf)
      rw [szR_gt (by simp only [zL]; omega)]
    (refine cl_ (szTable_le x (left - ((xs.map TTable.D).length : Nat) - (zSum zTable xs k : Nat)) (by omega) (by omega) q) ?_)
    (repeat (refine stg_ ?_))
    split
    · rename_i q2
      exact absurd (of_decide_eq_true q2) (by omega)
    (conv => whnf)
    (repeat (refine stg_ ?_))
    refine NextW.go (k + 1) (Weak.cov ⟨rfl, by show V.d (D.int .i64 _) = V.d (D.int .i64 _); rw [hs]; congr 2; omega, rfl, trivial⟩ ⟨trivial, trivial⟩ rfl) ⟨by omega, by omega⟩ (by omega)
  · rename_i h2
    have h2 := of_decide_eq_false h2
    obtain rfl : k = xs.length := by omega
    have ha := zSum_all zTable (Nat.le_refl xs.length)
    (conv => whnf)
    (refine RetOK.d rfl rfl ?_; conv => whnf)
    rw [szR_le (by simp only [zL]; omega)]
    congr 1 <;> ((simp only [zL]) <;> omega)
theorem szTableS_le (xs : List TTable) (left : Int) (hl : left ≤ 1048576) (h0 : 0 ≤ left) (hz : (((zL zTable xs) : Nat) : Int) ≤ left) : PC Try.prog 6 [.d (lstD TTable.D xs), .d (.int .i64 left)] (.d (.int .i64 (left - (((zL zTable xs) : Nat) : Int)))) [] := by
  have := szTableS_v xs left hl h0
  rwa [szR_le hz] at this
theorem szTableS_gt (xs : List TTable) (left : Int) (hl : left ≤ 1048576) (h0 : 0 ≤ left) (hz : left < (((zL zTable xs) : Nat) : Int)) : PC Try.prog 6 [.d (lstD TTable.D xs), .d (.int .i64 left)] (.d (.int .i64 (-1))) [] := by
  have := szTableS_v xs left hl h0
  rwa [szR_gt hz] at this

set_option maxHeartbeats 2000000 in
theorem toTable_v (x : TTable) : PC Try.prog 15 [.d x.D] (.d x.D) [] := by
  refine pc_intro ttOk (by kernel_rfl) Try.func15 rfl (by kernel_rfl) (by kernel_rfl) (by kernel_rfl) (fun hw => ?_)
  (conv => whnf)
  refine RetOK.d rfl rfl ?_
  ((conv => whnf); (try (refine ⟨_, rfl, ?_⟩)); (repeat ((conv => whnf); (refine ⟨_, _, rfl, ?_, ?_⟩); (focus (first | ((conv => whnf); done) | ((conv => whnf); (refine ⟨_, rfl, ?_⟩); (repeat ((conv => whnf); (refine ⟨_, _, rfl, ?_, ?_⟩); (focus ((conv => whnf); done)))); (conv => whnf)))))); (conv => whnf))
set_option maxHeartbeats 2000000 in
theorem toTableS_v (xs : List TTable) (hz : (zL zTable xs) ≤ 1048576) : PC Try.prog 8 [.d (lstD TTable.D xs)] (.own 1 0 xs.length) [.arr 2 (xs.map TTable.D) true] := by
  simp only [zL] at hz
  have hall := fun x hx => sum_mem zTable (xs := xs) (x := x) hx
  refine pc_intro ttOk (by kernel_rfl) Try.func8 rfl (by kernel_rfl) (by kernel_rfl) (by kernel_rfl) (fun hw => ?_)
  have hL : (xs.map TTable.D).length = xs.length := by simp
  (conv => whnf)
  refine MkW.at (by omega) (by omega) (by show (32 : Int) * _ ≤ _; omega) ?_
  (conv => whnf)
  refine LoopW.go (α := Nat) (fun k => [(0, .d (lstD TTable.D xs)), (3, .own 1 0 xs.length), (4, .d (.int .i64 k))]) (fun k => [.gone, .arr 2 (fillL TTable.D (.st [(.str .empty), (.str .empty)]) xs k) true]) (fun k => k ≤ xs.length) (fun k => xs.length - k) 0
    (Weak.cov ⟨rfl, by rw [← hL]; rfl, rfl, trivial⟩ ⟨trivial, by rw [fillL_zero, ← hL]; rfl, trivial⟩ rfl) (Nat.zero_le _) (fun k hk => ?_)
  (conv => whnf)
  split
  · rename_i h1
    have h1 := of_decide_eq_true h1
    have h1 : k < xs.length := by omega
    obtain ⟨x, hx⟩ := at_lt h1
    have he := fillL_get TTable.D (.st [(.str .empty), (.str .empty)]) xs h1
    have hfl := fillL_len TTable.D (.st [(.str .empty), (.str .empty)]) xs k (by omega)
    have ha := hall x (List.mem_of_getElem? hx)
    (conv => whnf)
    (repeat (refine stg_ ?_))
    (refine cl_ (toTable_v x) ?_)
    (repeat (refine stg_ ?_))
    refine NextW.go (k + 1) (Weak.cov ⟨rfl, rfl, rfl, trivial⟩ ⟨trivial, by rw [← fillL_set _ _ _ hx]; rfl, trivial⟩ rfl) (by omega) (by omega)
  · rename_i h1
    have h1 := of_decide_eq_false h1
    obtain rfl : k = xs.length := by omega
    (conv => whnf)
    refine ⟨⟨[some 1], ⟨by decide, by rw [fillL_all]; rfl, trivial, trivial⟩, by decide, rfl, ?_⟩⟩
    (conv => whnf)
    exact ⟨by decide, rfl⟩

set_option maxHeartbeats 2000000 in
theorem eqTable_v (x : TTable) : PC Try.prog 25 [.d x.D, .d x.D] (.d (.bool true)) [] := by
  refine pc_intro ttOk (by kernel_rfl) Try.func25 rfl (by kernel_rfl) (by kernel_rfl) (by kernel_rfl) (fun hw => ?_)
  (conv => whnf)
  (repeat (refine stg_ ?_))
  split
  · rename_i q
    simp at q
  (conv => whnf)
  (repeat (refine stg_ ?_))
  split
  · rename_i q
    simp at q
  (conv => whnf)
  (repeat (refine stg_ ?_))
  (refine RetOK.d rfl rfl ?_; conv => whnf)
set_option maxHeartbeats 2000000 in
theorem eqTableS_v (xs : List TTable) : PC Try.prog 10 [.d (lstD TTable.D xs), .d (lstD TTable.D xs)] (.d (.bool true)) [] := by
  refine pc_intro ttOk (by kernel_rfl) Try.func10 rfl (by kernel_rfl) (by kernel_rfl) (by kernel_rfl) (fun hw => ?_)
  have hm : (xs.map TTable.D).length ≤ maxLen := hw.1.1
  have hL : (xs.map TTable.D).length = xs.length := by simp
  unfold maxLen at hm
  (conv => whnf)
  split
  · rename_i h
    simp at h
  (conv => whnf)
  refine LoopW.go (α := Nat) (fun k => [(0, .d (lstD TTable.D xs)), (1, .d (lstD TTable.D xs)), (5, .d (.int .i64 k))]) (fun k => [.gone]) (fun k => k ≤ xs.length) (fun k => xs.length - k) 0
    (Weak.cov ⟨rfl, rfl, rfl, trivial⟩ ⟨trivial, trivial⟩ rfl) (Nat.zero_le _) (fun k hk => ?_)
  (conv => whnf)
  split
  · rename_i h1
    have h1 := of_decide_eq_true h1
    have h1 : k < xs.length := by omega
    obtain ⟨x, hx⟩ := at_lt h1
    (conv => whnf)
    (repeat (refine stg_ ?_))
    (refine cl_ (eqTable_v x) ?_)
    (repeat (refine stg_ ?_))
    refine NextW.go (k + 1) (Weak.cov ⟨rfl, rfl, rfl, trivial⟩ ⟨trivial, trivial⟩ rfl) (by omega) (by omega)
  · (conv => whnf)
    (refine RetOK.d rfl rfl ?_; conv => whnf)

end Go.Proofs.Ytdeafbgnbgihgaa
