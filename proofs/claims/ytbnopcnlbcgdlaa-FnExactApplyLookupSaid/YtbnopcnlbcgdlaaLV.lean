/- The laws' own functions (sizes, copies, comparisons): what each returns. Written by a program (wip/tools/gen_lv.py). -/
import Derived.Test.YtbnopcnlbcgdlaaLVBase
set_option linter.unusedSimpArgs false
set_option linter.unusedVariables false
namespace Go.Proofs.Ytbnopcnlbcgdlaa
open Go.RowKit
def zL {α : Type} (f : α → Nat) (xs : List α) : Nat := xs.length + (xs.map f).sum
def zTable (x : TTable) : Nat := x.fTag.size + x.fData.size
def zAxis (x : TAxis) : Nat := x.fName.size + x.fMap.length
def TAxis.V (x : TAxis) : V := .st [.d (.str x.fName), .d (.int .i64 x.fMin), .d (.int .i64 x.fDefault), .d (.int .i64 x.fMax), .own 1 0 x.fMap.length]
def TAxis.bs (x : TAxis) : List Blk := [.arr 2 (x.fMap.map TAxisPoint.D) true]
def zGlyphDelta (x : TGlyphDelta) : Nat := x.fKnots.length + x.fMoves.length
def TGlyphDelta.V (x : TGlyphDelta) : V := .st [.d (.int .i64 x.fGlyph), .own 1 0 x.fKnots.length, .own 2 0 x.fMoves.length, .d (.int .i64 x.fAdvance)]
def TGlyphDelta.bs (x : TGlyphDelta) : List Blk := [.arr 1 (x.fKnots.map (D.int .i64)) true, .arr 2 (x.fMoves.map TPt.D) true]
def zMaster (x : TMaster) : Nat := x.fPeaks.length + (zL zGlyphDelta x.fDeltas)
def TMaster.V (x : TMaster) : V := .st [.own 1 0 x.fPeaks.length, .own 2 0 x.fDeltas.length]
def TMaster.bs (x : TMaster) : List Blk := [.arr 3 (x.fPeaks.map TPeak.D) true, .arr 4 (x.fDeltas.map TGlyphDelta.D) true]
def zVariation (x : TVariation) : Nat := (zL zAxis x.fAxes) + (zL zMaster x.fMasters)
def TVariation.V (x : TVariation) : V := .st [.own 1 0 x.fAxes.length, .own 2 0 x.fMasters.length]
def TVariation.bs (x : TVariation) : List Blk := [.arr 5 (x.fAxes.map TAxis.D) true, .arr 2 (x.fMasters.map TMaster.D) true]
def zLoop (x : TLoop) : Nat := x.fKnots.length
def TLoop.V (x : TLoop) : V := .st [.own 1 0 x.fKnots.length]
def TLoop.bs (x : TLoop) : List Blk := [.arr 3 (x.fKnots.map TKnot.D) true]
def zOutline (x : TOutline) : Nat := (zL zLoop x.fLoops)
def TOutline.V (x : TOutline) : V := .st [.own 1 0 x.fLoops.length]
def TOutline.bs (x : TOutline) : List Blk := [.arr 1 (x.fLoops.map TLoop.D) true]
def zRule (x : TRule) : Nat := (zL List.length x.fBefore) + (zL List.length x.fInput) + (zL List.length x.fAfter) + x.fOutput.length
def TRule.V (x : TRule) : V := .st [.own 1 0 x.fBefore.length, .own 2 0 x.fInput.length, .own 3 0 x.fAfter.length, .own 4 0 x.fOutput.length]
def TRule.bs (x : TRule) : List Blk := [.arr 1 (x.fBefore.map (lstD (D.int .i64))) true, .arr 1 (x.fInput.map (lstD (D.int .i64))) true, .arr 1 (x.fAfter.map (lstD (D.int .i64))) true, .arr 1 (x.fOutput.map (D.int .i64)) true]
def zLookup (x : TLookup) : Nat := x.fName.size + (zL zRule x.fRules)
def TLookup.V (x : TLookup) : V := .st [.d (.str x.fName), .own 1 0 x.fRules.length]
def TLookup.bs (x : TLookup) : List Blk := [.arr 4 (x.fRules.map TRule.D) true]
def zKern (x : TKern) : Nat := x.fLeft.length + x.fRight.length
def TKern.V (x : TKern) : V := .st [.own 1 0 x.fLeft.length, .own 2 0 x.fRight.length, .d (.int .i64 x.fValue)]
def TKern.bs (x : TKern) : List Blk := [.arr 1 (x.fLeft.map (D.int .i64)) true, .arr 1 (x.fRight.map (D.int .i64)) true]
def zMarkRule (x : TMarkRule) : Nat := x.fMarks.length + x.fBases.length + x.fAnchor.size
def TMarkRule.V (x : TMarkRule) : V := .st [.own 1 0 x.fMarks.length, .own 2 0 x.fBases.length, .d (.str x.fAnchor)]
def TMarkRule.bs (x : TMarkRule) : List Blk := [.arr 1 (x.fMarks.map (D.int .i64)) true, .arr 1 (x.fBases.map (D.int .i64)) true]
def zFeatures (x : TFeatures) : Nat := (zL zLookup x.fLookups) + (zL zKern x.fKerns) + (zL zMarkRule x.fMarks) + x.fJoins.length
def TFeatures.V (x : TFeatures) : V := .st [.own 1 0 x.fLookups.length, .own 2 0 x.fKerns.length, .own 3 0 x.fMarks.length, .own 4 0 x.fJoins.length]
def TFeatures.bs (x : TFeatures) : List Blk := [.arr 2 (x.fLookups.map TLookup.D) true, .arr 3 (x.fKerns.map TKern.D) true, .arr 3 (x.fMarks.map TMarkRule.D) true, .arr 5 (x.fJoins.map TJoin.D) true]

set_option maxHeartbeats 2000000 in
theorem szInt64S_v (xs : List Int) (left : Int) (hl : left ≤ 1048576) (h0 : 0 ≤ left) : PC Try.prog 44 [.d (lstD (D.int .i64) xs), .d (.int .i64 left)] (.d (.int .i64 (szR left xs.length))) [] := by
  refine pc_intro ttOk (by kernel_rfl) Try.func44 rfl (by kernel_rfl) (by kernel_rfl) (by kernel_rfl) (fun hw => ?_)
  have hm : (xs.map (D.int .i64)).length ≤ maxLen := hw.1.1
  have hL : (xs.map (D.int .i64)).length = xs.length := by simp
  unfold maxLen at hm
  (conv => whnf)
  (repeat (refine stg_ ?_))
  split
  · rename_i h1
    have h1 := of_decide_eq_true h1
    (conv => whnf)
    (refine RetOK.d rfl rfl ?_; conv => whnf)
    rw [szR_gt (by omega)]
  rename_i h1
  have h1 := of_decide_eq_false h1
  (conv => whnf)
  (refine RetOK.d rfl rfl ?_; conv => whnf)
  rw [szR_le (by omega), hL]
theorem szInt64S_le (xs : List Int) (left : Int) (hl : left ≤ 1048576) (h0 : 0 ≤ left) (hz : ((xs.length : Nat) : Int) ≤ left) : PC Try.prog 44 [.d (lstD (D.int .i64) xs), .d (.int .i64 left)] (.d (.int .i64 (left - ((xs.length : Nat) : Int)))) [] := by
  have := szInt64S_v xs left hl h0
  rwa [szR_le hz] at this
theorem szInt64S_gt (xs : List Int) (left : Int) (hl : left ≤ 1048576) (h0 : 0 ≤ left) (hz : left < ((xs.length : Nat) : Int)) : PC Try.prog 44 [.d (lstD (D.int .i64) xs), .d (.int .i64 left)] (.d (.int .i64 (-1))) [] := by
  have := szInt64S_v xs left hl h0
  rwa [szR_gt hz] at this
set_option maxHeartbeats 2000000 in
theorem szItemS_v (xs : List TItem) (left : Int) (hl : left ≤ 1048576) (h0 : 0 ≤ left) : PC Try.prog 5 [.d (lstD TItem.D xs), .d (.int .i64 left)] (.d (.int .i64 (szR left xs.length))) [] := by
  refine pc_intro ttOk (by kernel_rfl) Try.func5 rfl (by kernel_rfl) (by kernel_rfl) (by kernel_rfl) (fun hw => ?_)
  have hm : (xs.map TItem.D).length ≤ maxLen := hw.1.1
  have hL : (xs.map TItem.D).length = xs.length := by simp
  unfold maxLen at hm
  (conv => whnf)
  (repeat (refine stg_ ?_))
  split
  · rename_i h1
    have h1 := of_decide_eq_true h1
    (conv => whnf)
    (refine RetOK.d rfl rfl ?_; conv => whnf)
    rw [szR_gt (by omega)]
  rename_i h1
  have h1 := of_decide_eq_false h1
  (conv => whnf)
  (refine RetOK.d rfl rfl ?_; conv => whnf)
  rw [szR_le (by omega), hL]
theorem szItemS_le (xs : List TItem) (left : Int) (hl : left ≤ 1048576) (h0 : 0 ≤ left) (hz : ((xs.length : Nat) : Int) ≤ left) : PC Try.prog 5 [.d (lstD TItem.D xs), .d (.int .i64 left)] (.d (.int .i64 (left - ((xs.length : Nat) : Int)))) [] := by
  have := szItemS_v xs left hl h0
  rwa [szR_le hz] at this
theorem szItemS_gt (xs : List TItem) (left : Int) (hl : left ≤ 1048576) (h0 : 0 ≤ left) (hz : left < ((xs.length : Nat) : Int)) : PC Try.prog 5 [.d (lstD TItem.D xs), .d (.int .i64 left)] (.d (.int .i64 (-1))) [] := by
  have := szItemS_v xs left hl h0
  rwa [szR_gt hz] at this
set_option maxHeartbeats 2000000 in
theorem szInt64SS_v (xs : List (List Int)) (left : Int) (hl : left ≤ 1048576) (h0 : 0 ≤ left) : PC Try.prog 43 [.d (lstD (lstD (D.int .i64)) xs), .d (.int .i64 left)] (.d (.int .i64 (szR left (zL List.length xs)))) [] := by
  refine pc_intro ttOk (by kernel_rfl) Try.func43 rfl (by kernel_rfl) (by kernel_rfl) (by kernel_rfl) (fun hw => ?_)
  have hm : (xs.map (lstD (D.int .i64))).length ≤ maxLen := hw.1.1
  have hL : (xs.map (lstD (D.int .i64))).length = xs.length := by simp
  unfold maxLen at hm
  have hall := zSum_le_all List.length xs
  (conv => whnf)
  (repeat (refine stg_ ?_))
  split
  · rename_i h1
    have h1 := of_decide_eq_true h1
    (conv => whnf)
    (refine RetOK.d rfl rfl ?_; conv => whnf)
    rw [szR_gt (by simp only [zL]; omega)]
  rename_i h1
  have h1 := of_decide_eq_false h1
  (conv => whnf)
  refine LoopW.go (α := Nat) (fun k => [(0, .d (lstD (lstD (D.int .i64)) xs)), (1, .d (.int .i64 (left - (xs.map (lstD (D.int .i64))).length - (zSum List.length xs k : Nat)))), (5, .d (.int .i64 k))]) (fun k => [.gone]) (fun k => k ≤ xs.length ∧ (((xs.map (lstD (D.int .i64))).length + zSum List.length xs k : Nat) : Int) ≤ left) (fun k => xs.length - k) 0
    (Weak.cov ⟨rfl, by rw [zSum_zero]; show V.d (D.int .i64 _) = V.d (D.int .i64 _); congr 2; omega, rfl, trivial⟩ ⟨trivial, trivial⟩ rfl) ⟨Nat.zero_le _, by rw [zSum_zero]; omega⟩ (fun k hk => ?_)
  obtain ⟨hk, hk2⟩ := hk
  (conv => whnf)
  split
  · rename_i h2
    have h2 := of_decide_eq_true h2
    have h2 : k < xs.length := by omega
    obtain ⟨x, hx⟩ := at_lt h2
    have hs := zSum_succ List.length hx
    have ha := hall (k + 1)
    (conv => whnf)
    (repeat (refine stg_ ?_))
    by_cases q : ((x.length : Nat) : Int) ≤ (left - ((xs.map (lstD (D.int .i64))).length : Nat) - (zSum List.length xs k : Nat))
    rotate_left
    · (refine cl_ (szInt64S_gt x (left - ((xs.map (lstD (D.int .i64))).length : Nat) - (zSum List.length xs k : Nat)) (by omega) (by omega) (by omega)) ?_)
      (repeat (refine stg_ ?_))
      (refine RetOK.d rfl rfl ?_; conv => whnf)
      rw [szR_gt (by simp only [zL]; omega)]
    (refine cl_ (szInt64S_le x (left - ((xs.map (lstD (D.int .i64))).length : Nat) - (zSum List.length xs k : Nat)) (by omega) (by omega) q) ?_)
    (repeat (refine stg_ ?_))
    split
    · rename_i q2
      exact absurd (of_decide_eq_true q2) (by omega)
    (conv => whnf)
    (repeat (refine stg_ ?_))
    refine NextW.go (k + 1) (Weak.cov ⟨rfl, by show V.d (D.int .i64 _) = V.d (D.int .i64 _); rw [hs]; congr 2; omega, rfl, trivial⟩ ⟨trivial, trivial⟩ rfl) ⟨by omega, by omega⟩ (by omega)
  · rename_i h2
    have h2 := of_decide_eq_false h2
    obtain rfl : k = xs.length := by omega
    have ha := zSum_all List.length (Nat.le_refl xs.length)
    (conv => whnf)
    (refine RetOK.d rfl rfl ?_; conv => whnf)
    rw [szR_le (by simp only [zL]; omega)]
    congr 1 <;> ((simp only [zL]) <;> omega)
theorem szInt64SS_le (xs : List (List Int)) (left : Int) (hl : left ≤ 1048576) (h0 : 0 ≤ left) (hz : (((zL List.length xs) : Nat) : Int) ≤ left) : PC Try.prog 43 [.d (lstD (lstD (D.int .i64)) xs), .d (.int .i64 left)] (.d (.int .i64 (left - (((zL List.length xs) : Nat) : Int)))) [] := by
  have := szInt64SS_v xs left hl h0
  rwa [szR_le hz] at this
theorem szInt64SS_gt (xs : List (List Int)) (left : Int) (hl : left ≤ 1048576) (h0 : 0 ≤ left) (hz : left < (((zL List.length xs) : Nat) : Int)) : PC Try.prog 43 [.d (lstD (lstD (D.int .i64)) xs), .d (.int .i64 left)] (.d (.int .i64 (-1))) [] := by
  have := szInt64SS_v xs left hl h0
  rwa [szR_gt hz] at this
set_option maxHeartbeats 2000000 in
theorem szRule_v (x : TRule) (left : Int) (hl : left ≤ 1048576) (h0 : 0 ≤ left) : PC Try.prog 27 [.d x.D, .d (.int .i64 left)] (.d (.int .i64 (szR left (zRule x)))) [] := by
  refine pc_intro ttOk (by kernel_rfl) Try.func27 rfl (by kernel_rfl) (by kernel_rfl) (by kernel_rfl) (fun hw => ?_)
  (conv => whnf)
  by_cases g0 : (((zL List.length x.fBefore) : Nat) : Int) ≤ left
  rotate_left
  · (refine cl_ (szInt64SS_gt x.fBefore (left) (by omega) (by omega) (by omega)) ?_)
    (repeat (refine stg_ ?_))
    (refine RetOK.d rfl rfl ?_; conv => whnf)
    rw [szR_gt (by simp only [zRule]; omega)]
  (refine cl_ (szInt64SS_le x.fBefore (left) (by omega) (by omega) g0) ?_)
  (repeat (refine stg_ ?_))
  split
  · rename_i q
    exact absurd (of_decide_eq_true q) (by omega)
  (conv => whnf)
  by_cases g1 : (((zL List.length x.fInput) : Nat) : Int) ≤ (left - (((zL List.length x.fBefore) : Nat) : Int))
  rotate_left
  · (refine cl_ (szInt64SS_gt x.fInput ((left - (((zL List.length x.fBefore) : Nat) : Int))) (by omega) (by omega) (by omega)) ?_)
    (repeat (refine stg_ ?_))
    (refine RetOK.d rfl rfl ?_; conv => whnf)
    rw [szR_gt (by simp only [zRule]; omega)]
  (refine cl_ (szInt64SS_le x.fInput ((left - (((zL List.length x.fBefore) : Nat) : Int))) (by omega) (by omega) g1) ?_)
  (repeat (refine stg_ ?_))
  split
  · rename_i q
    exact absurd (of_decide_eq_true q) (by omega)
  (conv => whnf)
  by_cases g2 : (((zL List.length x.fAfter) : Nat) : Int) ≤ ((left - (((zL List.length x.fBefore) : Nat) : Int)) - (((zL List.length x.fInput) : Nat) : Int))
  rotate_left
  · (refine cl_ (szInt64SS_gt x.fAfter (((left - (((zL List.length x.fBefore) : Nat) : Int)) - (((zL List.length x.fInput) : Nat) : Int))) (by omega) (by omega) (by omega)) ?_)
    (repeat (refine stg_ ?_))
    (refine RetOK.d rfl rfl ?_; conv => whnf)
    rw [szR_gt (by simp only [zRule]; omega)]
  (refine cl_ (szInt64SS_le x.fAfter (((left - (((zL List.length x.fBefore) : Nat) : Int)) - (((zL List.length x.fInput) : Nat) : Int))) (by omega) (by omega) g2) ?_)
  (repeat (refine stg_ ?_))
  split
  · rename_i q
    exact absurd (of_decide_eq_true q) (by omega)
  (conv => whnf)
  by_cases g3 : ((x.fOutput.length : Nat) : Int) ≤ (((left - (((zL List.length x.fBefore) : Nat) : Int)) - (((zL List.length x.fInput) : Nat) : Int)) - (((zL List.length x.fAfter) : Nat) : Int))
  rotate_left
  · (refine cl_ (szInt64S_gt x.fOutput ((((left - (((zL List.length x.fBefore) : Nat) : Int)) - (((zL List.length x.fInput) : Nat) : Int)) - (((zL List.length x.fAfter) : Nat) : Int))) (by omega) (by omega) (by omega)) ?_)
    (repeat (refine stg_ ?_))
    (refine RetOK.d rfl rfl ?_; conv => whnf)
    rw [szR_gt (by simp only [zRule]; omega)]
  (refine cl_ (szInt64S_le x.fOutput ((((left - (((zL List.length x.fBefore) : Nat) : Int)) - (((zL List.length x.fInput) : Nat) : Int)) - (((zL List.length x.fAfter) : Nat) : Int))) (by omega) (by omega) g3) ?_)
  (repeat (refine stg_ ?_))
  split
  · rename_i q
    exact absurd (of_decide_eq_true q) (by omega)
  (conv => whnf)
  (refine RetOK.d rfl rfl ?_; conv => whnf)
  rw [szR_le (by simp only [zRule]; omega)]
  congr 1 <;> ((simp only [zRule]) <;> omega)
theorem szRule_le (x : TRule) (left : Int) (hl : left ≤ 1048576) (h0 : 0 ≤ left) (hz : (((zRule x) : Nat) : Int) ≤ left) : PC Try.prog 27 [.d x.D, .d (.int .i64 left)] (.d (.int .i64 (left - (((zRule x) : Nat) : Int)))) [] := by
  have := szRule_v x left hl h0
  rwa [szR_le hz] at this
theorem szRule_gt (x : TRule) (left : Int) (hl : left ≤ 1048576) (h0 : 0 ≤ left) (hz : left < (((zRule x) : Nat) : Int)) : PC Try.prog 27 [.d x.D, .d (.int .i64 left)] (.d (.int .i64 (-1))) [] := by
  have := szRule_v x left hl h0
  rwa [szR_gt hz] at this
set_option maxHeartbeats 2000000 in
theorem szRuleS_v (xs : List TRule) (left : Int) (hl : left ≤ 1048576) (h0 : 0 ≤ left) : PC Try.prog 15 [.d (lstD TRule.D xs), .d (.int .i64 left)] (.d (.int .i64 (szR left (zL zRule xs)))) [] := by
  refine pc_intro ttOk (by kernel_rfl) Try.func15 rfl (by kernel_rfl) (by kernel_rfl) (by kernel_rfl) (fun hw => ?_)
  have hm : (xs.map TRule.D).length ≤ maxLen := hw.1.1
  have hL : (xs.map TRule.D).length = xs.length := by simp
  unfold maxLen at hm
  have hall := zSum_le_all zRule xs
  (conv => whnf)
  (repeat (refine stg_ ?_))
  split
  · rename_i h1
    have h1 := of_decide_eq_true h1
    (conv => whnf)
    (refine RetOK.d rfl rfl ?_; conv => whnf)
    rw [szR_gt (by simp only [zL]; omega)]
  rename_i h1
  have h1 := of_decide_eq_false h1
  (conv => whnf)
  refine LoopW.go (α := Nat) (fun k => [(0, .d (lstD TRule.D xs)), (1, .d (.int .i64 (left - (xs.map TRule.D).length - (zSum zRule xs k : Nat)))), (5, .d (.int .i64 k))]) (fun k => [.gone]) (fun k => k ≤ xs.length ∧ (((xs.map TRule.D).length + zSum zRule xs k : Nat) : Int) ≤ left) (fun k => xs.length - k) 0
    (Weak.cov ⟨rfl, by rw [zSum_zero]; show V.d (D.int .i64 _) = V.d (D.int .i64 _); congr 2; omega, rfl, trivial⟩ ⟨trivial, trivial⟩ rfl) ⟨Nat.zero_le _, by rw [zSum_zero]; omega⟩ (fun k hk => ?_)
  obtain ⟨hk, hk2⟩ := hk
  (conv => whnf)
  split
  · rename_i h2
    have h2 := of_decide_eq_true h2
    have h2 : k < xs.length := by omega
    obtain ⟨x, hx⟩ := at_lt h2
    have hs := zSum_succ zRule hx
    have ha := hall (k + 1)
    (conv => whnf)
    (repeat (refine stg_ ?_))
    by_cases q : (((zRule x) : Nat) : Int) ≤ (left - ((xs.map TRule.D).length : Nat) - (zSum zRule xs k : Nat))
    rotate_left
    · (refine cl_ (szRule_gt x (left - ((xs.map TRule.D).length : Nat) - (zSum zRule xs k : Nat)) (by omega) (by omega) (by omega)) ?_)
      (repeat (refine stg_ ?_))
      (refine RetOK.d rfl rfl ?_; conv => whnf)
      rw [szR_gt (by simp only [zL]; omega)]
    (refine cl_ (szRule_le x (left - ((xs.map TRule.D).length : Nat) - (zSum zRule xs k : Nat)) (by omega) (by omega) q) ?_)
    (repeat (refine stg_ ?_))
    split
    · rename_i q2
      exact absurd (of_decide_eq_true q2) (by omega)
    (conv => whnf)
    (repeat (refine stg_ ?_))
    refine NextW.go (k + 1) (Weak.cov ⟨rfl, by show V.d (D.int .i64 _) = V.d (D.int .i64 _); rw [hs]; congr 2; omega, rfl, trivial⟩ ⟨trivial, trivial⟩ rfl) ⟨by omega, by omega⟩ (by omega)
  · rename_i h2
    have h2 := of_decide_eq_false h2
    obtain rfl : k = xs.length := by omega
    have ha := zSum_all zRule (Nat.le_refl xs.length)
    (conv => whnf)
    (refine RetOK.d rfl rfl ?_; conv => whnf)
    rw [szR_le (by simp only [zL]; omega)]
    congr 1 <;> ((simp only [zL]) <;> omega)
theorem szRuleS_le (xs : List TRule) (left : Int) (hl : left ≤ 1048576) (h0 : 0 ≤ left) (hz : (((zL zRule xs) : Nat) : Int) ≤ left) : PC Try.prog 15 [.d (lstD TRule.D xs), .d (.int .i64 left)] (.d (.int .i64 (left - (((zL zRule xs) : Nat) : Int)))) [] := by
  have := szRuleS_v xs left hl h0
  rwa [szR_le hz] at this
theorem szRuleS_gt (xs : List TRule) (left : Int) (hl : left ≤ 1048576) (h0 : 0 ≤ left) (hz : left < (((zL zRule xs) : Nat) : Int)) : PC Try.prog 15 [.d (lstD TRule.D xs), .d (.int .i64 left)] (.d (.int .i64 (-1))) [] := by
  have := szRuleS_v xs left hl h0
  rwa [szR_gt hz] at this
set_option maxHeartbeats 2000000 in
theorem szLookup_v (x : TLookup) (left : Int) (hl : left ≤ 1048576) (h0 : 0 ≤ left) : PC Try.prog 4 [.d x.D, .d (.int .i64 left)] (.d (.int .i64 (szR left (zLookup x)))) [] := by
  refine pc_intro ttOk (by kernel_rfl) Try.func4 rfl (by kernel_rfl) (by kernel_rfl) (by kernel_rfl) (fun hw => ?_)
  have hm0 : x.fName.size ≤ maxLen := hw.1.1
  unfold maxLen at hm0
  (conv => whnf)
  (repeat (refine stg_ ?_))
  split
  · rename_i g0
    have g0 := of_decide_eq_true g0
    (conv => whnf)
    (refine RetOK.d rfl rfl ?_; conv => whnf)
    rw [szR_gt (by simp only [zLookup]; omega)]
  rename_i g0
  have g0 := of_decide_eq_false g0
  (conv => whnf)
  by_cases g1 : (((zL zRule x.fRules) : Nat) : Int) ≤ (left - ((x.fName.size : Nat) : Int))
  rotate_left
  · (refine cl_ (szRuleS_gt x.fRules ((left - ((x.fName.size : Nat) : Int))) (by omega) (by omega) (by omega)) ?_)
    (repeat (refine stg_ ?_))
    (refine RetOK.d rfl rfl ?_; conv => whnf)
    rw [szR_gt (by simp only [zLookup]; omega)]
  (refine cl_ (szRuleS_le x.fRules ((left - ((x.fName.size : Nat) : Int))) (by omega) (by omega) g1) ?_)
  (repeat (refine stg_ ?_))
  split
  · rename_i q
    exact absurd (of_decide_eq_true q) (by omega)
  (conv => whnf)
  (refine RetOK.d rfl rfl ?_; conv => whnf)
  rw [szR_le (by simp only [zLookup]; omega)]
  congr 1 <;> ((simp only [zLookup]) <;> omega)
theorem szLookup_le (x : TLookup) (left : Int) (hl : left ≤ 1048576) (h0 : 0 ≤ left) (hz : (((zLookup x) : Nat) : Int) ≤ left) : PC Try.prog 4 [.d x.D, .d (.int .i64 left)] (.d (.int .i64 (left - (((zLookup x) : Nat) : Int)))) [] := by
  have := szLookup_v x left hl h0
  rwa [szR_le hz] at this
theorem szLookup_gt (x : TLookup) (left : Int) (hl : left ≤ 1048576) (h0 : 0 ≤ left) (hz : left < (((zLookup x) : Nat) : Int)) : PC Try.prog 4 [.d x.D, .d (.int .i64 left)] (.d (.int .i64 (-1))) [] := by
  have := szLookup_v x left hl h0
  rwa [szR_gt hz] at this

set_option maxHeartbeats 2000000 in
theorem toInt64S_v (xs : List Int) (hz : xs.length ≤ 1048576) : PC Try.prog 50 [.d (lstD (D.int .i64) xs)] (.own 1 0 xs.length) [.arr 1 (xs.map (D.int .i64)) true] := by
  refine pc_intro ttOk (by kernel_rfl) Try.func50 rfl (by kernel_rfl) (by kernel_rfl) (by kernel_rfl) (fun hw => ?_)
  have hL : (xs.map (D.int .i64)).length = xs.length := by simp
  (conv => whnf)
  refine MkW.at (by omega) (by omega) (by show (8 : Int) * _ ≤ _; omega) ?_
  (conv => whnf)
  refine LoopW.go (α := Nat) (fun k => [(0, .d (lstD (D.int .i64) xs)), (3, .own 1 0 xs.length), (4, .d (.int .i64 k))]) (fun k => [.gone, .arr 1 (fillL (D.int .i64) (.int .i64 0) xs k) true]) (fun k => k ≤ xs.length) (fun k => xs.length - k) 0
    (Weak.cov ⟨rfl, by rw [← hL]; rfl, rfl, trivial⟩ ⟨trivial, by rw [fillL_zero, ← hL]; rfl, trivial⟩ rfl) (Nat.zero_le _) (fun k hk => ?_)
  (conv => whnf)
  split
  · rename_i h1
    have h1 := of_decide_eq_true h1
    have h1 : k < xs.length := by omega
    obtain ⟨x, hx⟩ := at_lt h1
    have he := fillL_get (D.int .i64) (.int .i64 0) xs h1
    have hfl := fillL_len (D.int .i64) (.int .i64 0) xs k (by omega)
    (conv => whnf)
    (repeat (refine stg_ ?_))
    refine NextW.go (k + 1) (Weak.cov ⟨rfl, rfl, rfl, trivial⟩ ⟨trivial, by rw [← fillL_set _ _ _ hx]; rfl, trivial⟩ rfl) (by omega) (by omega)
  · rename_i h1
    have h1 := of_decide_eq_false h1
    obtain rfl : k = xs.length := by omega
    (conv => whnf)
    refine ⟨⟨[some 1], ⟨by decide, by rw [fillL_all]; rfl, trivial, trivial⟩, by decide, rfl, ?_⟩⟩
    (conv => whnf)
    exact ⟨by decide, rfl⟩
set_option maxHeartbeats 2000000 in
theorem toItem_v (x : TItem) : PC Try.prog 20 [.d x.D] (.d x.D) [] := by
  refine pc_intro ttOk (by kernel_rfl) Try.func20 rfl (by kernel_rfl) (by kernel_rfl) (by kernel_rfl) (fun hw => ?_)
  (conv => whnf)
  refine RetOK.d rfl rfl ?_
  ((conv => whnf); (try (refine ⟨_, rfl, ?_⟩)); (repeat ((conv => whnf); (refine ⟨_, _, rfl, ?_, ?_⟩); (focus (first | ((conv => whnf); done) | ((conv => whnf); (refine ⟨_, rfl, ?_⟩); (repeat ((conv => whnf); (refine ⟨_, _, rfl, ?_, ?_⟩); (focus ((conv => whnf); done)))); (conv => whnf)))))); (conv => whnf))
set_option maxHeartbeats 2000000 in
theorem toItemS_v (xs : List TItem) (hz : xs.length ≤ 1048576) : PC Try.prog 8 [.d (lstD TItem.D xs)] (.own 1 0 xs.length) [.arr 3 (xs.map TItem.D) true] := by
  refine pc_intro ttOk (by kernel_rfl) Try.func8 rfl (by kernel_rfl) (by kernel_rfl) (by kernel_rfl) (fun hw => ?_)
  have hL : (xs.map TItem.D).length = xs.length := by simp
  (conv => whnf)
  refine MkW.at (by omega) (by omega) (by show (24 : Int) * _ ≤ _; omega) ?_
  (conv => whnf)
  refine LoopW.go (α := Nat) (fun k => [(0, .d (lstD TItem.D xs)), (3, .own 1 0 xs.length), (4, .d (.int .i64 k))]) (fun k => [.gone, .arr 3 (fillL TItem.D (.st [(.int .i64 0), (.int .i64 0), (.int .i64 0)]) xs k) true]) (fun k => k ≤ xs.length) (fun k => xs.length - k) 0
    (Weak.cov ⟨rfl, by rw [← hL]; rfl, rfl, trivial⟩ ⟨trivial, by rw [fillL_zero, ← hL]; rfl, trivial⟩ rfl) (Nat.zero_le _) (fun k hk => ?_)
  (conv => whnf)
  split
  · rename_i h1
    have h1 := of_decide_eq_true h1
    have h1 : k < xs.length := by omega
    obtain ⟨x, hx⟩ := at_lt h1
    have he := fillL_get TItem.D (.st [(.int .i64 0), (.int .i64 0), (.int .i64 0)]) xs h1
    have hfl := fillL_len TItem.D (.st [(.int .i64 0), (.int .i64 0), (.int .i64 0)]) xs k (by omega)
    (conv => whnf)
    (repeat (refine stg_ ?_))
    (refine cl_ (toItem_v x) ?_)
    (repeat (refine stg_ ?_))
    refine NextW.go (k + 1) (Weak.cov ⟨rfl, rfl, rfl, trivial⟩ ⟨trivial, by rw [← fillL_set _ _ _ hx]; rfl, trivial⟩ rfl) (by omega) (by omega)
  · rename_i h1
    have h1 := of_decide_eq_false h1
    obtain rfl : k = xs.length := by omega
    (conv => whnf)
    refine ⟨⟨[some 1], ⟨by decide, by rw [fillL_all]; rfl, trivial, trivial⟩, by decide, rfl, ?_⟩⟩
    (conv => whnf)
    exact ⟨by decide, rfl⟩
set_option maxHeartbeats 2000000 in
theorem toInt64SS_v (xs : List (List Int)) (hz : (zL List.length xs) ≤ 1048576) : PC Try.prog 49 [.d (lstD (lstD (D.int .i64)) xs)] (.own 1 0 xs.length) [.arr 1 (xs.map (lstD (D.int .i64))) true] := by
  simp only [zL] at hz
  have hall := fun x hx => sum_mem List.length (xs := xs) (x := x) hx
  refine pc_intro ttOk (by kernel_rfl) Try.func49 rfl (by kernel_rfl) (by kernel_rfl) (by kernel_rfl) (fun hw => ?_)
  have hL : (xs.map (lstD (D.int .i64))).length = xs.length := by simp
  (conv => whnf)
  refine MkW.at (by omega) (by omega) (by show (24 : Int) * _ ≤ _; omega) ?_
  (conv => whnf)
  refine LoopW.go (α := Nat) (fun k => [(0, .d (lstD (lstD (D.int .i64)) xs)), (3, .own 1 0 xs.length), (4, .d (.int .i64 k))]) (fun k => [.gone, .arr 1 (fillL (lstD (D.int .i64)) (.lst []) xs k) true]) (fun k => k ≤ xs.length) (fun k => xs.length - k) 0
    (Weak.cov ⟨rfl, by rw [← hL]; rfl, rfl, trivial⟩ ⟨trivial, by rw [fillL_zero, ← hL]; rfl, trivial⟩ rfl) (Nat.zero_le _) (fun k hk => ?_)
  (conv => whnf)
  split
  · rename_i h1
    have h1 := of_decide_eq_true h1
    have h1 : k < xs.length := by omega
    obtain ⟨x, hx⟩ := at_lt h1
    have he := fillL_get (lstD (D.int .i64)) (.lst []) xs h1
    have hfl := fillL_len (lstD (D.int .i64)) (.lst []) xs k (by omega)
    have ha := hall x (List.mem_of_getElem? hx)
    (conv => whnf)
    (repeat (refine stg_ ?_))
    (refine cl_ (toInt64S_v x (by omega)) ?_)
    (repeat (refine stg_ ?_))
    refine NextW.go (k + 1) (Weak.cov ⟨rfl, rfl, rfl, trivial⟩ ⟨trivial, by rw [← fillL_set _ _ _ hx]; rfl, trivial⟩ rfl) (by omega) (by omega)
  · rename_i h1
    have h1 := of_decide_eq_false h1
    obtain rfl : k = xs.length := by omega
    (conv => whnf)
    refine ⟨⟨[some 1], ⟨by decide, by rw [fillL_all]; rfl, trivial, trivial⟩, by decide, rfl, ?_⟩⟩
    (conv => whnf)
    exact ⟨by decide, rfl⟩
set_option maxHeartbeats 2000000 in
theorem toRule_v (x : TRule) (hz : zRule x ≤ 1048576) : PC Try.prog 32 [.d x.D] x.V x.bs := by
  simp only [zRule] at hz
  refine pc_intro ttOk (by kernel_rfl) Try.func32 rfl (by kernel_rfl) (by kernel_rfl) (by kernel_rfl) (fun hw => ?_)
  (conv => whnf)
  (refine cl_ (toInt64SS_v x.fBefore (by simp only [zL] at hz ⊢; omega)) ?_)
  (repeat (refine stg_ ?_))
  (refine cl_ (toInt64SS_v x.fInput (by simp only [zL] at hz ⊢; omega)) ?_)
  (repeat (refine stg_ ?_))
  (refine cl_ (toInt64SS_v x.fAfter (by simp only [zL] at hz ⊢; omega)) ?_)
  (repeat (refine stg_ ?_))
  (refine cl_ (toInt64S_v x.fOutput (by omega)) ?_)
  (repeat (refine stg_ ?_))
  refine ⟨⟨[some 4, some 5, some 6, some 7], ⟨by decide, rfl, trivial, by decide, rfl, trivial, by decide, rfl, trivial, by decide, rfl, trivial, trivial⟩, by decide, rfl, ?_⟩⟩
  ((conv => whnf); (refine ⟨_, rfl, ?_⟩); (repeat ((conv => whnf); (refine ⟨_, _, rfl, ?_, ?_⟩); (focus ((conv => whnf); first | exact ⟨rfl, rfl⟩ | exact ⟨by decide, rfl⟩)))); (conv => whnf))
set_option maxHeartbeats 2000000 in
theorem toRuleS_v (xs : List TRule) (hz : (zL zRule xs) ≤ 1048576) : PC Try.prog 19 [.d (lstD TRule.D xs)] (.own 1 0 xs.length) [.arr 4 (xs.map TRule.D) true] := by
  simp only [zL] at hz
  have hall := fun x hx => sum_mem zRule (xs := xs) (x := x) hx
  refine pc_intro ttOk (by kernel_rfl) Try.func19 rfl (by kernel_rfl) (by kernel_rfl) (by kernel_rfl) (fun hw => ?_)
  have hL : (xs.map TRule.D).length = xs.length := by simp
  (conv => whnf)
  refine MkW.at (by omega) (by omega) (by show (96 : Int) * _ ≤ _; omega) ?_
  (conv => whnf)
  refine LoopW.go (α := Nat) (fun k => [(0, .d (lstD TRule.D xs)), (3, .own 1 0 xs.length), (4, .d (.int .i64 k))]) (fun k => [.gone, .arr 4 (fillL TRule.D (.st [(.lst []), (.lst []), (.lst []), (.lst [])]) xs k) true]) (fun k => k ≤ xs.length) (fun k => xs.length - k) 0
    (Weak.cov ⟨rfl, by rw [← hL]; rfl, rfl, trivial⟩ ⟨trivial, by rw [fillL_zero, ← hL]; rfl, trivial⟩ rfl) (Nat.zero_le _) (fun k hk => ?_)
  (conv => whnf)
  split
  · rename_i h1
    have h1 := of_decide_eq_true h1
    have h1 : k < xs.length := by omega
    obtain ⟨x, hx⟩ := at_lt h1
    have he := fillL_get TRule.D (.st [(.lst []), (.lst []), (.lst []), (.lst [])]) xs h1
    have hfl := fillL_len TRule.D (.st [(.lst []), (.lst []), (.lst []), (.lst [])]) xs k (by omega)
    have ha := hall x (List.mem_of_getElem? hx)
    (conv => whnf)
    (repeat (refine stg_ ?_))
    (refine cl_ (toRule_v x (by omega)) ?_)
    (repeat (refine stg_ ?_))
    refine NextW.go (k + 1) (Weak.cov ⟨rfl, rfl, rfl, trivial⟩ ⟨trivial, by rw [← fillL_set _ _ _ hx]; rfl, trivial⟩ rfl) (by omega) (by omega)
  · rename_i h1
    have h1 := of_decide_eq_false h1
    obtain rfl : k = xs.length := by omega
    (conv => whnf)
    refine ⟨⟨[some 1], ⟨by decide, by rw [fillL_all]; rfl, trivial, trivial⟩, by decide, rfl, ?_⟩⟩
    (conv => whnf)
    exact ⟨by decide, rfl⟩
set_option maxHeartbeats 2000000 in
theorem toLookup_v (x : TLookup) (hz : zLookup x ≤ 1048576) : PC Try.prog 7 [.d x.D] x.V x.bs := by
  simp only [zLookup] at hz
  refine pc_intro ttOk (by kernel_rfl) Try.func7 rfl (by kernel_rfl) (by kernel_rfl) (by kernel_rfl) (fun hw => ?_)
  (conv => whnf)
  (refine cl_ (toRuleS_v x.fRules (by simp only [zL] at hz ⊢; omega)) ?_)
  (repeat (refine stg_ ?_))
  refine ⟨⟨[some 4], ⟨by decide, rfl, trivial, trivial⟩, by decide, rfl, ?_⟩⟩
  ((conv => whnf); (refine ⟨_, rfl, ?_⟩); (repeat ((conv => whnf); (refine ⟨_, _, rfl, ?_, ?_⟩); (focus ((conv => whnf); first | exact ⟨rfl, rfl⟩ | exact ⟨by decide, rfl⟩)))); (conv => whnf))

set_option maxHeartbeats 2000000 in
theorem eqInt64S_v (xs : List Int) : PC Try.prog 62 [.d (lstD (D.int .i64) xs), .d (lstD (D.int .i64) xs)] (.d (.bool true)) [] := by
  refine pc_intro ttOk (by kernel_rfl) Try.func62 rfl (by kernel_rfl) (by kernel_rfl) (by kernel_rfl) (fun hw => ?_)
  have hm : (xs.map (D.int .i64)).length ≤ maxLen := hw.1.1
  have hL : (xs.map (D.int .i64)).length = xs.length := by simp
  unfold maxLen at hm
  (conv => whnf)
  split
  · rename_i h
    simp at h
  (conv => whnf)
  refine LoopW.go (α := Nat) (fun k => [(0, .d (lstD (D.int .i64) xs)), (1, .d (lstD (D.int .i64) xs)), (5, .d (.int .i64 k))]) (fun k => [.gone]) (fun k => k ≤ xs.length) (fun k => xs.length - k) 0
    (Weak.cov ⟨rfl, rfl, rfl, trivial⟩ ⟨trivial, trivial⟩ rfl) (Nat.zero_le _) (fun k hk => ?_)
  (conv => whnf)
  split
  · rename_i h1
    have h1 := of_decide_eq_true h1
    have h1 : k < xs.length := by omega
    obtain ⟨x, hx⟩ := at_lt h1
    (conv => whnf)
    (repeat (refine stg_ ?_))
    split
    · rename_i q
      simp at q
    (conv => whnf)
    (repeat (refine stg_ ?_))
    refine NextW.go (k + 1) (Weak.cov ⟨rfl, rfl, rfl, trivial⟩ ⟨trivial, trivial⟩ rfl) (by omega) (by omega)
  · (conv => whnf)
    (refine RetOK.d rfl rfl ?_; conv => whnf)
set_option maxHeartbeats 2000000 in
theorem eqItem_v (x : TItem) : PC Try.prog 24 [.d x.D, .d x.D] (.d (.bool true)) [] := by
  refine pc_intro ttOk (by kernel_rfl) Try.func24 rfl (by kernel_rfl) (by kernel_rfl) (by kernel_rfl) (fun hw => ?_)
  (conv => whnf)
  (repeat (refine stg_ ?_))
  split
  · rename_i q
    simp at q
  (conv => whnf)
  (repeat (refine stg_ ?_))
  split
  · rename_i q
    simp at q
  (conv => whnf)
  (repeat (refine stg_ ?_))
  split
  · rename_i q
    simp at q
  (conv => whnf)
  (repeat (refine stg_ ?_))
  (refine RetOK.d rfl rfl ?_; conv => whnf)
set_option maxHeartbeats 2000000 in
theorem eqItemS_v (xs : List TItem) : PC Try.prog 10 [.d (lstD TItem.D xs), .d (lstD TItem.D xs)] (.d (.bool true)) [] := by
  refine pc_intro ttOk (by kernel_rfl) Try.func10 rfl (by kernel_rfl) (by kernel_rfl) (by kernel_rfl) (fun hw => ?_)
  have hm : (xs.map TItem.D).length ≤ maxLen := hw.1.1
  have hL : (xs.map TItem.D).length = xs.length := by simp
  unfold maxLen at hm
  (conv => whnf)
  split
  · rename_i h
    simp at h
  (conv => whnf)
  refine LoopW.go (α := Nat) (fun k => [(0, .d (lstD TItem.D xs)), (1, .d (lstD TItem.D xs)), (5, .d (.int .i64 k))]) (fun k => [.gone]) (fun k => k ≤ xs.length) (fun k => xs.length - k) 0
    (Weak.cov ⟨rfl, rfl, rfl, trivial⟩ ⟨trivial, trivial⟩ rfl) (Nat.zero_le _) (fun k hk => ?_)
  (conv => whnf)
  split
  · rename_i h1
    have h1 := of_decide_eq_true h1
    have h1 : k < xs.length := by omega
    obtain ⟨x, hx⟩ := at_lt h1
    (conv => whnf)
    (repeat (refine stg_ ?_))
    (refine cl_ (eqItem_v x) ?_)
    (repeat (refine stg_ ?_))
    refine NextW.go (k + 1) (Weak.cov ⟨rfl, rfl, rfl, trivial⟩ ⟨trivial, trivial⟩ rfl) (by omega) (by omega)
  · (conv => whnf)
    (refine RetOK.d rfl rfl ?_; conv => whnf)
set_option maxHeartbeats 2000000 in
theorem eqInt64SS_v (xs : List (List Int)) : PC Try.prog 61 [.d (lstD (lstD (D.int .i64)) xs), .d (lstD (lstD (D.int .i64)) xs)] (.d (.bool true)) [] := by
  refine pc_intro ttOk (by kernel_rfl) Try.func61 rfl (by kernel_rfl) (by kernel_rfl) (by kernel_rfl) (fun hw => ?_)
  have hm : (xs.map (lstD (D.int .i64))).length ≤ maxLen := hw.1.1
  have hL : (xs.map (lstD (D.int .i64))).length = xs.length := by simp
  unfold maxLen at hm
  (conv => whnf)
  split
  · rename_i h
    simp at h
  (conv => whnf)
  refine LoopW.go (α := Nat) (fun k => [(0, .d (lstD (lstD (D.int .i64)) xs)), (1, .d (lstD (lstD (D.int .i64)) xs)), (5, .d (.int .i64 k))]) (fun k => [.gone]) (fun k => k ≤ xs.length) (fun k => xs.length - k) 0
    (Weak.cov ⟨rfl, rfl, rfl, trivial⟩ ⟨trivial, trivial⟩ rfl) (Nat.zero_le _) (fun k hk => ?_)
  (conv => whnf)
  split
  · rename_i h1
    have h1 := of_decide_eq_true h1
    have h1 : k < xs.length := by omega
    obtain ⟨x, hx⟩ := at_lt h1
    (conv => whnf)
    (repeat (refine stg_ ?_))
    (refine cl_ (eqInt64S_v x) ?_)
    (repeat (refine stg_ ?_))
    refine NextW.go (k + 1) (Weak.cov ⟨rfl, rfl, rfl, trivial⟩ ⟨trivial, trivial⟩ rfl) (by omega) (by omega)
  · (conv => whnf)
    (refine RetOK.d rfl rfl ?_; conv => whnf)
set_option maxHeartbeats 2000000 in
theorem eqRule_v (x : TRule) : PC Try.prog 40 [.d x.D, .d x.D] (.d (.bool true)) [] := by
  refine pc_intro ttOk (by kernel_rfl) Try.func40 rfl (by kernel_rfl) (by kernel_rfl) (by kernel_rfl) (fun hw => ?_)
  (conv => whnf)
  (repeat (refine stg_ ?_))
  (refine cl_ (eqInt64SS_v x.fBefore) ?_)
  (repeat (refine stg_ ?_))
  (repeat (refine stg_ ?_))
  (refine cl_ (eqInt64SS_v x.fInput) ?_)
  (repeat (refine stg_ ?_))
  (repeat (refine stg_ ?_))
  (refine cl_ (eqInt64SS_v x.fAfter) ?_)
  (repeat (refine stg_ ?_))
  (repeat (refine stg_ ?_))
  (refine cl_ (eqInt64S_v x.fOutput) ?_)
  (repeat (refine stg_ ?_))
  (repeat (refine stg_ ?_))
  (refine RetOK.d rfl rfl ?_; conv => whnf)
set_option maxHeartbeats 2000000 in
theorem eqRuleS_v (xs : List TRule) : PC Try.prog 25 [.d (lstD TRule.D xs), .d (lstD TRule.D xs)] (.d (.bool true)) [] := by
  refine pc_intro ttOk (by kernel_rfl) Try.func25 rfl (by kernel_rfl) (by kernel_rfl) (by kernel_rfl) (fun hw => ?_)
  have hm : (xs.map TRule.D).length ≤ maxLen := hw.1.1
  have hL : (xs.map TRule.D).length = xs.length := by simp
  unfold maxLen at hm
  (conv => whnf)
  split
  · rename_i h
    simp at h
  (conv => whnf)
  refine LoopW.go (α := Nat) (fun k => [(0, .d (lstD TRule.D xs)), (1, .d (lstD TRule.D xs)), (5, .d (.int .i64 k))]) (fun k => [.gone]) (fun k => k ≤ xs.length) (fun k => xs.length - k) 0
    (Weak.cov ⟨rfl, rfl, rfl, trivial⟩ ⟨trivial, trivial⟩ rfl) (Nat.zero_le _) (fun k hk => ?_)
  (conv => whnf)
  split
  · rename_i h1
    have h1 := of_decide_eq_true h1
    have h1 : k < xs.length := by omega
    obtain ⟨x, hx⟩ := at_lt h1
    (conv => whnf)
    (repeat (refine stg_ ?_))
    (refine cl_ (eqRule_v x) ?_)
    (repeat (refine stg_ ?_))
    refine NextW.go (k + 1) (Weak.cov ⟨rfl, rfl, rfl, trivial⟩ ⟨trivial, trivial⟩ rfl) (by omega) (by omega)
  · (conv => whnf)
    (refine RetOK.d rfl rfl ?_; conv => whnf)
set_option maxHeartbeats 2000000 in
theorem eqLookup_v (x : TLookup) : PC Try.prog 11 [.d x.D, .d x.D] (.d (.bool true)) [] := by
  refine pc_intro ttOk (by kernel_rfl) Try.func11 rfl (by kernel_rfl) (by kernel_rfl) (by kernel_rfl) (fun hw => ?_)
  (conv => whnf)
  (repeat (refine stg_ ?_))
  split
  · rename_i q
    simp at q
  (conv => whnf)
  (repeat (refine stg_ ?_))
  (refine cl_ (eqRuleS_v x.fRules) ?_)
  (repeat (refine stg_ ?_))
  (repeat (refine stg_ ?_))
  (refine RetOK.d rfl rfl ?_; conv => whnf)

end Go.Proofs.Ytbnopcnlbcgdlaa
