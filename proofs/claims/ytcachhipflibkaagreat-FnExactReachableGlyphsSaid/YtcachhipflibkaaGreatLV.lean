/- The laws' own functions (sizes, copies, comparisons): what each returns. Written by a program (wip/tools/gen_lv.py). -/
import Derived.Test.YtcachhipflibkaaGreatLVBase
set_option linter.unusedSimpArgs false
set_option linter.unusedVariables false
namespace Go.Proofs.YtcachhipflibkaaGreat
open Go.RowKit
def zL {α : Type} (f : α → Nat) (xs : List α) : Nat := xs.length + (xs.map f).sum
def TAxis.V (x : TAxis) : V := .st [.d (.str x.fName), .d (.int .i64 x.fMin), .d (.int .i64 x.fDefault), .d (.int .i64 x.fMax), .own 1 0 x.fMap.length]
def TAxis.bs (x : TAxis) : List Blk := [.arr 2 (x.fMap.map TAxisPoint.D) true]
def TGlyphDelta.V (x : TGlyphDelta) : V := .st [.d (.int .i64 x.fGlyph), .own 1 0 x.fKnots.length, .own 2 0 x.fMoves.length, .d (.int .i64 x.fAdvance)]
def TGlyphDelta.bs (x : TGlyphDelta) : List Blk := [.arr 1 (x.fKnots.map (D.int .i64)) true, .arr 2 (x.fMoves.map TPt.D) true]
def TMaster.V (x : TMaster) : V := .st [.own 1 0 x.fPeaks.length, .own 2 0 x.fDeltas.length]
def TMaster.bs (x : TMaster) : List Blk := [.arr 3 (x.fPeaks.map TPeak.D) true, .arr 4 (x.fDeltas.map TGlyphDelta.D) true]
def TVariation.V (x : TVariation) : V := .st [.own 1 0 x.fAxes.length, .own 2 0 x.fMasters.length]
def TVariation.bs (x : TVariation) : List Blk := [.arr 5 (x.fAxes.map TAxis.D) true, .arr 2 (x.fMasters.map TMaster.D) true]
def TLoop.V (x : TLoop) : V := .st [.own 1 0 x.fKnots.length]
def TLoop.bs (x : TLoop) : List Blk := [.arr 3 (x.fKnots.map TKnot.D) true]
def TOutline.V (x : TOutline) : V := .st [.own 1 0 x.fLoops.length]
def TOutline.bs (x : TOutline) : List Blk := [.arr 1 (x.fLoops.map TLoop.D) true]
def zRule (x : TRule) : Nat := (zL List.length x.fBefore) + (zL List.length x.fInput) + (zL List.length x.fAfter) + x.fOutput.length
def TRule.V (x : TRule) : V := .st [.own 1 0 x.fBefore.length, .own 2 0 x.fInput.length, .own 3 0 x.fAfter.length, .own 4 0 x.fOutput.length]
def TRule.bs (x : TRule) : List Blk := [.arr 1 (x.fBefore.map (lstD (D.int .i64))) true, .arr 1 (x.fInput.map (lstD (D.int .i64))) true, .arr 1 (x.fAfter.map (lstD (D.int .i64))) true, .arr 1 (x.fOutput.map (D.int .i64)) true]
def zLookup (x : TLookup) : Nat := x.fName.size + (zL zRule x.fRules)
def TLookup.V (x : TLookup) : V := .st [.d (.str x.fName), .own 1 0 x.fRules.length]
def TLookup.bs (x : TLookup) : List Blk := [.arr 4 (x.fRules.map TRule.D) true]
def zKern (x : TKern) : Nat := x.fLeft.length + x.fRight.length
def TKern.V (x : TKern) : V := .st [.own 1 0 x.fLeft.length, .own 2 0 x.fRight.length, .d (.int .i64 x.fValue)]
def TKern.bs (x : TKern) : List Blk := [.arr 1 (x.fLeft.map (D.int .i64)) true, .arr 1 (x.fRight.map (D.int .i64)) true]
def zMarkRule (x : TMarkRule) : Nat := x.fMarks.length + x.fBases.length + x.fAnchor.size
def TMarkRule.V (x : TMarkRule) : V := .st [.own 1 0 x.fMarks.length, .own 2 0 x.fBases.length, .d (.str x.fAnchor)]
def TMarkRule.bs (x : TMarkRule) : List Blk := [.arr 1 (x.fMarks.map (D.int .i64)) true, .arr 1 (x.fBases.map (D.int .i64)) true]
def zFeatures (x : TFeatures) : Nat := (zL zLookup x.fLookups) + (zL zKern x.fKerns) + (zL zMarkRule x.fMarks) + x.fJoins.length
def TFeatures.V (x : TFeatures) : V := .st [.own 1 0 x.fLookups.length, .own 2 0 x.fKerns.length, .own 3 0 x.fMarks.length, .own 4 0 x.fJoins.length]
def TFeatures.bs (x : TFeatures) : List Blk := [.arr 2 (x.fLookups.map TLookup.D) true, .arr 3 (x.fKerns.map TKern.D) true, .arr 3 (x.fMarks.map TMarkRule.D) true, .arr 5 (x.fJoins.map TJoin.D) true]
def TGlyph.V (x : TGlyph) : V := .st [.d (.str x.fName), .d (.int .i64 x.fCode), .d (.int .i64 x.fAdvance), .st [.own 1 0 x.fOutline.fLoops.length], .own 2 0 x.fParts.length, .own 3 0 x.fAnchors.length, .d (.str x.fHints)]
def TGlyph.bs (x : TGlyph) : List Blk := [.arr 1 (x.fOutline.fLoops.map TLoop.D) true, .arr 3 (x.fParts.map TPart.D) true, .arr 3 (x.fAnchors.map TAnchor.D) true]
def TGlyphSet.V (x : TGlyphSet) : V := .st [.d (.int .i64 x.fUnit), .own 1 0 x.fGlyphs.length]
def TGlyphSet.bs (x : TGlyphSet) : List Blk := [.arr 7 (x.fGlyphs.map TGlyph.D) true]

set_option maxHeartbeats 2000000 in
theorem szInt64S_v (xs : List Int) (left : Int) (hl : left ≤ 1048576) (h0 : 0 ≤ left) : PC Tryz.prog 147 [.d (lstD (D.int .i64) xs), .d (.int .i64 left)] (.d (.int .i64 (szR left xs.length))) [] := by
  refine pc_intro ttOk (by kernel_rfl) Tryz.func147 rfl (by kernel_rfl) (by kernel_rfl) (by kernel_rfl) (fun hw => ?_)
  have hm : (xs.map (D.int .i64)).length ≤ maxLen := hw.1.1
  have hL : (xs.map (D.int .i64)).length = xs.length := by simp
  unfold maxLen at hm
  (conv => whnf)
  (repeat (refine stg_ ?_))
  split
  · rename_i h1
    have h1 := of_decide_eq_true h1
    (conv => whnf)
    (refine RetOK.d rfl rfl ?_; conv => whnf)
    rw [szR_gt (by omega)]
  rename_i h1
  have h1 := of_decide_eq_false h1
  (conv => whnf)
  (refine RetOK.d rfl rfl ?_; conv => whnf)
  rw [szR_le (by omega), hL]
theorem szInt64S_le (xs : List Int) (left : Int) (hl : left ≤ 1048576) (h0 : 0 ≤ left) (hz : ((xs.length : Nat) : Int) ≤ left) : PC Tryz.prog 147 [.d (lstD (D.int .i64) xs), .d (.int .i64 left)] (.d (.int .i64 (left - ((xs.length : Nat) : Int)))) [] := by
  have := szInt64S_v xs left hl h0
  rwa [szR_le hz] at this
theorem szInt64S_gt (xs : List Int) (left : Int) (hl : left ≤ 1048576) (h0 : 0 ≤ left) (hz : left < ((xs.length : Nat) : Int)) : PC Tryz.prog 147 [.d (lstD (D.int .i64) xs), .d (.int .i64 left)] (.d (.int .i64 (-1))) [] := by
  have := szInt64S_v xs left hl h0
  rwa [szR_gt hz] at this
set_option maxHeartbeats 2000000 in
theorem szInt64SS_v (xs : List (List Int)) (left : Int) (hl : left ≤ 1048576) (h0 : 0 ≤ left) : PC Tryz.prog 232 [.d (lstD (lstD (D.int .i64)) xs), .d (.int .i64 left)] (.d (.int .i64 (szR left (zL List.length xs)))) [] := by
  refine pc_intro ttOk (by kernel_rfl) Tryz.func232 rfl (by kernel_rfl) (by kernel_rfl) (by kernel_rfl) (fun hw => ?_)
  have hm : (xs.map (lstD (D.int .i64))).length ≤ maxLen := hw.1.1
  have hL : (xs.map (lstD (D.int .i64))).length = xs.length := by simp
  unfold maxLen at hm
  have hall := zSum_le_all List.length xs
  (conv => whnf)
  (repeat (refine stg_ ?_))
  split
  · rename_i h1
    have h1 := of_decide_eq_true h1
    (conv => whnf)
    (refine RetOK.d rfl rfl ?_; conv => whnf)
    rw [szR_gt (by simp only [zL]; omega)]
  rename_i h1
  have h1 := of_decide_eq_false h1
  (conv => whnf)
  refine LoopW.go (α := Nat) (fun k => [(0, .d (lstD (lstD (D.int .i64)) xs)), (1, .d (.int .i64 (left - (xs.map (lstD (D.int .i64))).length - (zSum List.length xs k : Nat)))), (5, .d (.int .i64 k))]) (fun k => [.gone]) (fun k => k ≤ xs.length ∧ (((xs.map (lstD (D.int .i64))).length + zSum List.length xs k : Nat) : Int) ≤ left) (fun k => xs.length - k) 0
    (Weak.cov ⟨rfl, by rw [zSum_zero]; show V.d (D.int .i64 _) = V.d (D.int .i64 _); congr 2; omega, rfl, trivial⟩ ⟨trivial, trivial⟩ rfl) ⟨Nat.zero_le _, by rw [zSum_zero]; omega⟩ (fun k hk => ?_)
  obtain ⟨hk, hk2⟩ := hk
  (conv => whnf)
  split
  · rename_i h2
    have h2 := of_decide_eq_true h2
    have h2 : k < xs.length := by omega
    obtain ⟨x, hx⟩ := at_lt h2
    have hs := zSum_succ List.length hx
    have ha := hall (k + 1)
    (conv => whnf)
    (repeat (refine stg_ ?_))
    by_cases q : ((x.length : Nat) : Int) ≤ (left - ((xs.map (lstD (D.int .i64))).length : Nat) - (zSum List.length xs k : Nat))
    rotate_left
    · (refine cl_ (szInt64S_gt x (left - ((xs.map (lstD (D.int .i64))).length : Nat) - (zSum List.length xs k : Nat)) (by omega) (by omega) (by omega)) ?_)
      (repeat (refine stg_ ?_))
      (refine RetOK.d rfl rfl ?_; conv => whnf)
      rw [szR_gt (by simp only [zL]; omega)]
    (refine cl_ (szInt64S_le x (left - ((xs.map (lstD (D.int .i64))).length : Nat) - (zSum List.length xs k : Nat)) (by omega) (by omega) q) ?_)
    (repeat (refine stg_ ?_))
    split
    · rename_i q2
      exact absurd (of_decide_eq_true q2) (by omega)
    (conv => whnf)
    (repeat (refine stg_ ?_))
    refine NextW.go (k + 1) (Weak.cov ⟨rfl, by show V.d (D.int .i64 _) = V.d (D.int .i64 _); rw [hs]; congr 2; omega, rfl, trivial⟩ ⟨trivial, trivial⟩ rfl) ⟨by omega, by omega⟩ (by omega)
  · rename_i h2
    have h2 := of_decide_eq_false h2
    obtain rfl : k = xs.length := by omega
    have ha := zSum_all List.length (Nat.le_refl xs.length)
    (conv => whnf)
    (refine RetOK.d rfl rfl ?_; conv => whnf)
    rw [szR_le (by simp only [zL]; omega)]
    congr 1 <;> ((simp only [zL]) <;> omega)
theorem szInt64SS_le (xs : List (List Int)) (left : Int) (hl : left ≤ 1048576) (h0 : 0 ≤ left) (hz : (((zL List.length xs) : Nat) : Int) ≤ left) : PC Tryz.prog 232 [.d (lstD (lstD (D.int .i64)) xs), .d (.int .i64 left)] (.d (.int .i64 (left - (((zL List.length xs) : Nat) : Int)))) [] := by
  have := szInt64SS_v xs left hl h0
  rwa [szR_le hz] at this
theorem szInt64SS_gt (xs : List (List Int)) (left : Int) (hl : left ≤ 1048576) (h0 : 0 ≤ left) (hz : left < (((zL List.length xs) : Nat) : Int)) : PC Tryz.prog 232 [.d (lstD (lstD (D.int .i64)) xs), .d (.int .i64 left)] (.d (.int .i64 (-1))) [] := by
  have := szInt64SS_v xs left hl h0
  rwa [szR_gt hz] at this
set_option maxHeartbeats 2000000 in
theorem szRule_v (x : TRule) (left : Int) (hl : left ≤ 1048576) (h0 : 0 ≤ left) : PC Tryz.prog 194 [.d x.D, .d (.int .i64 left)] (.d (.int .i64 (szR left (zRule x)))) [] := by
  refine pc_intro ttOk (by kernel_rfl) Tryz.func194 rfl (by kernel_rfl) (by kernel_rfl) (by kernel_rfl) (fun hw => ?_)
  (conv => whnf)
  by_cases g0 : (((zL List.length x.fBefore) : Nat) : Int) ≤ left
  rotate_left
  · (refine cl_ (szInt64SS_gt x.fBefore (left) (by omega) (by omega) (by omega)) ?_)
    (repeat (refine stg_ ?_))
    (refine RetOK.d rfl rfl ?_; conv => whnf)
    rw [szR_gt (by simp only [zRule]; omega)]
  (refine cl_ (szInt64SS_le x.fBefore (left) (by omega) (by omega) g0) ?_)
  (repeat (refine stg_ ?_))
  split
  · rename_i q
    exact absurd (of_decide_eq_true q) (by omega)
  (conv => whnf)
  by_cases g1 : (((zL List.length x.fInput) : Nat) : Int) ≤ (left - (((zL List.length x.fBefore) : Nat) : Int))
  rotate_left
  · (refine cl_ (szInt64SS_gt x.fInput ((left - (((zL List.length x.fBefore) : Nat) : Int))) (by omega) (by omega) (by omega)) ?_)
    (repeat (refine stg_ ?_))
    (refine RetOK.d rfl rfl ?_; conv => whnf)
    rw [szR_gt (by simp only [zRule]; omega)]
  (refine cl_ (szInt64SS_le x.fInput ((left - (((zL List.length x.fBefore) : Nat) : Int))) (by omega) (by omega) g1) ?_)
  (repeat (refine stg_ ?_))
  split
  · rename_i q
    exact absurd (of_decide_eq_true q) (by omega)
  (conv => whnf)
  by_cases g2 : (((zL List.length x.fAfter) : Nat) : Int) ≤ ((left - (((zL List.length x.fBefore) : Nat) : Int)) - (((zL List.length x.fInput) : Nat) : Int))
  rotate_left
  · (refine cl_ (szInt64SS_gt x.fAfter (((left - (((zL List.length x.fBefore) : Nat) : Int)) - (((zL List.length x.fInput) : Nat) : Int))) (by omega) (by omega) (by omega)) ?_)
    (repeat (refine stg_ ?_))
    (refine RetOK.d rfl rfl ?_; conv => whnf)
    rw [szR_gt (by simp only [zRule]; omega)]
  (refine cl_ (szInt64SS_le x.fAfter (((left - (((zL List.length x.fBefore) : Nat) : Int)) - (((zL List.length x.fInput) : Nat) : Int))) (by omega) (by omega) g2) ?_)
  (repeat (refine stg_ ?_))
  split
  · rename_i q
    exact absurd (of_decide_eq_true q) (by omega)
  (conv => whnf)
  by_cases g3 : ((x.fOutput.length : Nat) : Int) ≤ (((left - (((zL List.length x.fBefore) : Nat) : Int)) - (((zL List.length x.fInput) : Nat) : Int)) - (((zL List.length x.fAfter) : Nat) : Int))
  rotate_left
  · (refine cl_ (szInt64S_gt x.fOutput ((((left - (((zL List.length x.fBefore) : Nat) : Int)) - (((zL List.length x.fInput) : Nat) : Int)) - (((zL List.length x.fAfter) : Nat) : Int))) (by omega) (by omega) (by omega)) ?_)
    (repeat (refine stg_ ?_))
    (refine RetOK.d rfl rfl ?_; conv => whnf)
    rw [szR_gt (by simp only [zRule]; omega)]
  (refine cl_ (szInt64S_le x.fOutput ((((left - (((zL List.length x.fBefore) : Nat) : Int)) - (((zL List.length x.fInput) : Nat) : Int)) - (((zL List.length x.fAfter) : Nat) : Int))) (by omega) (by omega) g3) ?_)
  (repeat (refine stg_ ?_))
  split
  · rename_i q
    exact absurd (of_decide_eq_true q) (by omega)
  (conv => whnf)
  (refine RetOK.d rfl rfl ?_; conv => whnf)
  rw [szR_le (by simp only [zRule]; omega)]
  congr 1 <;> ((simp only [zRule]) <;> omega)
theorem szRule_le (x : TRule) (left : Int) (hl : left ≤ 1048576) (h0 : 0 ≤ left) (hz : (((zRule x) : Nat) : Int) ≤ left) : PC Tryz.prog 194 [.d x.D, .d (.int .i64 left)] (.d (.int .i64 (left - (((zRule x) : Nat) : Int)))) [] := by
  have := szRule_v x left hl h0
  rwa [szR_le hz] at this
theorem szRule_gt (x : TRule) (left : Int) (hl : left ≤ 1048576) (h0 : 0 ≤ left) (hz : left < (((zRule x) : Nat) : Int)) : PC Tryz.prog 194 [.d x.D, .d (.int .i64 left)] (.d (.int .i64 (-1))) [] := by
  have := szRule_v x left hl h0
  rwa [szR_gt hz] at this
set_option maxHeartbeats 2000000 in
theorem szRuleS_v (xs : List TRule) (left : Int) (hl : left ≤ 1048576) (h0 : 0 ≤ left) : PC Tryz.prog 146 [.d (lstD TRule.D xs), .d (.int .i64 left)] (.d (.int .i64 (szR left (zL zRule xs)))) [] := by
  refine pc_intro ttOk (by kernel_rfl) Tryz.func146 rfl (by kernel_rfl) (by kernel_rfl) (by kernel_rfl) (fun hw => ?_)
  have hm : (xs.map TRule.D).length ≤ maxLen := hw.1.1
  have hL : (xs.map TRule.D).length = xs.length := by simp
  unfold maxLen at hm
  have hall := zSum_le_all zRule xs
  (conv => whnf)
  (repeat (refine stg_ ?_))
  split
  · rename_i h1
    have h1 := of_decide_eq_true h1
    (conv => whnf)
    (refine RetOK.d rfl rfl ?_; conv => whnf)
    rw [szR_gt (by simp only [zL]; omega)]
  rename_i h1
  have h1 := of_decide_eq_false h1
  (conv => whnf)
  refine LoopW.go (α := Nat) (fun k => [(0, .d (lstD TRule.D xs)), (1, .d (.int .i64 (left - (xs.map TRule.D).length - (zSum zRule xs k : Nat)))), (5, .d (.int .i64 k))]) (fun k => [.gone]) (fun k => k ≤ xs.length ∧ (((xs.map TRule.D).length + zSum zRule xs k : Nat) : Int) ≤ left) (fun k => xs.length - k) 0
    (Weak.cov ⟨rfl, by rw [zSum_zero]; show V.d (D.int .i64 _) = V.d (D.int .i64 _); congr 2; omega, rfl, trivial⟩ ⟨trivial, trivial⟩ rfl) ⟨Nat.zero_le _, by rw [zSum_zero]; omega⟩ (fun k hk => ?_)
  obtain ⟨hk, hk2⟩ := hk
  (conv => whnf)
  split
  · rename_i h2
    have h2 := of_decide_eq_true h2
    have h2 : k < xs.length := by omega
    obtain ⟨x, hx⟩ := at_lt h2
    have hs := zSum_succ zRule hx
    have ha := hall (k + 1)
    (conv => whnf)
    (repeat (refine stg_ ?_))
    by_cases q : (((zRule x) : Nat) : Int) ≤ (left - ((xs.map TRule.D).length : Nat) - (zSum zRule xs k : Nat))
    rotate_left
    · (refine cl_ (szRule_gt x (left - ((xs.map TRule.D).length : Nat) - (zSum zRule xs k : Nat)) (by omega) (by omega) (by omega)) ?_)
      (repeat (refine stg_ ?_))
      (refine RetOK.d rfl rfl ?_; conv => whnf)
      rw [szR_gt (by simp only [zL]; omega)]
    (refine cl_ (szRule_le x (left - ((xs.map TRule.D).length : Nat) - (zSum zRule xs k : Nat)) (by omega) (by omega) q) ?_)
    (repeat (refine stg_ ?_))
    split
    · rename_i q2
      exact absurd (of_decide_eq_true q2) (by omega)
    (conv => whnf)
    (repeat (refine stg_ ?_))
    refine NextW.go (k + 1) (Weak.cov ⟨rfl, by show V.d (D.int .i64 _) = V.d (D.int .i64 _); rw [hs]; congr 2; omega, rfl, trivial⟩ ⟨trivial, trivial⟩ rfl) ⟨by omega, by omega⟩ (by omega)
  · rename_i h2
    have h2 := of_decide_eq_false h2
    obtain rfl : k = xs.length := by omega
    have ha := zSum_all zRule (Nat.le_refl xs.length)
    (conv => whnf)
    (refine RetOK.d rfl rfl ?_; conv => whnf)
    rw [szR_le (by simp only [zL]; omega)]
    congr 1 <;> ((simp only [zL]) <;> omega)
theorem szRuleS_le (xs : List TRule) (left : Int) (hl : left ≤ 1048576) (h0 : 0 ≤ left) (hz : (((zL zRule xs) : Nat) : Int) ≤ left) : PC Tryz.prog 146 [.d (lstD TRule.D xs), .d (.int .i64 left)] (.d (.int .i64 (left - (((zL zRule xs) : Nat) : Int)))) [] := by
  have := szRuleS_v xs left hl h0
  rwa [szR_le hz] at this
theorem szRuleS_gt (xs : List TRule) (left : Int) (hl : left ≤ 1048576) (h0 : 0 ≤ left) (hz : left < (((zL zRule xs) : Nat) : Int)) : PC Tryz.prog 146 [.d (lstD TRule.D xs), .d (.int .i64 left)] (.d (.int .i64 (-1))) [] := by
  have := szRuleS_v xs left hl h0
  rwa [szR_gt hz] at this
set_option maxHeartbeats 2000000 in
theorem szLookup_v (x : TLookup) (left : Int) (hl : left ≤ 1048576) (h0 : 0 ≤ left) : PC Tryz.prog 91 [.d x.D, .d (.int .i64 left)] (.d (.int .i64 (szR left (zLookup x)))) [] := by
  refine pc_intro ttOk (by kernel_rfl) Tryz.func91 rfl (by kernel_rfl) (by kernel_rfl) (by kernel_rfl) (fun hw => ?_)
  have hm0 : x.fName.size ≤ maxLen := hw.1.1
  unfold maxLen at hm0
  (conv => whnf)
  (repeat (refine stg_ ?_))
  split
  · rename_i g0
    have g0 := of_decide_eq_true g0
    (conv => whnf)
    (refine RetOK.d rfl rfl ?_; conv => whnf)
    rw [szR_gt (by simp only [zLookup]; omega)]
  rename_i g0
  have g0 := of_decide_eq_false g0
  (conv => whnf)
  by_cases g1 : (((zL zRule x.fRules) : Nat) : Int) ≤ (left - ((x.fName.size : Nat) : Int))
  rotate_left
  · (refine cl_ (szRuleS_gt x.fRules ((left - ((x.fName.size : Nat) : Int))) (by omega) (by omega) (by omega)) ?_)
    (repeat (refine stg_ ?_))
    (refine RetOK.d rfl rfl ?_; conv => whnf)
    rw [szR_gt (by simp only [zLookup]; omega)]
  (refine cl_ (szRuleS_le x.fRules ((left - ((x.fName.size : Nat) : Int))) (by omega) (by omega) g1) ?_)
  (repeat (refine stg_ ?_))
  split
  · rename_i q
    exact absurd (of_decide_eq_true q) (by omega)
  (conv => whnf)
  (refine RetOK.d rfl rfl ?_; conv => whnf)
  rw [szR_le (by simp only [zLookup]; omega)]
  congr 1 <;> ((simp only [zLookup]) <;> omega)
theorem szLookup_le (x : TLookup) (left : Int) (hl : left ≤ 1048576) (h0 : 0 ≤ left) (hz : (((zLookup x) : Nat) : Int) ≤ left) : PC Tryz.prog 91 [.d x.D, .d (.int .i64 left)] (.d (.int .i64 (left - (((zLookup x) : Nat) : Int)))) [] := by
  have := szLookup_v x left hl h0
  rwa [szR_le hz] at this
theorem szLookup_gt (x : TLookup) (left : Int) (hl : left ≤ 1048576) (h0 : 0 ≤ left) (hz : left < (((zLookup x) : Nat) : Int)) : PC Tryz.prog 91 [.d x.D, .d (.int .i64 left)] (.d (.int .i64 (-1))) [] := by
  have := szLookup_v x left hl h0
  rwa [szR_gt hz] at this
set_option maxHeartbeats 2000000 in
theorem szLookupS_v (xs : List TLookup) (left : Int) (hl : left ≤ 1048576) (h0 : 0 ≤ left) : PC Tryz.prog 38 [.d (lstD TLookup.D xs), .d (.int .i64 left)] (.d (.int .i64 (szR left (zL zLookup xs)))) [] := by
  refine pc_intro ttOk (by kernel_rfl) Tryz.func38 rfl (by kernel_rfl) (by kernel_rfl) (by kernel_rfl) (fun hw => ?_)
  have hm : (xs.map TLookup.D).length ≤ maxLen := hw.1.1
  have hL : (xs.map TLookup.D).length = xs.length := by simp
  unfold maxLen at hm
  have hall := zSum_le_all zLookup xs
  (conv => whnf)
  (repeat (refine stg_ ?_))
  split
  · rename_i h1
    have h1 := of_decide_eq_true h1
    (conv => whnf)
    (refine RetOK.d rfl rfl ?_; conv => whnf)
    rw [szR_gt (by simp only [zL]; omega)]
  rename_i h1
  have h1 := of_decide_eq_false h1
  (conv => whnf)
  refine LoopW.go (α := Nat) (fun k => [(0, .d (lstD TLookup.D xs)), (1, .d (.int .i64 (left - (xs.map TLookup.D).length - (zSum zLookup xs k : Nat)))), (5, .d (.int .i64 k))]) (fun k => [.gone]) (fun k => k ≤ xs.length ∧ (((xs.map TLookup.D).length + zSum zLookup xs k : Nat) : Int) ≤ left) (fun k => xs.length - k) 0
    (Weak.cov ⟨rfl, by rw [zSum_zero]; show V.d (D.int .i64 _) = V.d (D.int .i64 _); congr 2; omega, rfl, trivial⟩ ⟨trivial, trivial⟩ rfl) ⟨Nat.zero_le _, by rw [zSum_zero]; omega⟩ (fun k hk => ?_)
  obtain ⟨hk, hk2⟩ := hk
  (conv => whnf)
  split
  · rename_i h2
    have h2 := of_decide_eq_true h2
    have h2 : k < xs.length := by omega
    obtain ⟨x, hx⟩ := at_lt h2
    have hs := zSum_succ zLookup hx
    have ha := hall (k + 1)
    (conv => whnf)
    (repeat (refine stg_ ?_))
    by_cases q : (((zLookup x) : Nat) : Int) ≤ (left - ((xs.map TLookup.D).length : Nat) - (zSum zLookup xs k : Nat))
    rotate_left
    · (refine cl_ (szLookup_gt x (left - ((xs.map TLookup.D).length : Nat) - (zSum zLookup xs k : Nat)) (by omega) (by omega) (by omega)) ?_)
      (repeat (refine stg_ ?_))
      (refine RetOK.d rfl rfl ?_; conv => whnf)
      rw [szR_gt (by simp only [zL]; omega)]
    (refine cl_ (szLookup_le x (left - ((xs.map TLookup.D).length : Nat) - (zSum zLookup xs k : Nat)) (by omega) (by omega) q) ?_)
    (repeat (refine stg_ ?_))
    split
    · rename_i q2
      exact absurd (of_decide_eq_true q2) (by omega)
    (conv => whnf)
    (repeat (refine stg_ ?_))
    refine NextW.go (k + 1) (Weak.cov ⟨rfl, by show V.d (D.int .i64 _) = V.d (D.int .i64 _); rw [hs]; congr 2; omega, rfl, trivial⟩ ⟨trivial, trivial⟩ rfl) ⟨by omega, by omega⟩ (by omega)
  · rename_i h2
    have h2 := of_decide_eq_false h2
    obtain rfl : k = xs.length := by omega
    have ha := zSum_all zLookup (Nat.le_refl xs.length)
    (conv => whnf)
    (refine RetOK.d rfl rfl ?_; conv => whnf)
    rw [szR_le (by simp only [zL]; omega)]
    congr 1 <;> ((simp only [zL]) <;> omega)
theorem szLookupS_le (xs : List TLookup) (left : Int) (hl : left ≤ 1048576) (h0 : 0 ≤ left) (hz : (((zL zLookup xs) : Nat) : Int) ≤ left) : PC Tryz.prog 38 [.d (lstD TLookup.D xs), .d (.int .i64 left)] (.d (.int .i64 (left - (((zL zLookup xs) : Nat) : Int)))) [] := by
  have := szLookupS_v xs left hl h0
  rwa [szR_le hz] at this
theorem szLookupS_gt (xs : List TLookup) (left : Int) (hl : left ≤ 1048576) (h0 : 0 ≤ left) (hz : left < (((zL zLookup xs) : Nat) : Int)) : PC Tryz.prog 38 [.d (lstD TLookup.D xs), .d (.int .i64 left)] (.d (.int .i64 (-1))) [] := by
  have := szLookupS_v xs left hl h0
  rwa [szR_gt hz] at this
set_option maxHeartbeats 2000000 in
theorem szKern_v (x : TKern) (left : Int) (hl : left ≤ 1048576) (h0 : 0 ≤ left) : PC Tryz.prog 92 [.d x.D, .d (.int .i64 left)] (.d (.int .i64 (szR left (zKern x)))) [] := by
  refine pc_intro ttOk (by kernel_rfl) Tryz.func92 rfl (by kernel_rfl) (by kernel_rfl) (by kernel_rfl) (fun hw => ?_)
  (conv => whnf)
  by_cases g0 : ((x.fLeft.length : Nat) : Int) ≤ left
  rotate_left
  · (refine cl_ (szInt64S_gt x.fLeft (left) (by omega) (by omega) (by omega)) ?_)
    (repeat (refine stg_ ?_))
    (refine RetOK.d rfl rfl ?_; conv => whnf)
    rw [szR_gt (by simp only [zKern]; omega)]
  (refine cl_ (szInt64S_le x.fLeft (left) (by omega) (by omega) g0) ?_)
  (repeat (refine stg_ ?_))
  split
  · rename_i q
    exact absurd (of_decide_eq_true q) (by omega)
  (conv => whnf)
  by_cases g1 : ((x.fRight.length : Nat) : Int) ≤ (left - ((x.fLeft.length : Nat) : Int))
  rotate_left
  · (refine cl_ (szInt64S_gt x.fRight ((left - ((x.fLeft.length : Nat) : Int))) (by omega) (by omega) (by omega)) ?_)
    (repeat (refine stg_ ?_))
    (refine RetOK.d rfl rfl ?_; conv => whnf)
    rw [szR_gt (by simp only [zKern]; omega)]
  (refine cl_ (szInt64S_le x.fRight ((left - ((x.fLeft.length : Nat) : Int))) (by omega) (by omega) g1) ?_)
  (repeat (refine stg_ ?_))
  split
  · rename_i q
    exact absurd (of_decide_eq_true q) (by omega)
  (conv => whnf)
  (refine RetOK.d rfl rfl ?_; conv => whnf)
  rw [szR_le (by simp only [zKern]; omega)]
  congr 1 <;> ((simp only [zKern]) <;> omega)
theorem szKern_le (x : TKern) (left : Int) (hl : left ≤ 1048576) (h0 : 0 ≤ left) (hz : (((zKern x) : Nat) : Int) ≤ left) : PC Tryz.prog 92 [.d x.D, .d (.int .i64 left)] (.d (.int .i64 (left - (((zKern x) : Nat) : Int)))) [] := by
  have := szKern_v x left hl h0
  rwa [szR_le hz] at this
theorem szKern_gt (x : TKern) (left : Int) (hl : left ≤ 1048576) (h0 : 0 ≤ left) (hz : left < (((zKern x) : Nat) : Int)) : PC Tryz.prog 92 [.d x.D, .d (.int .i64 left)] (.d (.int .i64 (-1))) [] := by
  have := szKern_v x left hl h0
  rwa [szR_gt hz] at this
set_option maxHeartbeats 2000000 in
theorem szKernS_v (xs : List TKern) (left : Int) (hl : left ≤ 1048576) (h0 : 0 ≤ left) : PC Tryz.prog 39 [.d (lstD TKern.D xs), .d (.int .i64 left)] (.d (.int .i64 (szR left (zL zKern xs)))) [] := by
  refine pc_intro ttOk (by kernel_rfl) Tryz.func39 rfl (by kernel_rfl) (by kernel_rfl) (by kernel_rfl) (fun hw => ?_)
  have hm : (xs.map TKern.D).length ≤ maxLen := hw.1.1
  have hL : (xs.map TKern.D).length = xs.length := by simp
  unfold maxLen at hm
  have hall := zSum_le_all zKern xs
  (conv => whnf)
  (repeat (refine stg_ ?_))
  split
  · rename_i h1
    have h1 := of_decide_eq_true h1
    (conv => whnf)
    (refine RetOK.d rfl rfl ?_; conv => whnf)
    rw [szR_gt (by simp only [zL]; omega)]
  rename_i h1
  have h1 := of_decide_eq_false h1
  (conv => whnf)
  refine LoopW.go (α := Nat) (fun k => [(0, .d (lstD TKern.D xs)), (1, .d (.int .i64 (left - (xs.map TKern.D).length - (zSum zKern xs k : Nat)))), (5, .d (.int .i64 k))]) (fun k => [.gone]) (fun k => k ≤ xs.length ∧ (((xs.map TKern.D).length + zSum zKern xs k : Nat) : Int) ≤ left) (fun k => xs.length - k) 0
    (Weak.cov ⟨rfl, by rw [zSum_zero]; show V.d (D.int .i64 _) = V.d (D.int .i64 _); congr 2; omega, rfl, trivial⟩ ⟨trivial, trivial⟩ rfl) ⟨Nat.zero_le _, by rw [zSum_zero]; omega⟩ (fun k hk => ?_)
  obtain ⟨hk, hk2⟩ := hk
  (conv => whnf)
  split
  · rename_i h2
    have h2 := of_decide_eq_true h2
    have h2 : k < xs.length := by omega
    obtain ⟨x, hx⟩ := at_lt h2
    have hs := zSum_succ zKern hx
    have ha := hall (k + 1)
    (conv => whnf)
    (repeat (refine stg_ ?_))
    by_cases q : (((zKern x) : Nat) : Int) ≤ (left - ((xs.map TKern.D).length : Nat) - (zSum zKern xs k : Nat))
    rotate_left
    · (refine cl_ (szKern_gt x (left - ((xs.map TKern.D).length : Nat) - (zSum zKern xs k : Nat)) (by omega) (by omega) (by omega)) ?_)
      (repeat (refine stg_ ?_))
      (refine RetOK.d rfl rfl ?_; conv => whnf)
      rw [szR_gt (by simp only [zL]; omega)]
    (refine cl_ (szKern_le x (left - ((xs.map TKern.D).length : Nat) - (zSum zKern xs k : Nat)) (by omega) (by omega) q) ?_)
    (repeat (refine stg_ ?_))
    split
    · rename_i q2
      exact absurd (of_decide_eq_true q2) (by omega)
    (conv => whnf)
    (repeat (refine stg_ ?_))
    refine NextW.go (k + 1) (Weak.cov ⟨rfl, by show V.d (D.int .i64 _) = V.d (D.int .i64 _); rw [hs]; congr 2; omega, rfl, trivial⟩ ⟨trivial, trivial⟩ rfl) ⟨by omega, by omega⟩ (by omega)
  · rename_i h2
    have h2 := of_decide_eq_false h2
    obtain rfl : k = xs.length := by omega
    have ha := zSum_all zKern (Nat.le_refl xs.length)
    (conv => whnf)
    (refine RetOK.d rfl rfl ?_; conv => whnf)
    rw [szR_le (by simp only [zL]; omega)]
    congr 1 <;> ((simp only [zL]) <;> omega)
theorem szKernS_le (xs : List TKern) (left : Int) (hl : left ≤ 1048576) (h0 : 0 ≤ left) (hz : (((zL zKern xs) : Nat) : Int) ≤ left) : PC Tryz.prog 39 [.d (lstD TKern.D xs), .d (.int .i64 left)] (.d (.int .i64 (left - (((zL zKern xs) : Nat) : Int)))) [] := by
  have := szKernS_v xs left hl h0
  rwa [szR_le hz] at this
theorem szKernS_gt (xs : List TKern) (left : Int) (hl : left ≤ 1048576) (h0 : 0 ≤ left) (hz : left < (((zL zKern xs) : Nat) : Int)) : PC Tryz.prog 39 [.d (lstD TKern.D xs), .d (.int .i64 left)] (.d (.int .i64 (-1))) [] := by
  have := szKernS_v xs left hl h0
  rwa [szR_gt hz] at this
set_option maxHeartbeats 2000000 in
theorem szMarkRule_v (x : TMarkRule) (left : Int) (hl : left ≤ 1048576) (h0 : 0 ≤ left) : PC Tryz.prog 93 [.d x.D, .d (.int .i64 left)] (.d (.int .i64 (szR left (zMarkRule x)))) [] := by
  refine pc_intro ttOk (by kernel_rfl) Tryz.func93 rfl (by kernel_rfl) (by kernel_rfl) (by kernel_rfl) (fun hw => ?_)
  have hm2 : x.fAnchor.size ≤ maxLen := hw.1.2.2.1
  unfold maxLen at hm2
  (conv => whnf)
  by_cases g0 : ((x.fMarks.length : Nat) : Int) ≤ left
  rotate_left
  · (refine cl_ (szInt64S_gt x.fMarks (left) (by omega) (by omega) (by omega)) ?_)
    (repeat (refine stg_ ?_))
    (refine RetOK.d rfl rfl ?_; conv => whnf)
    rw [szR_gt (by simp only [zMarkRule]; omega)]
  (refine cl_ (szInt64S_le x.fMarks (left) (by omega) (by omega) g0) ?_)
  (repeat (refine stg_ ?_))
  split
  · rename_i q
    exact absurd (of_decide_eq_true q) (by omega)
  (conv => whnf)
  by_cases g1 : ((x.fBases.length : Nat) : Int) ≤ (left - ((x.fMarks.length : Nat) : Int))
  rotate_left
  · (refine cl_ (szInt64S_gt x.fBases ((left - ((x.fMarks.length : Nat) : Int))) (by omega) (by omega) (by omega)) ?_)
    (repeat (refine stg_ ?_))
    (refine RetOK.d rfl rfl ?_; conv => whnf)
    rw [szR_gt (by simp only [zMarkRule]; omega)]
  (refine cl_ (szInt64S_le x.fBases ((left - ((x.fMarks.length : Nat) : Int))) (by omega) (by omega) g1) ?_)
  (repeat (refine stg_ ?_))
  split
  · rename_i q
    exact absurd (of_decide_eq_true q) (by omega)
  (conv => whnf)
  (repeat (refine stg_ ?_))
  split
  · rename_i g2
    have g2 := of_decide_eq_true g2
    (conv => whnf)
    (refine RetOK.d rfl rfl ?_; conv => whnf)
    rw [szR_gt (by simp only [zMarkRule]; omega)]
  rename_i g2
  have g2 := of_decide_eq_false g2
  (conv => whnf)
  (refine RetOK.d rfl rfl ?_; conv => whnf)
  rw [szR_le (by simp only [zMarkRule]; omega)]
  congr 1 <;> ((simp only [zMarkRule]) <;> omega)
theorem szMarkRule_le (x : TMarkRule) (left : Int) (hl : left ≤ 1048576) (h0 : 0 ≤ left) (hz : (((zMarkRule x) : Nat) : Int) ≤ left) : PC Tryz.prog 93 [.d x.D, .d (.int .i64 left)] (.d (.int .i64 (left - (((zMarkRule x) : Nat) : Int)))) [] := by
  have := szMarkRule_v x left hl h0
  rwa [szR_le hz] at this
theorem szMarkRule_gt (x : TMarkRule) (left : Int) (hl : left ≤ 1048576) (h0 : 0 ≤ left) (hz : left < (((zMarkRule x) : Nat) : Int)) : PC Tryz.prog 93 [.d x.D, .d (.int .i64 left)] (.d (.int .i64 (-1))) [] := by
  have := szMarkRule_v x left hl h0
  rwa [szR_gt hz] at this
set_option maxHeartbeats 2000000 in
theorem szMarkRuleS_v (xs : List TMarkRule) (left : Int) (hl : left ≤ 1048576) (h0 : 0 ≤ left) : PC Tryz.prog 40 [.d (lstD TMarkRule.D xs), .d (.int .i64 left)] (.d (.int .i64 (szR left (zL zMarkRule xs)))) [] := by
  refine pc_intro ttOk (by kernel_rfl) Tryz.func40 rfl (by kernel_rfl) (by kernel_rfl) (by kernel_rfl) (fun hw => ?_)
  have hm : (xs.map TMarkRule.D).length ≤ maxLen := hw.1.1
  have hL : (xs.map TMarkRule.D).length = xs.length := by simp
  unfold maxLen at hm
  have hall := zSum_le_all zMarkRule xs
  (conv => whnf)
  (repeat (refine stg_ ?_))
  split
  · rename_i h1
    have h1 := of_decide_eq_true h1
    (conv => whnf)
    (refine RetOK.d rfl rfl ?_; conv => whnf)
    rw [szR_gt (by simp only [zL]; omega)]
  rename_i h1
  have h1 := of_decide_eq_false h1
  (conv => whnf)
  refine LoopW.go (α := Nat) (fun k => [(0, .d (lstD TMarkRule.D xs)), (1, .d (.int .i64 (left - (xs.map TMarkRule.D).length - (zSum zMarkRule xs k : Nat)))), (5, .d (.int .i64 k))]) (fun k => [.gone]) (fun k => k ≤ xs.length ∧ (((xs.map TMarkRule.D).length + zSum zMarkRule xs k : Nat) : Int) ≤ left) (fun k => xs.length - k) 0
    (Weak.cov ⟨rfl, by rw [zSum_zero]; show V.d (D.int .i64 _) = V.d (D.int .i64 _); congr 2; omega, rfl, trivial⟩ ⟨trivial, trivial⟩ rfl) ⟨Nat.zero_le _, by rw [zSum_zero]; omega⟩ (fun k hk => ?_)
  obtain ⟨hk, hk2⟩ := hk
  (conv => whnf)
  split
  · rename_i h2
    have h2 := of_decide_eq_true h2
    have h2 : k < xs.length := by omega
    obtain ⟨x, hx⟩ := at_lt h2
    have hs := zSum_succ zMarkRule hx
    have ha := hall (k + 1)
    (conv => whnf)
    (repeat (refine stg_ ?_))
    by_cases q : (((zMarkRule x) : Nat) : Int) ≤ (left - ((xs.map TMarkRule.D).length : Nat) - (zSum zMarkRule xs k : Nat))
    rotate_left
    · (refine cl_ (szMarkRule_gt x (left - ((xs.map TMarkRule.D).length : Nat) - (zSum zMarkRule xs k : Nat)) (by omega) (by omega) (by omega)) ?_)
      (repeat (refine stg_ ?_))
      (refine RetOK.d rfl rfl ?_; conv => whnf)
      rw [szR_gt (by simp only [zL]; omega)]
    (refine cl_ (szMarkRule_le x (left - ((xs.map TMarkRule.D).length : Nat) - (zSum zMarkRule xs k : Nat)) (by omega) (by omega) q) ?_)
    (repeat (refine stg_ ?_))
    split
    · rename_i q2
      exact absurd (of_decide_eq_true q2) (by omega)
    (conv => whnf)
    (repeat (refine stg_ ?_))
    refine NextW.go (k + 1) (Weak.cov ⟨rfl, by show V.d (D.int .i64 _) = V.d (D.int .i64 _); rw [hs]; congr 2; omega, rfl, trivial⟩ ⟨trivial, trivial⟩ rfl) ⟨by omega, by omega⟩ (by omega)
  · rename_i h2
    have h2 := of_decide_eq_false h2
    obtain rfl : k = xs.length := by omega
    have ha := zSum_all zMarkRule (Nat.le_refl xs.length)
    (conv => whnf)
    (refine RetOK.d rfl rfl ?_; conv => whnf)
    rw [szR_le (by simp only [zL]; omega)]
    congr 1 <;> ((simp only [zL]) <;> omega)
theorem szMarkRuleS_le (xs : List TMarkRule) (left : Int) (hl : left ≤ 1048576) (h0 : 0 ≤ left) (hz : (((zL zMarkRule xs) : Nat) : Int) ≤ left) : PC Tryz.prog 40 [.d (lstD TMarkRule.D xs), .d (.int .i64 left)] (.d (.int .i64 (left - (((zL zMarkRule xs) : Nat) : Int)))) [] := by
  have := szMarkRuleS_v xs left hl h0
  rwa [szR_le hz] at this
theorem szMarkRuleS_gt (xs : List TMarkRule) (left : Int) (hl : left ≤ 1048576) (h0 : 0 ≤ left) (hz : left < (((zL zMarkRule xs) : Nat) : Int)) : PC Tryz.prog 40 [.d (lstD TMarkRule.D xs), .d (.int .i64 left)] (.d (.int .i64 (-1))) [] := by
  have := szMarkRuleS_v xs left hl h0
  rwa [szR_gt hz] at this
set_option maxHeartbeats 2000000 in
theorem szJoinS_v (xs : List TJoin) (left : Int) (hl : left ≤ 1048576) (h0 : 0 ≤ left) : PC Tryz.prog 41 [.d (lstD TJoin.D xs), .d (.int .i64 left)] (.d (.int .i64 (szR left xs.length))) [] := by
  refine pc_intro ttOk (by kernel_rfl) Tryz.func41 rfl (by kernel_rfl) (by kernel_rfl) (by kernel_rfl) (fun hw => ?_)
  have hm : (xs.map TJoin.D).length ≤ maxLen := hw.1.1
  have hL : (xs.map TJoin.D).length = xs.length := by simp
  unfold maxLen at hm
  (conv => whnf)
  (repeat (refine stg_ ?_))
  split
  · rename_i h1
    have h1 := of_decide_eq_true h1
    (conv => whnf)
    (refine RetOK.d rfl rfl ?_; conv => whnf)
    rw [szR_gt (by omega)]
  rename_i h1
  have h1 := of_decide_eq_false h1
  (conv => whnf)
  (refine RetOK.d rfl rfl ?_; conv => whnf)
  rw [szR_le (by omega), hL]
theorem szJoinS_le (xs : List TJoin) (left : Int) (hl : left ≤ 1048576) (h0 : 0 ≤ left) (hz : ((xs.length : Nat) : Int) ≤ left) : PC Tryz.prog 41 [.d (lstD TJoin.D xs), .d (.int .i64 left)] (.d (.int .i64 (left - ((xs.length : Nat) : Int)))) [] := by
  have := szJoinS_v xs left hl h0
  rwa [szR_le hz] at this
theorem szJoinS_gt (xs : List TJoin) (left : Int) (hl : left ≤ 1048576) (h0 : 0 ≤ left) (hz : left < ((xs.length : Nat) : Int)) : PC Tryz.prog 41 [.d (lstD TJoin.D xs), .d (.int .i64 left)] (.d (.int .i64 (-1))) [] := by
  have := szJoinS_v xs left hl h0
  rwa [szR_gt hz] at this
set_option maxHeartbeats 2000000 in
theorem szFeatures_v (x : TFeatures) (left : Int) (hl : left ≤ 1048576) (h0 : 0 ≤ left) : PC Tryz.prog 8 [.d x.D, .d (.int .i64 left)] (.d (.int .i64 (szR left (zFeatures x)))) [] := by
  refine pc_intro ttOk (by kernel_rfl) Tryz.func8 rfl (by kernel_rfl) (by kernel_rfl) (by kernel_rfl) (fun hw => ?_)
  (conv => whnf)
  by_cases g0 : (((zL zLookup x.fLookups) : Nat) : Int) ≤ left
  rotate_left
  · (refine cl_ (szLookupS_gt x.fLookups (left) (by omega) (by omega) (by omega)) ?_)
    (repeat (refine stg_ ?_))
    (refine RetOK.d rfl rfl ?_; conv => whnf)
    rw [szR_gt (by simp only [zFeatures]; omega)]
  (refine cl_ (szLookupS_le x.fLookups (left) (by omega) (by omega) g0) ?_)
  (repeat (refine stg_ ?_))
  split
  · rename_i q
    exact absurd (of_decide_eq_true q) (by omega)
  (conv => whnf)
  by_cases g1 : (((zL zKern x.fKerns) : Nat) : Int) ≤ (left - (((zL zLookup x.fLookups) : Nat) : Int))
  rotate_left
  · (refine cl_ (szKernS_gt x.fKerns ((left - (((zL zLookup x.fLookups) : Nat) : Int))) (by omega) (by omega) (by omega)) ?_)
    (repeat (refine stg_ ?_))
    (refine RetOK.d rfl rfl ?_; conv => whnf)
    rw [szR_gt (by simp only [zFeatures]; omega)]
  (refine cl_ (szKernS_le x.fKerns ((left - (((zL zLookup x.fLookups) : Nat) : Int))) (by omega) (by omega) g1) ?_)
  (repeat (refine stg_ ?_))
  split
  · rename_i q
    exact absurd (of_decide_eq_true q) (by omega)
  (conv => whnf)
  by_cases g2 : (((zL zMarkRule x.fMarks) : Nat) : Int) ≤ ((left - (((zL zLookup x.fLookups) : Nat) : Int)) - (((zL zKern x.fKerns) : Nat) : Int))
  rotate_left
  · (refine cl_ (szMarkRuleS_gt x.fMarks (((left - (((zL zLookup x.fLookups) : Nat) : Int)) - (((zL zKern x.fKerns) : Nat) : Int))) (by omega) (by omega) (by omega)) ?_)
    (repeat (refine stg_ ?_))
    (refine RetOK.d rfl rfl ?_; conv => whnf)
    rw [szR_gt (by simp only [zFeatures]; omega)]
  (refine cl_ (szMarkRuleS_le x.fMarks (((left - (((zL zLookup x.fLookups) : Nat) : Int)) - (((zL zKern x.fKerns) : Nat) : Int))) (by omega) (by omega) g2) ?_)
  (repeat (refine stg_ ?_))
  split
  · rename_i q
    exact absurd (of_decide_eq_true q) (by omega)
  (conv => whnf)
  by_cases g3 : ((x.fJoins.length : Nat) : Int) ≤ (((left - (((zL zLookup x.fLookups) : Nat) : Int)) - (((zL zKern x.fKerns) : Nat) : Int)) - (((zL zMarkRule x.fMarks) : Nat) : Int))
  rotate_left
  · (refine cl_ (szJoinS_gt x.fJoins ((((left - (((zL zLookup x.fLookups) : Nat) : Int)) - (((zL zKern x.fKerns) : Nat) : Int)) - (((zL zMarkRule x.fMarks) : Nat) : Int))) (by omega) (by omega) (by omega)) ?_)
    (repeat (refine stg_ ?_))
    (refine RetOK.d rfl rfl ?_; conv => whnf)
    rw [szR_gt (by simp only [zFeatures]; omega)]
  (refine cl_ (szJoinS_le x.fJoins ((((left - (((zL zLookup x.fLookups) : Nat) : Int)) - (((zL zKern x.fKerns) : Nat) : Int)) - (((zL zMarkRule x.fMarks) : Nat) : Int))) (by omega) (by omega) g3) ?_)
  (repeat (refine stg_ ?_))
  split
  · rename_i q
    exact absurd (of_decide_eq_true q) (by omega)
  (conv => whnf)
  (refine RetOK.d rfl rfl ?_; conv => whnf)
  rw [szR_le (by simp only [zFeatures]; omega)]
  congr 1 <;> ((simp only [zFeatures]) <;> omega)
theorem szFeatures_le (x : TFeatures) (left : Int) (hl : left ≤ 1048576) (h0 : 0 ≤ left) (hz : (((zFeatures x) : Nat) : Int) ≤ left) : PC Tryz.prog 8 [.d x.D, .d (.int .i64 left)] (.d (.int .i64 (left - (((zFeatures x) : Nat) : Int)))) [] := by
  have := szFeatures_v x left hl h0
  rwa [szR_le hz] at this
theorem szFeatures_gt (x : TFeatures) (left : Int) (hl : left ≤ 1048576) (h0 : 0 ≤ left) (hz : left < (((zFeatures x) : Nat) : Int)) : PC Tryz.prog 8 [.d x.D, .d (.int .i64 left)] (.d (.int .i64 (-1))) [] := by
  have := szFeatures_v x left hl h0
  rwa [szR_gt hz] at this
set_option maxHeartbeats 2000000 in
theorem toInt64S_v (xs : List Int) (hz : xs.length ≤ 1048576) : PC Tryz.prog 11 [.d (lstD (D.int .i64) xs)] (.own 1 0 xs.length) [.arr 1 (xs.map (D.int .i64)) true] := by
  refine pc_intro ttOk (by kernel_rfl) Tryz.func11 rfl (by kernel_rfl) (by kernel_rfl) (by kernel_rfl) (fun hw => ?_)
  have hL : (xs.map (D.int .i64)).length = xs.length := by simp
  (conv => whnf)
  refine MkW.at (by omega) (by omega) (by show (8 : Int) * _ ≤ _; omega) ?_
  (conv => whnf)
  refine LoopW.go (α := Nat) (fun k => [(0, .d (lstD (D.int .i64) xs)), (3, .own 1 0 xs.length), (4, .d (.int .i64 k))]) (fun k => [.gone, .arr 1 (fillL (D.int .i64) (.int .i64 0) xs k) true]) (fun k => k ≤ xs.length) (fun k => xs.length - k) 0
    (Weak.cov ⟨rfl, by rw [← hL]; rfl, rfl, trivial⟩ ⟨trivial, by rw [fillL_zero, ← hL]; rfl, trivial⟩ rfl) (Nat.zero_le _) (fun k hk => ?_)
  (conv => whnf)
  split
  · rename_i h1
    have h1 := of_decide_eq_true h1
    have h1 : k < xs.length := by omega
    obtain ⟨x, hx⟩ := at_lt h1
    have he := fillL_get (D.int .i64) (.int .i64 0) xs h1
    have hfl := fillL_len (D.int .i64) (.int .i64 0) xs k (by omega)
    (conv => whnf)
    (repeat (refine stg_ ?_))
    refine NextW.go (k + 1) (Weak.cov ⟨rfl, rfl, rfl, trivial⟩ ⟨trivial, by rw [← fillL_set _ _ _ hx]; rfl, trivial⟩ rfl) (by omega) (by omega)
  · rename_i h1
    have h1 := of_decide_eq_false h1
    obtain rfl : k = xs.length := by omega
    (conv => whnf)
    refine ⟨⟨[some 1], ⟨by decide, by rw [fillL_all]; rfl, trivial, trivial⟩, by decide, rfl, ?_⟩⟩
    (conv => whnf)
    exact ⟨by decide, rfl⟩
set_option maxHeartbeats 2000000 in
theorem toInt64SS_v (xs : List (List Int)) (hz : (zL List.length xs) ≤ 1048576) : PC Tryz.prog 233 [.d (lstD (lstD (D.int .i64)) xs)] (.own 1 0 xs.length) [.arr 1 (xs.map (lstD (D.int .i64))) true] := by
  simp only [zL] at hz
  have hall := fun x hx => sum_mem List.length (xs := xs) (x := x) hx
  refine pc_intro ttOk (by kernel_rfl) Tryz.func233 rfl (by kernel_rfl) (by kernel_rfl) (by kernel_rfl) (fun hw => ?_)
  have hL : (xs.map (lstD (D.int .i64))).length = xs.length := by simp
  (conv => whnf)
  refine MkW.at (by omega) (by omega) (by show (24 : Int) * _ ≤ _; omega) ?_
  (conv => whnf)
  refine LoopW.go (α := Nat) (fun k => [(0, .d (lstD (lstD (D.int .i64)) xs)), (3, .own 1 0 xs.length), (4, .d (.int .i64 k))]) (fun k => [.gone, .arr 1 (fillL (lstD (D.int .i64)) (.lst []) xs k) true]) (fun k => k ≤ xs.length) (fun k => xs.length - k) 0
    (Weak.cov ⟨rfl, by rw [← hL]; rfl, rfl, trivial⟩ ⟨trivial, by rw [fillL_zero, ← hL]; rfl, trivial⟩ rfl) (Nat.zero_le _) (fun k hk => ?_)
  (conv => whnf)
  split
  · rename_i h1
    have h1 := of_decide_eq_true h1
    have h1 : k < xs.length := by omega
    obtain ⟨x, hx⟩ := at_lt h1
    have he := fillL_get (lstD (D.int .i64)) (.lst []) xs h1
    have hfl := fillL_len (lstD (D.int .i64)) (.lst []) xs k (by omega)
    have ha := hall x (List.mem_of_getElem? hx)
    (conv => whnf)
    (repeat (refine stg_ ?_))
    (refine cl_ (toInt64S_v x (by omega)) ?_)
    (repeat (refine stg_ ?_))
    refine NextW.go (k + 1) (Weak.cov ⟨rfl, rfl, rfl, trivial⟩ ⟨trivial, by rw [← fillL_set _ _ _ hx]; rfl, trivial⟩ rfl) (by omega) (by omega)
  · rename_i h1
    have h1 := of_decide_eq_false h1
    obtain rfl : k = xs.length := by omega
    (conv => whnf)
    refine ⟨⟨[some 1], ⟨by decide, by rw [fillL_all]; rfl, trivial, trivial⟩, by decide, rfl, ?_⟩⟩
    (conv => whnf)
    exact ⟨by decide, rfl⟩
set_option maxHeartbeats 2000000 in
theorem toRule_v (x : TRule) (hz : zRule x ≤ 1048576) : PC Tryz.prog 196 [.d x.D] x.V x.bs := by
  simp only [zRule] at hz
  refine pc_intro ttOk (by kernel_rfl) Tryz.func196 rfl (by kernel_rfl) (by kernel_rfl) (by kernel_rfl) (fun hw => ?_)
  (conv => whnf)
  (refine cl_ (toInt64SS_v x.fBefore (by simp only [zL] at hz ⊢; omega)) ?_)
  (repeat (refine stg_ ?_))
  (refine cl_ (toInt64SS_v x.fInput (by simp only [zL] at hz ⊢; omega)) ?_)
  (repeat (refine stg_ ?_))
  (refine cl_ (toInt64SS_v x.fAfter (by simp only [zL] at hz ⊢; omega)) ?_)
  (repeat (refine stg_ ?_))
  (refine cl_ (toInt64S_v x.fOutput (by omega)) ?_)
  (repeat (refine stg_ ?_))
  refine ⟨⟨[some 4, some 5, some 6, some 7], ⟨by decide, rfl, trivial, by decide, rfl, trivial, by decide, rfl, trivial, by decide, rfl, trivial, trivial⟩, by decide, rfl, ?_⟩⟩
  ((conv => whnf); (refine ⟨_, rfl, ?_⟩); (repeat ((conv => whnf); (refine ⟨_, _, rfl, ?_, ?_⟩); (focus ((conv => whnf); first | exact ⟨rfl, rfl⟩ | exact ⟨by decide, rfl⟩ | ((refine ⟨_, rfl, ?_⟩); (repeat ((conv => whnf); (refine ⟨_, _, rfl, ?_, ?_⟩); (focus ((conv => whnf); first | exact ⟨rfl, rfl⟩ | exact ⟨by decide, rfl⟩)))); (conv => whnf); (first | done | rfl)))))); (conv => whnf))
set_option maxHeartbeats 2000000 in
theorem toRuleS_v (xs : List TRule) (hz : (zL zRule xs) ≤ 1048576) : PC Tryz.prog 151 [.d (lstD TRule.D xs)] (.own 1 0 xs.length) [.arr 4 (xs.map TRule.D) true] := by
  simp only [zL] at hz
  have hall := fun x hx => sum_mem zRule (xs := xs) (x := x) hx
  refine pc_intro ttOk (by kernel_rfl) Tryz.func151 rfl (by kernel_rfl) (by kernel_rfl) (by kernel_rfl) (fun hw => ?_)
  have hL : (xs.map TRule.D).length = xs.length := by simp
  (conv => whnf)
  refine MkW.at (by omega) (by omega) (by show (96 : Int) * _ ≤ _; omega) ?_
  (conv => whnf)
  refine LoopW.go (α := Nat) (fun k => [(0, .d (lstD TRule.D xs)), (3, .own 1 0 xs.length), (4, .d (.int .i64 k))]) (fun k => [.gone, .arr 4 (fillL TRule.D (.st [(.lst []), (.lst []), (.lst []), (.lst [])]) xs k) true]) (fun k => k ≤ xs.length) (fun k => xs.length - k) 0
    (Weak.cov ⟨rfl, by rw [← hL]; rfl, rfl, trivial⟩ ⟨trivial, by rw [fillL_zero, ← hL]; rfl, trivial⟩ rfl) (Nat.zero_le _) (fun k hk => ?_)
  (conv => whnf)
  split
  · rename_i h1
    have h1 := of_decide_eq_true h1
    have h1 : k < xs.length := by omega
    obtain ⟨x, hx⟩ := at_lt h1
    have he := fillL_get TRule.D (.st [(.lst []), (.lst []), (.lst []), (.lst [])]) xs h1
    have hfl := fillL_len TRule.D (.st [(.lst []), (.lst []), (.lst []), (.lst [])]) xs k (by omega)
    have ha := hall x (List.mem_of_getElem? hx)
    (conv => whnf)
    (repeat (refine stg_ ?_))
    (refine cl_ (toRule_v x (by omega)) ?_)
    (repeat (refine stg_ ?_))
    refine NextW.go (k + 1) (Weak.cov ⟨rfl, rfl, rfl, trivial⟩ ⟨trivial, by rw [← fillL_set _ _ _ hx]; rfl, trivial⟩ rfl) (by omega) (by omega)
  · rename_i h1
    have h1 := of_decide_eq_false h1
    obtain rfl : k = xs.length := by omega
    (conv => whnf)
    refine ⟨⟨[some 1], ⟨by decide, by rw [fillL_all]; rfl, trivial, trivial⟩, by decide, rfl, ?_⟩⟩
    (conv => whnf)
    exact ⟨by decide, rfl⟩
set_option maxHeartbeats 2000000 in
theorem toLookup_v (x : TLookup) (hz : zLookup x ≤ 1048576) : PC Tryz.prog 99 [.d x.D] x.V x.bs := by
  simp only [zLookup] at hz
  refine pc_intro ttOk (by kernel_rfl) Tryz.func99 rfl (by kernel_rfl) (by kernel_rfl) (by kernel_rfl) (fun hw => ?_)
  (conv => whnf)
  (refine cl_ (toRuleS_v x.fRules (by simp only [zL] at hz ⊢; omega)) ?_)
  (repeat (refine stg_ ?_))
  refine ⟨⟨[some 4], ⟨by decide, rfl, trivial, trivial⟩, by decide, rfl, ?_⟩⟩
  ((conv => whnf); (refine ⟨_, rfl, ?_⟩); (repeat ((conv => whnf); (refine ⟨_, _, rfl, ?_, ?_⟩); (focus ((conv => whnf); first | exact ⟨rfl, rfl⟩ | exact ⟨by decide, rfl⟩ | ((refine ⟨_, rfl, ?_⟩); (repeat ((conv => whnf); (refine ⟨_, _, rfl, ?_, ?_⟩); (focus ((conv => whnf); first | exact ⟨rfl, rfl⟩ | exact ⟨by decide, rfl⟩)))); (conv => whnf); (first | done | rfl)))))); (conv => whnf))
set_option maxHeartbeats 2000000 in
theorem toLookupS_v (xs : List TLookup) (hz : (zL zLookup xs) ≤ 1048576) : PC Tryz.prog 48 [.d (lstD TLookup.D xs)] (.own 1 0 xs.length) [.arr 2 (xs.map TLookup.D) true] := by
  simp only [zL] at hz
  have hall := fun x hx => sum_mem zLookup (xs := xs) (x := x) hx
  refine pc_intro ttOk (by kernel_rfl) Tryz.func48 rfl (by kernel_rfl) (by kernel_rfl) (by kernel_rfl) (fun hw => ?_)
  have hL : (xs.map TLookup.D).length = xs.length := by simp
  (conv => whnf)
  refine MkW.at (by omega) (by omega) (by show (40 : Int) * _ ≤ _; omega) ?_
  (conv => whnf)
  refine LoopW.go (α := Nat) (fun k => [(0, .d (lstD TLookup.D xs)), (3, .own 1 0 xs.length), (4, .d (.int .i64 k))]) (fun k => [.gone, .arr 2 (fillL TLookup.D (.st [(.str .empty), (.lst [])]) xs k) true]) (fun k => k ≤ xs.length) (fun k => xs.length - k) 0
    (Weak.cov ⟨rfl, by rw [← hL]; rfl, rfl, trivial⟩ ⟨trivial, by rw [fillL_zero, ← hL]; rfl, trivial⟩ rfl) (Nat.zero_le _) (fun k hk => ?_)
  (conv => whnf)
  split
  · rename_i h1
    have h1 := of_decide_eq_true h1
    have h1 : k < xs.length := by omega
    obtain ⟨x, hx⟩ := at_lt h1
    have he := fillL_get TLookup.D (.st [(.str .empty), (.lst [])]) xs h1
    have hfl := fillL_len TLookup.D (.st [(.str .empty), (.lst [])]) xs k (by omega)
    have ha := hall x (List.mem_of_getElem? hx)
    (conv => whnf)
    (repeat (refine stg_ ?_))
    (refine cl_ (toLookup_v x (by omega)) ?_)
    (repeat (refine stg_ ?_))
    refine NextW.go (k + 1) (Weak.cov ⟨rfl, rfl, rfl, trivial⟩ ⟨trivial, by rw [← fillL_set _ _ _ hx]; rfl, trivial⟩ rfl) (by omega) (by omega)
  · rename_i h1
    have h1 := of_decide_eq_false h1
    obtain rfl : k = xs.length := by omega
    (conv => whnf)
    refine ⟨⟨[some 1], ⟨by decide, by rw [fillL_all]; rfl, trivial, trivial⟩, by decide, rfl, ?_⟩⟩
    (conv => whnf)
    exact ⟨by decide, rfl⟩
set_option maxHeartbeats 2000000 in
theorem toKern_v (x : TKern) (hz : zKern x ≤ 1048576) : PC Tryz.prog 100 [.d x.D] x.V x.bs := by
  simp only [zKern] at hz
  refine pc_intro ttOk (by kernel_rfl) Tryz.func100 rfl (by kernel_rfl) (by kernel_rfl) (by kernel_rfl) (fun hw => ?_)
  (conv => whnf)
  (refine cl_ (toInt64S_v x.fLeft (by omega)) ?_)
  (repeat (refine stg_ ?_))
  (refine cl_ (toInt64S_v x.fRight (by omega)) ?_)
  (repeat (refine stg_ ?_))
  refine ⟨⟨[some 4, some 5], ⟨by decide, rfl, trivial, by decide, rfl, trivial, trivial⟩, by decide, rfl, ?_⟩⟩
  ((conv => whnf); (refine ⟨_, rfl, ?_⟩); (repeat ((conv => whnf); (refine ⟨_, _, rfl, ?_, ?_⟩); (focus ((conv => whnf); first | exact ⟨rfl, rfl⟩ | exact ⟨by decide, rfl⟩ | ((refine ⟨_, rfl, ?_⟩); (repeat ((conv => whnf); (refine ⟨_, _, rfl, ?_, ?_⟩); (focus ((conv => whnf); first | exact ⟨rfl, rfl⟩ | exact ⟨by decide, rfl⟩)))); (conv => whnf); (first | done | rfl)))))); (conv => whnf))
set_option maxHeartbeats 2000000 in
theorem toKernS_v (xs : List TKern) (hz : (zL zKern xs) ≤ 1048576) : PC Tryz.prog 49 [.d (lstD TKern.D xs)] (.own 1 0 xs.length) [.arr 3 (xs.map TKern.D) true] := by
  simp only [zL] at hz
  have hall := fun x hx => sum_mem zKern (xs := xs) (x := x) hx
  refine pc_intro ttOk (by kernel_rfl) Tryz.func49 rfl (by kernel_rfl) (by kernel_rfl) (by kernel_rfl) (fun hw => ?_)
  have hL : (xs.map TKern.D).length = xs.length := by simp
  (conv => whnf)
  refine MkW.at (by omega) (by omega) (by show (56 : Int) * _ ≤ _; omega) ?_
  (conv => whnf)
  refine LoopW.go (α := Nat) (fun k => [(0, .d (lstD TKern.D xs)), (3, .own 1 0 xs.length), (4, .d (.int .i64 k))]) (fun k => [.gone, .arr 3 (fillL TKern.D (.st [(.lst []), (.lst []), (.int .i64 0)]) xs k) true]) (fun k => k ≤ xs.length) (fun k => xs.length - k) 0
    (Weak.cov ⟨rfl, by rw [← hL]; rfl, rfl, trivial⟩ ⟨trivial, by rw [fillL_zero, ← hL]; rfl, trivial⟩ rfl) (Nat.zero_le _) (fun k hk => ?_)
  (conv => whnf)
  split
  · rename_i h1
    have h1 := of_decide_eq_true h1
    have h1 : k < xs.length := by omega
    obtain ⟨x, hx⟩ := at_lt h1
    have he := fillL_get TKern.D (.st [(.lst []), (.lst []), (.int .i64 0)]) xs h1
    have hfl := fillL_len TKern.D (.st [(.lst []), (.lst []), (.int .i64 0)]) xs k (by omega)
    have ha := hall x (List.mem_of_getElem? hx)
    (conv => whnf)
    (repeat (refine stg_ ?_))
    (refine cl_ (toKern_v x (by omega)) ?_)
    (repeat (refine stg_ ?_))
    refine NextW.go (k + 1) (Weak.cov ⟨rfl, rfl, rfl, trivial⟩ ⟨trivial, by rw [← fillL_set _ _ _ hx]; rfl, trivial⟩ rfl) (by omega) (by omega)
  · rename_i h1
    have h1 := of_decide_eq_false h1
    obtain rfl : k = xs.length := by omega
    (conv => whnf)
    refine ⟨⟨[some 1], ⟨by decide, by rw [fillL_all]; rfl, trivial, trivial⟩, by decide, rfl, ?_⟩⟩
    (conv => whnf)
    exact ⟨by decide, rfl⟩
set_option maxHeartbeats 2000000 in
theorem toMarkRule_v (x : TMarkRule) (hz : zMarkRule x ≤ 1048576) : PC Tryz.prog 101 [.d x.D] x.V x.bs := by
  simp only [zMarkRule] at hz
  refine pc_intro ttOk (by kernel_rfl) Tryz.func101 rfl (by kernel_rfl) (by kernel_rfl) (by kernel_rfl) (fun hw => ?_)
  (conv => whnf)
  (refine cl_ (toInt64S_v x.fMarks (by omega)) ?_)
  (repeat (refine stg_ ?_))
  (refine cl_ (toInt64S_v x.fBases (by omega)) ?_)
  (repeat (refine stg_ ?_))
  refine ⟨⟨[some 4, some 5], ⟨by decide, rfl, trivial, by decide, rfl, trivial, trivial⟩, by decide, rfl, ?_⟩⟩
  ((conv => whnf); (refine ⟨_, rfl, ?_⟩); (repeat ((conv => whnf); (refine ⟨_, _, rfl, ?_, ?_⟩); (focus ((conv => whnf); first | exact ⟨rfl, rfl⟩ | exact ⟨by decide, rfl⟩ | ((refine ⟨_, rfl, ?_⟩); (repeat ((conv => whnf); (refine ⟨_, _, rfl, ?_, ?_⟩); (focus ((conv => whnf); first | exact ⟨rfl, rfl⟩ | exact ⟨by decide, rfl⟩)))); (conv => whnf); (first | done | rfl)))))); (conv => whnf))
set_option maxHeartbeats 2000000 in
theorem toMarkRuleS_v (xs : List TMarkRule) (hz : (zL zMarkRule xs) ≤ 1048576) : PC Tryz.prog 50 [.d (lstD TMarkRule.D xs)] (.own 1 0 xs.length) [.arr 3 (xs.map TMarkRule.D) true] := by
  simp only [zL] at hz
  have hall := fun x hx => sum_mem zMarkRule (xs := xs) (x := x) hx
  refine pc_intro ttOk (by kernel_rfl) Tryz.func50 rfl (by kernel_rfl) (by kernel_rfl) (by kernel_rfl) (fun hw => ?_)
  have hL : (xs.map TMarkRule.D).length = xs.length := by simp
  (conv => whnf)
  refine MkW.at (by omega) (by omega) (by show (64 : Int) * _ ≤ _; omega) ?_
  (conv => whnf)
  refine LoopW.go (α := Nat) (fun k => [(0, .d (lstD TMarkRule.D xs)), (3, .own 1 0 xs.length), (4, .d (.int .i64 k))]) (fun k => [.gone, .arr 3 (fillL TMarkRule.D (.st [(.lst []), (.lst []), (.str .empty)]) xs k) true]) (fun k => k ≤ xs.length) (fun k => xs.length - k) 0
    (Weak.cov ⟨rfl, by rw [← hL]; rfl, rfl, trivial⟩ ⟨trivial, by rw [fillL_zero, ← hL]; rfl, trivial⟩ rfl) (Nat.zero_le _) (fun k hk => ?_)
  (conv => whnf)
  split
  · rename_i h1
    have h1 := of_decide_eq_true h1
    have h1 : k < xs.length := by omega
    obtain ⟨x, hx⟩ := at_lt h1
    have he := fillL_get TMarkRule.D (.st [(.lst []), (.lst []), (.str .empty)]) xs h1
    have hfl := fillL_len TMarkRule.D (.st [(.lst []), (.lst []), (.str .empty)]) xs k (by omega)
    have ha := hall x (List.mem_of_getElem? hx)
    (conv => whnf)
    (repeat (refine stg_ ?_))
    (refine cl_ (toMarkRule_v x (by omega)) ?_)
    (repeat (refine stg_ ?_))
    refine NextW.go (k + 1) (Weak.cov ⟨rfl, rfl, rfl, trivial⟩ ⟨trivial, by rw [← fillL_set _ _ _ hx]; rfl, trivial⟩ rfl) (by omega) (by omega)
  · rename_i h1
    have h1 := of_decide_eq_false h1
    obtain rfl : k = xs.length := by omega
    (conv => whnf)
    refine ⟨⟨[some 1], ⟨by decide, by rw [fillL_all]; rfl, trivial, trivial⟩, by decide, rfl, ?_⟩⟩
    (conv => whnf)
    exact ⟨by decide, rfl⟩
set_option maxHeartbeats 2000000 in
theorem toJoin_v (x : TJoin) : PC Tryz.prog 102 [.d x.D] (.d x.D) [] := by
  refine pc_intro ttOk (by kernel_rfl) Tryz.func102 rfl (by kernel_rfl) (by kernel_rfl) (by kernel_rfl) (fun hw => ?_)
  (conv => whnf)
  refine RetOK.d rfl rfl ?_
  ((conv => whnf); (try (refine ⟨_, rfl, ?_⟩)); (repeat ((conv => whnf); (refine ⟨_, _, rfl, ?_, ?_⟩); (focus (first | ((conv => whnf); done) | ((conv => whnf); (refine ⟨_, rfl, ?_⟩); (repeat ((conv => whnf); (refine ⟨_, _, rfl, ?_, ?_⟩); (focus ((conv => whnf); done)))); (conv => whnf)))))); (conv => whnf))
set_option maxHeartbeats 2000000 in
theorem toJoinS_v (xs : List TJoin) (hz : xs.length ≤ 1048576) : PC Tryz.prog 51 [.d (lstD TJoin.D xs)] (.own 1 0 xs.length) [.arr 5 (xs.map TJoin.D) true] := by
  refine pc_intro ttOk (by kernel_rfl) Tryz.func51 rfl (by kernel_rfl) (by kernel_rfl) (by kernel_rfl) (fun hw => ?_)
  have hL : (xs.map TJoin.D).length = xs.length := by simp
  (conv => whnf)
  refine MkW.at (by omega) (by omega) (by show (40 : Int) * _ ≤ _; omega) ?_
  (conv => whnf)
  refine LoopW.go (α := Nat) (fun k => [(0, .d (lstD TJoin.D xs)), (3, .own 1 0 xs.length), (4, .d (.int .i64 k))]) (fun k => [.gone, .arr 5 (fillL TJoin.D (.st [(.int .i64 0), (.int .i64 0), (.int .i64 0), (.int .i64 0), (.int .i64 0)]) xs k) true]) (fun k => k ≤ xs.length) (fun k => xs.length - k) 0
    (Weak.cov ⟨rfl, by rw [← hL]; rfl, rfl, trivial⟩ ⟨trivial, by rw [fillL_zero, ← hL]; rfl, trivial⟩ rfl) (Nat.zero_le _) (fun k hk => ?_)
  (conv => whnf)
  split
  · rename_i h1
    have h1 := of_decide_eq_true h1
    have h1 : k < xs.length := by omega
    obtain ⟨x, hx⟩ := at_lt h1
    have he := fillL_get TJoin.D (.st [(.int .i64 0), (.int .i64 0), (.int .i64 0), (.int .i64 0), (.int .i64 0)]) xs h1
    have hfl := fillL_len TJoin.D (.st [(.int .i64 0), (.int .i64 0), (.int .i64 0), (.int .i64 0), (.int .i64 0)]) xs k (by omega)
    (conv => whnf)
    (repeat (refine stg_ ?_))
    (refine cl_ (toJoin_v x) ?_)
    (repeat (refine stg_ ?_))
    refine NextW.go (k + 1) (Weak.cov ⟨rfl, rfl, rfl, trivial⟩ ⟨trivial, by rw [← fillL_set _ _ _ hx]; rfl, trivial⟩ rfl) (by omega) (by omega)
  · rename_i h1
    have h1 := of_decide_eq_false h1
    obtain rfl : k = xs.length := by omega
    (conv => whnf)
    refine ⟨⟨[some 1], ⟨by decide, by rw [fillL_all]; rfl, trivial, trivial⟩, by decide, rfl, ?_⟩⟩
    (conv => whnf)
    exact ⟨by decide, rfl⟩
set_option maxHeartbeats 2000000 in
theorem toFeatures_v (x : TFeatures) (hz : zFeatures x ≤ 1048576) : PC Tryz.prog 10 [.d x.D] x.V x.bs := by
  simp only [zFeatures] at hz
  refine pc_intro ttOk (by kernel_rfl) Tryz.func10 rfl (by kernel_rfl) (by kernel_rfl) (by kernel_rfl) (fun hw => ?_)
  (conv => whnf)
  (refine cl_ (toLookupS_v x.fLookups (by simp only [zL] at hz ⊢; omega)) ?_)
  (repeat (refine stg_ ?_))
  (refine cl_ (toKernS_v x.fKerns (by simp only [zL] at hz ⊢; omega)) ?_)
  (repeat (refine stg_ ?_))
  (refine cl_ (toMarkRuleS_v x.fMarks (by simp only [zL] at hz ⊢; omega)) ?_)
  (repeat (refine stg_ ?_))
  (refine cl_ (toJoinS_v x.fJoins (by omega)) ?_)
  (repeat (refine stg_ ?_))
  refine ⟨⟨[some 4, some 5, some 6, some 7], ⟨by decide, rfl, trivial, by decide, rfl, trivial, by decide, rfl, trivial, by decide, rfl, trivial, trivial⟩, by decide, rfl, ?_⟩⟩
  ((conv => whnf); (refine ⟨_, rfl, ?_⟩); (repeat ((conv => whnf); (refine ⟨_, _, rfl, ?_, ?_⟩); (focus ((conv => whnf); first | exact ⟨rfl, rfl⟩ | exact ⟨by decide, rfl⟩ | ((refine ⟨_, rfl, ?_⟩); (repeat ((conv => whnf); (refine ⟨_, _, rfl, ?_, ?_⟩); (focus ((conv => whnf); first | exact ⟨rfl, rfl⟩ | exact ⟨by decide, rfl⟩)))); (conv => whnf); (first | done | rfl)))))); (conv => whnf))
set_option maxHeartbeats 2000000 in
theorem eqInt64S_v (xs : List Int) : PC Tryz.prog 13 [.d (lstD (D.int .i64) xs), .d (lstD (D.int .i64) xs)] (.d (.bool true)) [] := by
  refine pc_intro ttOk (by kernel_rfl) Tryz.func13 rfl (by kernel_rfl) (by kernel_rfl) (by kernel_rfl) (fun hw => ?_)
  have hm : (xs.map (D.int .i64)).length ≤ maxLen := hw.1.1
  have hL : (xs.map (D.int .i64)).length = xs.length := by simp
  unfold maxLen at hm
  (conv => whnf)
  split
  · rename_i h
    simp at h
  (conv => whnf)
  refine LoopW.go (α := Nat) (fun k => [(0, .d (lstD (D.int .i64) xs)), (1, .d (lstD (D.int .i64) xs)), (5, .d (.int .i64 k))]) (fun k => [.gone]) (fun k => k ≤ xs.length) (fun k => xs.length - k) 0
    (Weak.cov ⟨rfl, rfl, rfl, trivial⟩ ⟨trivial, trivial⟩ rfl) (Nat.zero_le _) (fun k hk => ?_)
  (conv => whnf)
  split
  · rename_i h1
    have h1 := of_decide_eq_true h1
    have h1 : k < xs.length := by omega
    obtain ⟨x, hx⟩ := at_lt h1
    (conv => whnf)
    (repeat (refine stg_ ?_))
    split
    · rename_i q
      simp at q
    (conv => whnf)
    (repeat (refine stg_ ?_))
    refine NextW.go (k + 1) (Weak.cov ⟨rfl, rfl, rfl, trivial⟩ ⟨trivial, trivial⟩ rfl) (by omega) (by omega)
  · (conv => whnf)
    (refine RetOK.d rfl rfl ?_; conv => whnf)
set_option maxHeartbeats 2000000 in
theorem eqInt64SS_v (xs : List (List Int)) : PC Tryz.prog 237 [.d (lstD (lstD (D.int .i64)) xs), .d (lstD (lstD (D.int .i64)) xs)] (.d (.bool true)) [] := by
  refine pc_intro ttOk (by kernel_rfl) Tryz.func237 rfl (by kernel_rfl) (by kernel_rfl) (by kernel_rfl) (fun hw => ?_)
  have hm : (xs.map (lstD (D.int .i64))).length ≤ maxLen := hw.1.1
  have hL : (xs.map (lstD (D.int .i64))).length = xs.length := by simp
  unfold maxLen at hm
  (conv => whnf)
  split
  · rename_i h
    simp at h
  (conv => whnf)
  refine LoopW.go (α := Nat) (fun k => [(0, .d (lstD (lstD (D.int .i64)) xs)), (1, .d (lstD (lstD (D.int .i64)) xs)), (5, .d (.int .i64 k))]) (fun k => [.gone]) (fun k => k ≤ xs.length) (fun k => xs.length - k) 0
    (Weak.cov ⟨rfl, rfl, rfl, trivial⟩ ⟨trivial, trivial⟩ rfl) (Nat.zero_le _) (fun k hk => ?_)
  (conv => whnf)
  split
  · rename_i h1
    have h1 := of_decide_eq_true h1
    have h1 : k < xs.length := by omega
    obtain ⟨x, hx⟩ := at_lt h1
    (conv => whnf)
    (repeat (refine stg_ ?_))
    (refine cl_ (eqInt64S_v x) ?_)
    (repeat (refine stg_ ?_))
    refine NextW.go (k + 1) (Weak.cov ⟨rfl, rfl, rfl, trivial⟩ ⟨trivial, trivial⟩ rfl) (by omega) (by omega)
  · (conv => whnf)
    (refine RetOK.d rfl rfl ?_; conv => whnf)
set_option maxHeartbeats 2000000 in
theorem eqRule_v (x : TRule) : PC Tryz.prog 205 [.d x.D, .d x.D] (.d (.bool true)) [] := by
  refine pc_intro ttOk (by kernel_rfl) Tryz.func205 rfl (by kernel_rfl) (by kernel_rfl) (by kernel_rfl) (fun hw => ?_)
  (conv => whnf)
  (repeat (refine stg_ ?_))
  (refine cl_ (eqInt64SS_v x.fBefore) ?_)
  (repeat (refine stg_ ?_))
  (repeat (refine stg_ ?_))
  (refine cl_ (eqInt64SS_v x.fInput) ?_)
  (repeat (refine stg_ ?_))
  (repeat (refine stg_ ?_))
  (refine cl_ (eqInt64SS_v x.fAfter) ?_)
  (repeat (refine stg_ ?_))
  (repeat (refine stg_ ?_))
  (refine cl_ (eqInt64S_v x.fOutput) ?_)
  (repeat (refine stg_ ?_))
  (repeat (refine stg_ ?_))
  (refine RetOK.d rfl rfl ?_; conv => whnf)
set_option maxHeartbeats 2000000 in
theorem eqRuleS_v (xs : List TRule) : PC Tryz.prog 162 [.d (lstD TRule.D xs), .d (lstD TRule.D xs)] (.d (.bool true)) [] := by
  refine pc_intro ttOk (by kernel_rfl) Tryz.func162 rfl (by kernel_rfl) (by kernel_rfl) (by kernel_rfl) (fun hw => ?_)
  have hm : (xs.map TRule.D).length ≤ maxLen := hw.1.1
  have hL : (xs.map TRule.D).length = xs.length := by simp
  unfold maxLen at hm
  (conv => whnf)
  split
  · rename_i h
    simp at h
  (conv => whnf)
  refine LoopW.go (α := Nat) (fun k => [(0, .d (lstD TRule.D xs)), (1, .d (lstD TRule.D xs)), (5, .d (.int .i64 k))]) (fun k => [.gone]) (fun k => k ≤ xs.length) (fun k => xs.length - k) 0
    (Weak.cov ⟨rfl, rfl, rfl, trivial⟩ ⟨trivial, trivial⟩ rfl) (Nat.zero_le _) (fun k hk => ?_)
  (conv => whnf)
  split
  · rename_i h1
    have h1 := of_decide_eq_true h1
    have h1 : k < xs.length := by omega
    obtain ⟨x, hx⟩ := at_lt h1
    (conv => whnf)
    (repeat (refine stg_ ?_))
    (refine cl_ (eqRule_v x) ?_)
    (repeat (refine stg_ ?_))
    refine NextW.go (k + 1) (Weak.cov ⟨rfl, rfl, rfl, trivial⟩ ⟨trivial, trivial⟩ rfl) (by omega) (by omega)
  · (conv => whnf)
    (refine RetOK.d rfl rfl ?_; conv => whnf)
set_option maxHeartbeats 2000000 in
theorem eqLookup_v (x : TLookup) : PC Tryz.prog 112 [.d x.D, .d x.D] (.d (.bool true)) [] := by
  refine pc_intro ttOk (by kernel_rfl) Tryz.func112 rfl (by kernel_rfl) (by kernel_rfl) (by kernel_rfl) (fun hw => ?_)
  (conv => whnf)
  (repeat (refine stg_ ?_))
  split
  · rename_i q
    simp at q
  (conv => whnf)
  (repeat (refine stg_ ?_))
  (refine cl_ (eqRuleS_v x.fRules) ?_)
  (repeat (refine stg_ ?_))
  (repeat (refine stg_ ?_))
  (refine RetOK.d rfl rfl ?_; conv => whnf)
set_option maxHeartbeats 2000000 in
theorem eqLookupS_v (xs : List TLookup) : PC Tryz.prog 60 [.d (lstD TLookup.D xs), .d (lstD TLookup.D xs)] (.d (.bool true)) [] := by
  refine pc_intro ttOk (by kernel_rfl) Tryz.func60 rfl (by kernel_rfl) (by kernel_rfl) (by kernel_rfl) (fun hw => ?_)
  have hm : (xs.map TLookup.D).length ≤ maxLen := hw.1.1
  have hL : (xs.map TLookup.D).length = xs.length := by simp
  unfold maxLen at hm
  (conv => whnf)
  split
  · rename_i h
    simp at h
  (conv => whnf)
  refine LoopW.go (α := Nat) (fun k => [(0, .d (lstD TLookup.D xs)), (1, .d (lstD TLookup.D xs)), (5, .d (.int .i64 k))]) (fun k => [.gone]) (fun k => k ≤ xs.length) (fun k => xs.length - k) 0
    (Weak.cov ⟨rfl, rfl, rfl, trivial⟩ ⟨trivial, trivial⟩ rfl) (Nat.zero_le _) (fun k hk => ?_)
  (conv => whnf)
  split
  · rename_i h1
    have h1 := of_decide_eq_true h1
    have h1 : k < xs.length := by omega
    obtain ⟨x, hx⟩ := at_lt h1
    (conv => whnf)
    (repeat (refine stg_ ?_))
    (refine cl_ (eqLookup_v x) ?_)
    (repeat (refine stg_ ?_))
    refine NextW.go (k + 1) (Weak.cov ⟨rfl, rfl, rfl, trivial⟩ ⟨trivial, trivial⟩ rfl) (by omega) (by omega)
  · (conv => whnf)
    (refine RetOK.d rfl rfl ?_; conv => whnf)
set_option maxHeartbeats 2000000 in
theorem eqKern_v (x : TKern) : PC Tryz.prog 113 [.d x.D, .d x.D] (.d (.bool true)) [] := by
  refine pc_intro ttOk (by kernel_rfl) Tryz.func113 rfl (by kernel_rfl) (by kernel_rfl) (by kernel_rfl) (fun hw => ?_)
  (conv => whnf)
  (repeat (refine stg_ ?_))
  (refine cl_ (eqInt64S_v x.fLeft) ?_)
  (repeat (refine stg_ ?_))
  (repeat (refine stg_ ?_))
  (refine cl_ (eqInt64S_v x.fRight) ?_)
  (repeat (refine stg_ ?_))
  (repeat (refine stg_ ?_))
  split
  · rename_i q
    simp at q
  (conv => whnf)
  (repeat (refine stg_ ?_))
  (refine RetOK.d rfl rfl ?_; conv => whnf)
set_option maxHeartbeats 2000000 in
theorem eqKernS_v (xs : List TKern) : PC Tryz.prog 61 [.d (lstD TKern.D xs), .d (lstD TKern.D xs)] (.d (.bool true)) [] := by
  refine pc_intro ttOk (by kernel_rfl) Tryz.func61 rfl (by kernel_rfl) (by kernel_rfl) (by kernel_rfl) (fun hw => ?_)
  have hm : (xs.map TKern.D).length ≤ maxLen := hw.1.1
  have hL : (xs.map TKern.D).length = xs.length := by simp
  unfold maxLen at hm
  (conv => whnf)
  split
  · rename_i h
    simp at h
  (conv => whnf)
  refine LoopW.go (α := Nat) (fun k => [(0, .d (lstD TKern.D xs)), (1, .d (lstD TKern.D xs)), (5, .d (.int .i64 k))]) (fun k => [.gone]) (fun k => k ≤ xs.length) (fun k => xs.length - k) 0
    (Weak.cov ⟨rfl, rfl, rfl, trivial⟩ ⟨trivial, trivial⟩ rfl) (Nat.zero_le _) (fun k hk => ?_)
  (conv => whnf)
  split
  · rename_i h1
    have h1 := of_decide_eq_true h1
    have h1 : k < xs.length := by omega
    obtain ⟨x, hx⟩ := at_lt h1
    (conv => whnf)
    (repeat (refine stg_ ?_))
    (refine cl_ (eqKern_v x) ?_)
    (repeat (refine stg_ ?_))
    refine NextW.go (k + 1) (Weak.cov ⟨rfl, rfl, rfl, trivial⟩ ⟨trivial, trivial⟩ rfl) (by omega) (by omega)
  · (conv => whnf)
    (refine RetOK.d rfl rfl ?_; conv => whnf)
set_option maxHeartbeats 2000000 in
theorem eqMarkRule_v (x : TMarkRule) : PC Tryz.prog 114 [.d x.D, .d x.D] (.d (.bool true)) [] := by
  refine pc_intro ttOk (by kernel_rfl) Tryz.func114 rfl (by kernel_rfl) (by kernel_rfl) (by kernel_rfl) (fun hw => ?_)
  (conv => whnf)
  (repeat (refine stg_ ?_))
  (refine cl_ (eqInt64S_v x.fMarks) ?_)
  (repeat (refine stg_ ?_))
  (repeat (refine stg_ ?_))
  (refine cl_ (eqInt64S_v x.fBases) ?_)
  (repeat (refine stg_ ?_))
  (repeat (refine stg_ ?_))
  split
  · rename_i q
    simp at q
  (conv => whnf)
  (repeat (refine stg_ ?_))
  (refine RetOK.d rfl rfl ?_; conv => whnf)
set_option maxHeartbeats 2000000 in
theorem eqMarkRuleS_v (xs : List TMarkRule) : PC Tryz.prog 62 [.d (lstD TMarkRule.D xs), .d (lstD TMarkRule.D xs)] (.d (.bool true)) [] := by
  refine pc_intro ttOk (by kernel_rfl) Tryz.func62 rfl (by kernel_rfl) (by kernel_rfl) (by kernel_rfl) (fun hw => ?_)
  have hm : (xs.map TMarkRule.D).length ≤ maxLen := hw.1.1
  have hL : (xs.map TMarkRule.D).length = xs.length := by simp
  unfold maxLen at hm
  (conv => whnf)
  split
  · rename_i h
    simp at h
  (conv => whnf)
  refine LoopW.go (α := Nat) (fun k => [(0, .d (lstD TMarkRule.D xs)), (1, .d (lstD TMarkRule.D xs)), (5, .d (.int .i64 k))]) (fun k => [.gone]) (fun k => k ≤ xs.length) (fun k => xs.length - k) 0
    (Weak.cov ⟨rfl, rfl, rfl, trivial⟩ ⟨trivial, trivial⟩ rfl) (Nat.zero_le _) (fun k hk => ?_)
  (conv => whnf)
  split
  · rename_i h1
    have h1 := of_decide_eq_true h1
    have h1 : k < xs.length := by omega
    obtain ⟨x, hx⟩ := at_lt h1
    (conv => whnf)
    (repeat (refine stg_ ?_))
    (refine cl_ (eqMarkRule_v x) ?_)
    (repeat (refine stg_ ?_))
    refine NextW.go (k + 1) (Weak.cov ⟨rfl, rfl, rfl, trivial⟩ ⟨trivial, trivial⟩ rfl) (by omega) (by omega)
  · (conv => whnf)
    (refine RetOK.d rfl rfl ?_; conv => whnf)
set_option maxHeartbeats 2000000 in
theorem eqJoin_v (x : TJoin) : PC Tryz.prog 115 [.d x.D, .d x.D] (.d (.bool true)) [] := by
  refine pc_intro ttOk (by kernel_rfl) Tryz.func115 rfl (by kernel_rfl) (by kernel_rfl) (by kernel_rfl) (fun hw => ?_)
  (conv => whnf)
  (repeat (refine stg_ ?_))
  split
  · rename_i q
    simp at q
  (conv => whnf)
  (repeat (refine stg_ ?_))
  split
  · rename_i q
    simp at q
  (conv => whnf)
  (repeat (refine stg_ ?_))
  split
  · rename_i q
    simp at q
  (conv => whnf)
  (repeat (refine stg_ ?_))
  split
  · rename_i q
    simp at q
  (conv => whnf)
  (repeat (refine stg_ ?_))
  split
  · rename_i q
    simp at q
  (conv => whnf)
  (repeat (refine stg_ ?_))
  (refine RetOK.d rfl rfl ?_; conv => whnf)
set_option maxHeartbeats 2000000 in
theorem eqJoinS_v (xs : List TJoin) : PC Tryz.prog 63 [.d (lstD TJoin.D xs), .d (lstD TJoin.D xs)] (.d (.bool true)) [] := by
  refine pc_intro ttOk (by kernel_rfl) Tryz.func63 rfl (by kernel_rfl) (by kernel_rfl) (by kernel_rfl) (fun hw => ?_)
  have hm : (xs.map TJoin.D).length ≤ maxLen := hw.1.1
  have hL : (xs.map TJoin.D).length = xs.length := by simp
  unfold maxLen at hm
  (conv => whnf)
  split
  · rename_i h
    simp at h
  (conv => whnf)
  refine LoopW.go (α := Nat) (fun k => [(0, .d (lstD TJoin.D xs)), (1, .d (lstD TJoin.D xs)), (5, .d (.int .i64 k))]) (fun k => [.gone]) (fun k => k ≤ xs.length) (fun k => xs.length - k) 0
    (Weak.cov ⟨rfl, rfl, rfl, trivial⟩ ⟨trivial, trivial⟩ rfl) (Nat.zero_le _) (fun k hk => ?_)
  (conv => whnf)
  split
  · rename_i h1
    have h1 := of_decide_eq_true h1
    have h1 : k < xs.length := by omega
    obtain ⟨x, hx⟩ := at_lt h1
    (conv => whnf)
    (repeat (refine stg_ ?_))
    (refine cl_ (eqJoin_v x) ?_)
    (repeat (refine stg_ ?_))
    refine NextW.go (k + 1) (Weak.cov ⟨rfl, rfl, rfl, trivial⟩ ⟨trivial, trivial⟩ rfl) (by omega) (by omega)
  · (conv => whnf)
    (refine RetOK.d rfl rfl ?_; conv => whnf)
set_option maxHeartbeats 2000000 in
theorem eqFeatures_v (x : TFeatures) : PC Tryz.prog 14 [.d x.D, .d x.D] (.d (.bool true)) [] := by
  refine pc_intro ttOk (by kernel_rfl) Tryz.func14 rfl (by kernel_rfl) (by kernel_rfl) (by kernel_rfl) (fun hw => ?_)
  (conv => whnf)
  (repeat (refine stg_ ?_))
  (refine cl_ (eqLookupS_v x.fLookups) ?_)
  (repeat (refine stg_ ?_))
  (repeat (refine stg_ ?_))
  (refine cl_ (eqKernS_v x.fKerns) ?_)
  (repeat (refine stg_ ?_))
  (repeat (refine stg_ ?_))
  (refine cl_ (eqMarkRuleS_v x.fMarks) ?_)
  (repeat (refine stg_ ?_))
  (repeat (refine stg_ ?_))
  (refine cl_ (eqJoinS_v x.fJoins) ?_)
  (repeat (refine stg_ ?_))
  (repeat (refine stg_ ?_))
  (refine RetOK.d rfl rfl ?_; conv => whnf)
end Go.Proofs.YtcachhipflibkaaGreat
