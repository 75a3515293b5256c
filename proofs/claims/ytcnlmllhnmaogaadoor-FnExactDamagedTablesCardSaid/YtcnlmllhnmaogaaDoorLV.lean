/- The laws' own functions (sizes, copies, comparisons): what each returns. Written by a program (wip/tools/gen_lv.py). -/
import Derived.Test.YtcnlmllhnmaogaaDoorLVBase
set_option linter.unusedSimpArgs false
set_option linter.unusedVariables false
namespace Go.Proofs.YtcnlmllhnmaogaaDoor
open Go.RowKit
def zL {α : Type} (f : α → Nat) (xs : List α) : Nat := xs.length + (xs.map f).sum
def zTable (x : TTable) : Nat := x.fTag.size + x.fData.size
def zAxis (x : TAxis) : Nat := x.fName.size + x.fMap.length
def TAxis.V (x : TAxis) : V := .st [.d (.str x.fName), .d (.int .i64 x.fMin), .d (.int .i64 x.fDefault), .d (.int .i64 x.fMax), .own 1 0 x.fMap.length]
def TAxis.bs (x : TAxis) : List Blk := [.arr 2 (x.fMap.map TAxisPoint.D) true]
def zGlyphDelta (x : TGlyphDelta) : Nat := x.fKnots.length + x.fMoves.length
def TGlyphDelta.V (x : TGlyphDelta) : V := .st [.d (.int .i64 x.fGlyph), .own 1 0 x.fKnots.length, .own 2 0 x.fMoves.length, .d (.int .i64 x.fAdvance)]
def TGlyphDelta.bs (x : TGlyphDelta) : List Blk := [.arr 1 (x.fKnots.map (D.int .i64)) true, .arr 2 (x.fMoves.map TPt.D) true]
def zMaster (x : TMaster) : Nat := x.fPeaks.length + (zL zGlyphDelta x.fDeltas)
def TMaster.V (x : TMaster) : V := .st [.own 1 0 x.fPeaks.length, .own 2 0 x.fDeltas.length]
def TMaster.bs (x : TMaster) : List Blk := [.arr 3 (x.fPeaks.map TPeak.D) true, .arr 4 (x.fDeltas.map TGlyphDelta.D) true]
def zVariation (x : TVariation) : Nat := (zL zAxis x.fAxes) + (zL zMaster x.fMasters)
def TVariation.V (x : TVariation) : V := .st [.own 1 0 x.fAxes.length, .own 2 0 x.fMasters.length]
def TVariation.bs (x : TVariation) : List Blk := [.arr 5 (x.fAxes.map TAxis.D) true, .arr 2 (x.fMasters.map TMaster.D) true]



set_option maxHeartbeats 2000000 in
theorem eqTable_v (x : TTable) : PC Tryd.prog 32 [.d x.D, .d x.D] (.d (.bool true)) [] := by
  refine pc_intro ttOk (by kernel_rfl) Tryd.func32 rfl (by kernel_rfl) (by kernel_rfl) (by kernel_rfl) (fun hw => ?_)
  (conv => whnf)
  (repeat (refine stg_ ?_))
  split
  · rename_i q
    simp at q
  (conv => whnf)
  (repeat (refine stg_ ?_))
  split
  · rename_i q
    simp at q
  (conv => whnf)
  (repeat (refine stg_ ?_))
  (refine RetOK.d rfl rfl ?_; conv => whnf)
set_option maxHeartbeats 2000000 in
theorem eqTableS_v (xs : List TTable) : PC Tryd.prog 14 [.d (lstD TTable.D xs), .d (lstD TTable.D xs)] (.d (.bool true)) [] := by
  refine pc_intro ttOk (by kernel_rfl) Tryd.func14 rfl (by kernel_rfl) (by kernel_rfl) (by kernel_rfl) (fun hw => ?_)
  have hm : (xs.map TTable.D).length ≤ maxLen := hw.1.1
  have hL : (xs.map TTable.D).length = xs.length := by simp
  unfold maxLen at hm
  (conv => whnf)
  split
  · rename_i h
    simp at h
  (conv => whnf)
  refine LoopW.go (α := Nat) (fun k => [(0, .d (lstD TTable.D xs)), (1, .d (lstD TTable.D xs)), (5, .d (.int .i64 k))]) (fun k => [.gone]) (fun k => k ≤ xs.length) (fun k => xs.length - k) 0
    (Weak.cov ⟨rfl, rfl, rfl, trivial⟩ ⟨trivial, trivial⟩ rfl) (Nat.zero_le _) (fun k hk => ?_)
  (conv => whnf)
  split
  · rename_i h1
    have h1 := of_decide_eq_true h1
    have h1 : k < xs.length := by omega
    obtain ⟨x, hx⟩ := at_lt h1
    (conv => whnf)
    (repeat (refine stg_ ?_))
    (refine cl_ (eqTable_v x) ?_)
    (repeat (refine stg_ ?_))
    refine NextW.go (k + 1) (Weak.cov ⟨rfl, rfl, rfl, trivial⟩ ⟨trivial, trivial⟩ rfl) (by omega) (by omega)
  · (conv => whnf)
    (refine RetOK.d rfl rfl ?_; conv => whnf)
set_option maxHeartbeats 2000000 in
theorem eqStringS_v (xs : List ByteArray) : PC Tryd.prog 9 [.d (lstD D.str xs), .d (lstD D.str xs)] (.d (.bool true)) [] := by
  refine pc_intro ttOk (by kernel_rfl) Tryd.func9 rfl (by kernel_rfl) (by kernel_rfl) (by kernel_rfl) (fun hw => ?_)
  have hm : (xs.map D.str).length ≤ maxLen := hw.1.1
  have hL : (xs.map D.str).length = xs.length := by simp
  unfold maxLen at hm
  (conv => whnf)
  split
  · rename_i h
    simp at h
  (conv => whnf)
  refine LoopW.go (α := Nat) (fun k => [(0, .d (lstD D.str xs)), (1, .d (lstD D.str xs)), (5, .d (.int .i64 k))]) (fun k => [.gone]) (fun k => k ≤ xs.length) (fun k => xs.length - k) 0
    (Weak.cov ⟨rfl, rfl, rfl, trivial⟩ ⟨trivial, trivial⟩ rfl) (Nat.zero_le _) (fun k hk => ?_)
  (conv => whnf)
  split
  · rename_i h1
    have h1 := of_decide_eq_true h1
    have h1 : k < xs.length := by omega
    obtain ⟨x, hx⟩ := at_lt h1
    (conv => whnf)
    (repeat (refine stg_ ?_))
    split
    · rename_i q
      simp at q
    (conv => whnf)
    (repeat (refine stg_ ?_))
    refine NextW.go (k + 1) (Weak.cov ⟨rfl, rfl, rfl, trivial⟩ ⟨trivial, trivial⟩ rfl) (by omega) (by omega)
  · (conv => whnf)
    (refine RetOK.d rfl rfl ?_; conv => whnf)

end Go.Proofs.YtcnlmllhnmaogaaDoor
