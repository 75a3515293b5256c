/- The laws' own functions (sizes, copies, comparisons): what each returns. Written by a program (wip/tools/gen_lv.py). -/
import Derived.Test.YtnbhanbpaeidbaaLVBase
set_option linter.unusedSimpArgs false
set_option linter.unusedVariables false
namespace Go.Proofs.Ytnbhanbpaeidbaa
open Go.RowKit
def zL {α : Type} (f : α → Nat) (xs : List α) : Nat := xs.length + (xs.map f).sum
def zTable (x : TTable) : Nat := x.fTag.size + x.fData.size
def zAxis (x : TAxis) : Nat := x.fName.size + x.fMap.length
def TAxis.V (x : TAxis) : V := .st [.d (.str x.fName), .d (.int .i64 x.fMin), .d (.int .i64 x.fDefault), .d (.int .i64 x.fMax), .own 1 0 x.fMap.length]
def TAxis.bs (x : TAxis) : List Blk := [.arr 2 (x.fMap.map TAxisPoint.D) true]
def zGlyphDelta (x : TGlyphDelta) : Nat := x.fKnots.length + x.fMoves.length
def TGlyphDelta.V (x : TGlyphDelta) : V := .st [.d (.int .i64 x.fGlyph), .own 1 0 x.fKnots.length, .own 2 0 x.fMoves.length, .d (.int .i64 x.fAdvance)]
def TGlyphDelta.bs (x : TGlyphDelta) : List Blk := [.arr 1 (x.fKnots.map (D.int .i64)) true, .arr 2 (x.fMoves.map TPt.D) true]
def zMaster (x : TMaster) : Nat := x.fPeaks.length + (zL zGlyphDelta x.fDeltas)
def TMaster.V (x : TMaster) : V := .st [.own 1 0 x.fPeaks.length, .own 2 0 x.fDeltas.length]
def TMaster.bs (x : TMaster) : List Blk := [.arr 3 (x.fPeaks.map TPeak.D) true, .arr 4 (x.fDeltas.map TGlyphDelta.D) true]
def zVariation (x : TVariation) : Nat := (zL zAxis x.fAxes) + (zL zMaster x.fMasters)
def TVariation.V (x : TVariation) : V := .st [.own 1 0 x.fAxes.length, .own 2 0 x.fMasters.length]
def TVariation.bs (x : TVariation) : List Blk := [.arr 5 (x.fAxes.map TAxis.D) true, .arr 2 (x.fMasters.map TMaster.D) true]

set_option maxHeartbeats 2000000 in
theorem szAxisPointS_v (xs : List TAxisPoint) (left : Int) (hl : left ≤ 1048576) (h0 : 0 ≤ left) : PC Try.prog 44 [.d (lstD TAxisPoint.D xs), .d (.int .i64 left)] (.d (.int .i64 (szR left xs.length))) [] := by
  refine pc_intro ttOk (by kernel_rfl) Try.func44 rfl (by kernel_rfl) (by kernel_rfl) (by kernel_rfl) (fun hw => ?_)
  have hm : (xs.map TAxisPoint.D).length ≤ maxLen := hw.1.1
  have hL : (xs.map TAxisPoint.D).length = xs.length := by simp
  unfold maxLen at hm
  (conv => whnf)
  (repeat (refine stg_ ?_))
  split
  · rename_i h1
    have h1 := of_decide_eq_true h1
    (conv => whnf)
    (refine RetOK.d rfl rfl ?_; conv => whnf)
    rw [szR_gt (by omega)]
  rename_i h1
  have h1 := of_decide_eq_false h1
  (conv => whnf)
  (refine RetOK.d rfl rfl ?_; conv => whnf)
  rw [szR_le (by omega), hL]
theorem szAxisPointS_le (xs : List TAxisPoint) (left : Int) (hl : left ≤ 1048576) (h0 : 0 ≤ left) (hz : ((xs.length : Nat) : Int) ≤ left) : PC Try.prog 44 [.d (lstD TAxisPoint.D xs), .d (.int .i64 left)] (.d (.int .i64 (left - ((xs.length : Nat) : Int)))) [] := by
  have := szAxisPointS_v xs left hl h0
  rwa [szR_le hz] at this
theorem szAxisPointS_gt (xs : List TAxisPoint) (left : Int) (hl : left ≤ 1048576) (h0 : 0 ≤ left) (hz : left < ((xs.length : Nat) : Int)) : PC Try.prog 44 [.d (lstD TAxisPoint.D xs), .d (.int .i64 left)] (.d (.int .i64 (-1))) [] := by
  have := szAxisPointS_v xs left hl h0
  rwa [szR_gt hz] at this
set_option maxHeartbeats 2000000 in
theorem szAxis_v (x : TAxis) (left : Int) (hl : left ≤ 1048576) (h0 : 0 ≤ left) : PC Try.prog 13 [.d x.D, .d (.int .i64 left)] (.d (.int .i64 (szR left (zAxis x)))) [] := by
  refine pc_intro ttOk (by kernel_rfl) Try.func13 rfl (by kernel_rfl) (by kernel_rfl) (by kernel_rfl) (fun hw => ?_)
  have hm0 : x.fName.size ≤ maxLen := hw.1.1
  unfold maxLen at hm0
  (conv => whnf)
  (repeat (refine stg_ ?_))
  split
  · rename_i g0
    have g0 := of_decide_eq_true g0
    (conv => whnf)
    (refine RetOK.d rfl rfl ?_; conv => whnf)
    rw [szR_gt (by simp only [zAxis]; omega)]
  rename_i g0
  have g0 := of_decide_eq_false g0
  (conv => whnf)
  by_cases g4 : ((x.fMap.length : Nat) : Int) ≤ (left - ((x.fName.size : Nat) : Int))
  rotate_left
  · (refine cl_ (szAxisPointS_gt x.fMap ((left - ((x.fName.size : Nat) : Int))) (by omega) (by omega) (by omega)) ?_)
    (repeat (refine stg_ ?_))
    (refine RetOK.d rfl rfl ?_; conv => whnf)
    rw [szR_gt (by simp only [zAxis]; omega)]
  (refine cl_ (szAxisPointS_le x.fMap ((left - ((x.fName.size : Nat) : Int))) (by omega) (by omega) g4) ?_)
  (repeat (refine stg_ ?_))
  split
  · rename_i q
    exact absurd (of_decide_eq_true q) (by omega)
  (conv => whnf)
  (refine RetOK.d rfl rfl ?_; conv => whnf)
  rw [szR_le (by simp only [zAxis]; omega)]
  congr 1 <;> ((simp only [zAxis]) <;> omega)
theorem szAxis_le (x : TAxis) (left : Int) (hl : left ≤ 1048576) (h0 : 0 ≤ left) (hz : (((zAxis x) : Nat) : Int) ≤ left) : PC Try.prog 13 [.d x.D, .d (.int .i64 left)] (.d (.int .i64 (left - (((zAxis x) : Nat) : Int)))) [] := by
  have := szAxis_v x left hl h0
  rwa [szR_le hz] at this
theorem szAxis_gt (x : TAxis) (left : Int) (hl : left ≤ 1048576) (h0 : 0 ≤ left) (hz : left < (((zAxis x) : Nat) : Int)) : PC Try.prog 13 [.d x.D, .d (.int .i64 left)] (.d (.int .i64 (-1))) [] := by
  have := szAxis_v x left hl h0
  rwa [szR_gt hz] at this
set_option maxHeartbeats 2000000 in
theorem szAxisS_v (xs : List TAxis) (left : Int) (hl : left ≤ 1048576) (h0 : 0 ≤ left) : PC Try.prog 18 [.d (lstD TAxis.D xs), .d (.int .i64 left)] (.d (.int .i64 (szR left (zL zAxis xs)))) [] := by
  refine pc_intro ttOk (by kernel_rfl) Try.func18 rfl (by kernel_rfl) (by kernel_rfl) (by kernel_rfl) (fun hw => ?_)
  have hm : (xs.map TAxis.D).length ≤ maxLen := hw.1.1
  have hL : (xs.map TAxis.D).length = xs.length := by simp
  unfold maxLen at hm
  have hall := zSum_le_all zAxis xs
  (conv => whnf)
  (repeat (refine stg_ ?_))
  split
  · rename_i h1
    have h1 := of_decide_eq_true h1
    (conv => whnf)
    (refine RetOK.d rfl rfl ?_; conv => whnf)
    rw [szR_gt (by simp only [zL]; omega)]
  rename_i h1
  have h1 := of_decide_eq_false h1
  (conv => whnf)
  refine LoopW.go (α := Nat) (fun k => [(0, .d (lstD TAxis.D xs)), (1, .d (.int .i64 (left - (xs.map TAxis.D).length - (zSum zAxis xs k : Nat)))), (5, .d (.int .i64 k))]) (fun k => [.gone]) (fun k => k ≤ xs.length ∧ (((xs.map TAxis.D).length + zSum zAxis xs k : Nat) : Int) ≤ left) (fun k => xs.length - k) 0
    (Weak.cov ⟨rfl, by rw [zSum_zero]; show V.d (D.int .i64 _) = V.d (D.int .i64 _); congr 2; omega, rfl, trivial⟩ ⟨trivial, trivial⟩ rfl) ⟨Nat.zero_le _, by rw [zSum_zero]; omega⟩ (fun k hk => ?_)
  obtain ⟨hk, hk2⟩ := hk
  (conv => whnf)
  split
  · rename_i h2
    have h2 := of_decide_eq_true h2
    have h2 : k < xs.length := by omega
    obtain ⟨x, hx⟩ := at_lt h2
    have hs := zSum_succ zAxis hx
    have ha := hall (k + 1)
    (conv => whnf)
    (repeat (refine stg_ ?_))
    by_cases q : (((zAxis x) : Nat) : Int) ≤ (left - ((xs.map TAxis.D).length : Nat) - (zSum zAxis xs k : Nat))
    rotate_left
    · (refine cl_ (szAxis_gt x (left - ((xs.map TAxis.D).length : Nat) - (zSum zAxis xs k : Nat)) (by omega) (by omega) (by omega)) ?_)
      (repeat (refine stg_ ?_))
      (refine RetOK.d rfl rfl ?_; conv => whnf)
      rw [szR_gt (by simp only [zL]; omega)]
    (refine cl_ (szAxis_le x (left - ((xs.map TAxis.D).length : Nat) - (zSum zAxis xs k : Nat)) (by omega) (by omega) q) ?_)
    (repeat (refine stg_ ?_))
    split
    · rename_i q2
      exact absurd (of_decide_eq_true q2) (by omega)
    (conv => whnf)
    (repeat (refine stg_ ?_))
    refine NextW.go (k + 1) (Weak.cov ⟨rfl, by show V.d (D.int .i64 _) = V.d (D.int .i64 _); rw [hs]; congr 2; omega, rfl, trivial⟩ ⟨trivial, trivial⟩ rfl) ⟨by omega, by omega⟩ (by omega)
  · rename_i h2
    have h2 := of_decide_eq_false h2
    obtain rfl : k = xs.length := by omega
    have ha := zSum_all zAxis (Nat.le_refl xs.length)
    (conv => whnf)
    (refine RetOK.d rfl rfl ?_; conv => whnf)
    rw [szR_le (by simp only [zL]; omega)]
    congr 1 <;> ((simp only [zL]) <;> omega)
theorem szAxisS_le (xs : List TAxis) (left : Int) (hl : left ≤ 1048576) (h0 : 0 ≤ left) (hz : (((zL zAxis xs) : Nat) : Int) ≤ left) : PC Try.prog 18 [.d (lstD TAxis.D xs), .d (.int .i64 left)] (.d (.int .i64 (left - (((zL zAxis xs) : Nat) : Int)))) [] := by
  have := szAxisS_v xs left hl h0
  rwa [szR_le hz] at this
theorem szAxisS_gt (xs : List TAxis) (left : Int) (hl : left ≤ 1048576) (h0 : 0 ≤ left) (hz : left < (((zL zAxis xs) : Nat) : Int)) : PC Try.prog 18 [.d (lstD TAxis.D xs), .d (.int .i64 left)] (.d (.int .i64 (-1))) [] := by
  have := szAxisS_v xs left hl h0
  rwa [szR_gt hz] at this

set_option maxHeartbeats 2000000 in
theorem toAxisPoint_v (x : TAxisPoint) : PC Try.prog 73 [.d x.D] (.d x.D) [] := by
  refine pc_intro ttOk (by kernel_rfl) Try.func73 rfl (by kernel_rfl) (by kernel_rfl) (by kernel_rfl) (fun hw => ?_)
  (conv => whnf)
  refine RetOK.d rfl rfl ?_
  ((conv => whnf); (try (refine ⟨_, rfl, ?_⟩)); (repeat ((conv => whnf); (refine ⟨_, _, rfl, ?_, ?_⟩); (focus (first | ((conv => whnf); done) | ((conv => whnf); (refine ⟨_, rfl, ?_⟩); (repeat ((conv => whnf); (refine ⟨_, _, rfl, ?_, ?_⟩); (focus ((conv => whnf); done)))); (conv => whnf)))))); (conv => whnf))
set_option maxHeartbeats 2000000 in
theorem toAxisPointS_v (xs : List TAxisPoint) (hz : xs.length ≤ 1048576) : PC Try.prog 46 [.d (lstD TAxisPoint.D xs)] (.own 1 0 xs.length) [.arr 2 (xs.map TAxisPoint.D) true] := by
  refine pc_intro ttOk (by kernel_rfl) Try.func46 rfl (by kernel_rfl) (by kernel_rfl) (by kernel_rfl) (fun hw => ?_)
  have hL : (xs.map TAxisPoint.D).length = xs.length := by simp
  (conv => whnf)
  refine MkW.at (by omega) (by omega) (by show (16 : Int) * _ ≤ _; omega) ?_
  (conv => whnf)
  refine LoopW.go (α := Nat) (fun k => [(0, .d (lstD TAxisPoint.D xs)), (3, .own 1 0 xs.length), (4, .d (.int .i64 k))]) (fun k => [.gone, .arr 2 (fillL TAxisPoint.D (.st [(.int .i64 0), (.int .i64 0)]) xs k) true]) (fun k => k ≤ xs.length) (fun k => xs.length - k) 0
    (Weak.cov ⟨rfl, by rw [← hL]; rfl, rfl, trivial⟩ ⟨trivial, by rw [fillL_zero, ← hL]; rfl, trivial⟩ rfl) (Nat.zero_le _) (fun k hk => ?_)
  (conv => whnf)
  split
  · rename_i h1
    have h1 := of_decide_eq_true h1
    have h1 : k < xs.length := by omega
    obtain ⟨x, hx⟩ := at_lt h1
    have he := fillL_get TAxisPoint.D (.st [(.int .i64 0), (.int .i64 0)]) xs h1
    have hfl := fillL_len TAxisPoint.D (.st [(.int .i64 0), (.int .i64 0)]) xs k (by omega)
    (conv => whnf)
    (repeat (refine stg_ ?_))
    (refine cl_ (toAxisPoint_v x) ?_)
    (repeat (refine stg_ ?_))
    refine NextW.go (k + 1) (Weak.cov ⟨rfl, rfl, rfl, trivial⟩ ⟨trivial, by rw [← fillL_set _ _ _ hx]; rfl, trivial⟩ rfl) (by omega) (by omega)
  · rename_i h1
    have h1 := of_decide_eq_false h1
    obtain rfl : k = xs.length := by omega
    (conv => whnf)
    refine ⟨⟨[some 1], ⟨by decide, by rw [fillL_all]; rfl, trivial, trivial⟩, by decide, rfl, ?_⟩⟩
    (conv => whnf)
    exact ⟨by decide, rfl⟩
set_option maxHeartbeats 2000000 in
theorem toAxis_v (x : TAxis) (hz : zAxis x ≤ 1048576) : PC Try.prog 15 [.d x.D] x.V x.bs := by
  simp only [zAxis] at hz
  refine pc_intro ttOk (by kernel_rfl) Try.func15 rfl (by kernel_rfl) (by kernel_rfl) (by kernel_rfl) (fun hw => ?_)
  (conv => whnf)
  (refine cl_ (toAxisPointS_v x.fMap (by omega)) ?_)
  (repeat (refine stg_ ?_))
  refine ⟨⟨[some 4], ⟨by decide, rfl, trivial, trivial⟩, by decide, rfl, ?_⟩⟩
  ((conv => whnf); (refine ⟨_, rfl, ?_⟩); (repeat ((conv => whnf); (refine ⟨_, _, rfl, ?_, ?_⟩); (focus ((conv => whnf); first | exact ⟨rfl, rfl⟩ | exact ⟨by decide, rfl⟩)))); (conv => whnf))
set_option maxHeartbeats 2000000 in
theorem toAxisS_v (xs : List TAxis) (hz : (zL zAxis xs) ≤ 1048576) : PC Try.prog 20 [.d (lstD TAxis.D xs)] (.own 1 0 xs.length) [.arr 5 (xs.map TAxis.D) true] := by
  simp only [zL] at hz
  have hall := fun x hx => sum_mem zAxis (xs := xs) (x := x) hx
  refine pc_intro ttOk (by kernel_rfl) Try.func20 rfl (by kernel_rfl) (by kernel_rfl) (by kernel_rfl) (fun hw => ?_)
  have hL : (xs.map TAxis.D).length = xs.length := by simp
  (conv => whnf)
  refine MkW.at (by omega) (by omega) (by show (64 : Int) * _ ≤ _; omega) ?_
  (conv => whnf)
  refine LoopW.go (α := Nat) (fun k => [(0, .d (lstD TAxis.D xs)), (3, .own 1 0 xs.length), (4, .d (.int .i64 k))]) (fun k => [.gone, .arr 5 (fillL TAxis.D (.st [(.str .empty), (.int .i64 0), (.int .i64 0), (.int .i64 0), (.lst [])]) xs k) true]) (fun k => k ≤ xs.length) (fun k => xs.length - k) 0
    (Weak.cov ⟨rfl, by rw [← hL]; rfl, rfl, trivial⟩ ⟨trivial, by rw [fillL_zero, ← hL]; rfl, trivial⟩ rfl) (Nat.zero_le _) (fun k hk => ?_)
  (conv => whnf)
  split
  · rename_i h1
    have h1 := of_decide_eq_true h1
    have h1 : k < xs.length := by omega
    obtain ⟨x, hx⟩ := at_lt h1
    have he := fillL_get TAxis.D (.st [(.str .empty), (.int .i64 0), (.int .i64 0), (.int .i64 0), (.lst [])]) xs h1
    have hfl := fillL_len TAxis.D (.st [(.str .empty), (.int .i64 0), (.int .i64 0), (.int .i64 0), (.lst [])]) xs k (by omega)
    have ha := hall x (List.mem_of_getElem? hx)
    (conv => whnf)
    (repeat (refine stg_ ?_))
    (refine cl_ (toAxis_v x (by omega)) ?_)
    (repeat (refine stg_ ?_))
    refine NextW.go (k + 1) (Weak.cov ⟨rfl, rfl, rfl, trivial⟩ ⟨trivial, by rw [← fillL_set _ _ _ hx]; rfl, trivial⟩ rfl) (by omega) (by omega)
  · rename_i h1
    have h1 := of_decide_eq_false h1
    obtain rfl : k = xs.length := by omega
    (conv => whnf)
    refine ⟨⟨[some 1], ⟨by decide, by rw [fillL_all]; rfl, trivial, trivial⟩, by decide, rfl, ?_⟩⟩
    (conv => whnf)
    exact ⟨by decide, rfl⟩
set_option maxHeartbeats 2000000 in
theorem toInt64S_v (xs : List Int) (hz : xs.length ≤ 1048576) : PC Try.prog 42 [.d (lstD (D.int .i64) xs)] (.own 1 0 xs.length) [.arr 1 (xs.map (D.int .i64)) true] := by
  refine pc_intro ttOk (by kernel_rfl) Try.func42 rfl (by kernel_rfl) (by kernel_rfl) (by kernel_rfl) (fun hw => ?_)
  have hL : (xs.map (D.int .i64)).length = xs.length := by simp
  (conv => whnf)
  refine MkW.at (by omega) (by omega) (by show (8 : Int) * _ ≤ _; omega) ?_
  (conv => whnf)
  refine LoopW.go (α := Nat) (fun k => [(0, .d (lstD (D.int .i64) xs)), (3, .own 1 0 xs.length), (4, .d (.int .i64 k))]) (fun k => [.gone, .arr 1 (fillL (D.int .i64) (.int .i64 0) xs k) true]) (fun k => k ≤ xs.length) (fun k => xs.length - k) 0
    (Weak.cov ⟨rfl, by rw [← hL]; rfl, rfl, trivial⟩ ⟨trivial, by rw [fillL_zero, ← hL]; rfl, trivial⟩ rfl) (Nat.zero_le _) (fun k hk => ?_)
  (conv => whnf)
  split
  · rename_i h1
    have h1 := of_decide_eq_true h1
    have h1 : k < xs.length := by omega
    obtain ⟨x, hx⟩ := at_lt h1
    have he := fillL_get (D.int .i64) (.int .i64 0) xs h1
    have hfl := fillL_len (D.int .i64) (.int .i64 0) xs k (by omega)
    (conv => whnf)
    (repeat (refine stg_ ?_))
    refine NextW.go (k + 1) (Weak.cov ⟨rfl, rfl, rfl, trivial⟩ ⟨trivial, by rw [← fillL_set _ _ _ hx]; rfl, trivial⟩ rfl) (by omega) (by omega)
  · rename_i h1
    have h1 := of_decide_eq_false h1
    obtain rfl : k = xs.length := by omega
    (conv => whnf)
    refine ⟨⟨[some 1], ⟨by decide, by rw [fillL_all]; rfl, trivial, trivial⟩, by decide, rfl, ?_⟩⟩
    (conv => whnf)
    exact ⟨by decide, rfl⟩

set_option maxHeartbeats 2000000 in
theorem eqAxisPoint_v (x : TAxisPoint) : PC Try.prog 77 [.d x.D, .d x.D] (.d (.bool true)) [] := by
  refine pc_intro ttOk (by kernel_rfl) Try.func77 rfl (by kernel_rfl) (by kernel_rfl) (by kernel_rfl) (fun hw => ?_)
  (conv => whnf)
  (repeat (refine stg_ ?_))
  split
  · rename_i q
    simp at q
  (conv => whnf)
  (repeat (refine stg_ ?_))
  split
  · rename_i q
    simp at q
  (conv => whnf)
  (repeat (refine stg_ ?_))
  (refine RetOK.d rfl rfl ?_; conv => whnf)
set_option maxHeartbeats 2000000 in
theorem eqAxisPointS_v (xs : List TAxisPoint) : PC Try.prog 49 [.d (lstD TAxisPoint.D xs), .d (lstD TAxisPoint.D xs)] (.d (.bool true)) [] := by
  refine pc_intro ttOk (by kernel_rfl) Try.func49 rfl (by kernel_rfl) (by kernel_rfl) (by kernel_rfl) (fun hw => ?_)
  have hm : (xs.map TAxisPoint.D).length ≤ maxLen := hw.1.1
  have hL : (xs.map TAxisPoint.D).length = xs.length := by simp
  unfold maxLen at hm
  (conv => whnf)
  split
  · rename_i h
    simp at h
  (conv => whnf)
  refine LoopW.go (α := Nat) (fun k => [(0, .d (lstD TAxisPoint.D xs)), (1, .d (lstD TAxisPoint.D xs)), (5, .d (.int .i64 k))]) (fun k => [.gone]) (fun k => k ≤ xs.length) (fun k => xs.length - k) 0
    (Weak.cov ⟨rfl, rfl, rfl, trivial⟩ ⟨trivial, trivial⟩ rfl) (Nat.zero_le _) (fun k hk => ?_)
  (conv => whnf)
  split
  · rename_i h1
    have h1 := of_decide_eq_true h1
    have h1 : k < xs.length := by omega
    obtain ⟨x, hx⟩ := at_lt h1
    (conv => whnf)
    (repeat (refine stg_ ?_))
    (refine cl_ (eqAxisPoint_v x) ?_)
    (repeat (refine stg_ ?_))
    refine NextW.go (k + 1) (Weak.cov ⟨rfl, rfl, rfl, trivial⟩ ⟨trivial, trivial⟩ rfl) (by omega) (by omega)
  · (conv => whnf)
    (refine RetOK.d rfl rfl ?_; conv => whnf)
set_option maxHeartbeats 2000000 in
theorem eqAxis_v (x : TAxis) : PC Try.prog 17 [.d x.D, .d x.D] (.d (.bool true)) [] := by
  refine pc_intro ttOk (by kernel_rfl) Try.func17 rfl (by kernel_rfl) (by kernel_rfl) (by kernel_rfl) (fun hw => ?_)
  (conv => whnf)
  (repeat (refine stg_ ?_))
  split
  · rename_i q
    simp at q
  (conv => whnf)
  (repeat (refine stg_ ?_))
  split
  · rename_i q
    simp at q
  (conv => whnf)
  (repeat (refine stg_ ?_))
  split
  · rename_i q
    simp at q
  (conv => whnf)
  (repeat (refine stg_ ?_))
  split
  · rename_i q
    simp at q
  (conv => whnf)
  (repeat (refine stg_ ?_))
  (refine cl_ (eqAxisPointS_v x.fMap) ?_)
  (repeat (refine stg_ ?_))
  (repeat (refine stg_ ?_))
  (refine RetOK.d rfl rfl ?_; conv => whnf)
set_option maxHeartbeats 2000000 in
theorem eqAxisS_v (xs : List TAxis) : PC Try.prog 22 [.d (lstD TAxis.D xs), .d (lstD TAxis.D xs)] (.d (.bool true)) [] := by
  refine pc_intro ttOk (by kernel_rfl) Try.func22 rfl (by kernel_rfl) (by kernel_rfl) (by kernel_rfl) (fun hw => ?_)
  have hm : (xs.map TAxis.D).length ≤ maxLen := hw.1.1
  have hL : (xs.map TAxis.D).length = xs.length := by simp
  unfold maxLen at hm
  (conv => whnf)
  split
  · rename_i h
    simp at h
  (conv => whnf)
  refine LoopW.go (α := Nat) (fun k => [(0, .d (lstD TAxis.D xs)), (1, .d (lstD TAxis.D xs)), (5, .d (.int .i64 k))]) (fun k => [.gone]) (fun k => k ≤ xs.length) (fun k => xs.length - k) 0
    (Weak.cov ⟨rfl, rfl, rfl, trivial⟩ ⟨trivial, trivial⟩ rfl) (Nat.zero_le _) (fun k hk => ?_)
  (conv => whnf)
  split
  · rename_i h1
    have h1 := of_decide_eq_true h1
    have h1 : k < xs.length := by omega
    obtain ⟨x, hx⟩ := at_lt h1
    (conv => whnf)
    (repeat (refine stg_ ?_))
    (refine cl_ (eqAxis_v x) ?_)
    (repeat (refine stg_ ?_))
    refine NextW.go (k + 1) (Weak.cov ⟨rfl, rfl, rfl, trivial⟩ ⟨trivial, trivial⟩ rfl) (by omega) (by omega)
  · (conv => whnf)
    (refine RetOK.d rfl rfl ?_; conv => whnf)
set_option maxHeartbeats 2000000 in
theorem eqInt64S_v (xs : List Int) : PC Try.prog 37 [.d (lstD (D.int .i64) xs), .d (lstD (D.int .i64) xs)] (.d (.bool true)) [] := by
  refine pc_intro ttOk (by kernel_rfl) Try.func37 rfl (by kernel_rfl) (by kernel_rfl) (by kernel_rfl) (fun hw => ?_)
  have hm : (xs.map (D.int .i64)).length ≤ maxLen := hw.1.1
  have hL : (xs.map (D.int .i64)).length = xs.length := by simp
  unfold maxLen at hm
  (conv => whnf)
  split
  · rename_i h
    simp at h
  (conv => whnf)
  refine LoopW.go (α := Nat) (fun k => [(0, .d (lstD (D.int .i64) xs)), (1, .d (lstD (D.int .i64) xs)), (5, .d (.int .i64 k))]) (fun k => [.gone]) (fun k => k ≤ xs.length) (fun k => xs.length - k) 0
    (Weak.cov ⟨rfl, rfl, rfl, trivial⟩ ⟨trivial, trivial⟩ rfl) (Nat.zero_le _) (fun k hk => ?_)
  (conv => whnf)
  split
  · rename_i h1
    have h1 := of_decide_eq_true h1
    have h1 : k < xs.length := by omega
    obtain ⟨x, hx⟩ := at_lt h1
    (conv => whnf)
    (repeat (refine stg_ ?_))
    split
    · rename_i q
      simp at q
    (conv => whnf)
    (repeat (refine stg_ ?_))
    refine NextW.go (k + 1) (Weak.cov ⟨rfl, rfl, rfl, trivial⟩ ⟨trivial, trivial⟩ rfl) (by omega) (by omega)
  · (conv => whnf)
    (refine RetOK.d rfl rfl ?_; conv => whnf)

end Go.Proofs.Ytnbhanbpaeidbaa
