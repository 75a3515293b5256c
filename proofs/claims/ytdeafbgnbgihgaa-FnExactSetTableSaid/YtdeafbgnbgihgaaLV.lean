/- The laws' own functions (sizes, copies, comparisons): what each returns. Written by a program (wip/tools/gen_lv.py). -/
import Derived.Test.YtdeafbgnbgihgaaLVBase
set_option linter.unusedSimpArgs false
set_option linter.unusedVariables false
namespace Go.Proofs.Ytdeafbgnbgihgaa
open Go.RowKit
def zL {α : Type} (f : α → Nat) (xs : List α) : Nat := xs.length + (xs.map f).sum
def zTable (x : TTable) : Nat := x.fTag.size + x.fData.size
set_option maxHeartbeats 2000000 in
theorem szTable_v (x : TTable) (left : Int) (hl : left ≤ 1048576) (h0 : 0 ≤ left) : PC Try.prog 13 [.d x.D, .d (.int .i64 left)] (.d (.int .i64 (szR left (zTable x)))) [] := by
  refine pc_intro ttOk (by kernel_rfl) Try.func13 rfl (by kernel_rfl) (by kernel_rfl) (by kernel_rfl) (fun hw => ?_)
  have hm0 : x.fTag.size ≤ maxLen := hw.1.1
  unfold maxLen at hm0
  have hm1 : x.fData.size ≤ maxLen := hw.1.2.1
  unfold maxLen at hm1
  (conv => whnf)
  (repeat (refine stg_ ?_))
  split
  · rename_i g0
    have g0 := of_decide_eq_true g0
    (conv => whnf)
    (refine RetOK.d rfl rfl ?_; conv => whnf)
    rw [szR_gt (by simp only [zTable]; omega)]
  rename_i g0
  have g0 := of_decide_eq_false g0
  (conv => whnf)
  (repeat (refine stg_ ?_))
  split
  · rename_i g1
    have g1 := of_decide_eq_true g1
    (conv => whnf)
    (refine RetOK.d rfl rfl ?_; conv => whnf)
    rw [szR_gt (by simp only [zTable]; omega)]
  rename_i g1
  have g1 := of_decide_eq_false g1
  (conv => whnf)
  (refine RetOK.d rfl rfl ?_; conv => whnf)
  rw [szR_le (by simp only [zTable]; omega)]
  congr 1 <;> ((simp only [zTable]) <;> omega)
theorem szTable_le (x : TTable) (left : Int) (hl : left ≤ 1048576) (h0 : 0 ≤ left) (hz : (((zTable x) : Nat) : Int) ≤ left) : PC Try.prog 13 [.d x.D, .d (.int .i64 left)] (.d (.int .i64 (left - (((zTable x) : Nat) : Int)))) [] := by
  have := szTable_v x left hl h0
  rwa [szR_le hz] at this
theorem szTable_gt (x : TTable) (left : Int) (hl : left ≤ 1048576) (h0 : 0 ≤ left) (hz : left < (((zTable x) : Nat) : Int)) : PC Try.prog 13 [.d x.D, .d (.int .i64 left)] (.d (.int .i64 (-1))) [] := by
  have := szTable_v x left hl h0
  rwa [szR_gt hz] at this
set_option maxHeartbeats 2000000 in
theorem szTableS_v (xs : List TTable) (left : Int) (hl : left ≤ 1048576) (h0 : 0 ≤ left) : PC Try.prog 6 [.d (lstD TTable.D xs), .d (.int .i64 left)] (.d (.int .i64 (szR left (zL zTable xs)))) [] := by
  refine pc_intro ttOk (by kernel_rfl) Try.func6 rfl (by kernel_rfl) (by kernel_rfl) (by kernel_rfl) (fun hw => ?_)
  have hm : (xs.map TTable.D).length ≤ maxLen := hw.1.1
  have hL : (xs.map TTable.D).length = xs.length := by simp
  unfold maxLen at hm
  have hall := zSum_le_all zTable xs
  (conv => whnf)
  (repeat (refine stg_ ?_))
  split
  · rename_i h1
    have h1 := of_decide_eq_true h1
    (conv => whnf)
    (refine RetOK.d rfl rfl ?_; conv => whnf)
    rw [szR_gt (by simp only [zL]; omega)]
  rename_i h1
  have h1 := of_decide_eq_false h1
  (conv => whnf)
  refine LoopW.go (α := Nat) (fun k => [(0, .d (lstD TTable.D xs)), (1, .d (.int .i64 (left - (xs.map TTable.D).length - (zSum zTable xs k : Nat)))), (5, .d (.int .i64 k))]) (fun k => [.gone]) (fun k => k ≤ xs.length ∧ (((xs.map TTable.D).length + zSum zTable xs k : Nat) : Int) ≤ left) (fun k => xs.length - k) 0
    (Weak.cov ⟨rfl, by rw [zSum_zero]; show V.d (D.int .i64 _) = V.d (D.int .i64 _); congr 2; omega, rfl, trivial⟩ ⟨trivial, trivial⟩ rfl) ⟨Nat.zero_le _, by rw [zSum_zero]; omega⟩ (fun k hk => ?_)
  obtain ⟨hk, hk2⟩ := hk
  (conv => whnf)
  split
  · rename_i h2
    have h2 := of_decide_eq_true h2
    have h2 : k < xs.length := by omega
    obtain ⟨x, hx⟩ := at_lt h2
    have hs := zSum_succ zTable hx
    have ha := hall (k + 1)
    (conv => whnf)
    (repeat (refine stg_ ?_))
    by_cases q : (((zTable x) : Nat) : Int) ≤ (left - ((xs.map TTable.D).length : Nat) - (zSum zTable xs k : Nat))
    rotate_left
    · (refine cl_ (szTable_gt x (left - ((xs.map TTable.D).length : Nat) - (zSum zTable xs k : Nat)) (by omega) (by omega) (by omega)) ?_)
      (repeat (refine stg_ ?_))
      (refine RetOK.d rfl rfl ?_; conv => whnf)
      rw [szR_gt (by simp only [zL]; omega)]
    (refine cl_ (szTable_le x (left - ((xs.map TTable.D).length : Nat) - (zSum zTable xs k : Nat)) (by omega) (by omega) q) ?_)
    (repeat (refine stg_ ?_))
    split
    · rename_i q2
      exact absurd (of_decide_eq_true q2) (by omega)
    (conv => whnf)
    (repeat (refine stg_ ?_))
    refine NextW.go (k + 1) (Weak.cov ⟨rfl, by show V.d (D.int .i64 _) = V.d (D.int .i64 _); rw [hs]; congr 2; omega, rfl, trivial⟩ ⟨trivial, trivial⟩ rfl) ⟨by omega, by omega⟩ (by omega)
  · rename_i h2
    have h2 := of_decide_eq_false h2
    obtain rfl : k = xs.length := by omega
    have ha := zSum_all zTable (Nat.le_refl xs.length)
    (conv => whnf)
    (refine RetOK.d rfl rfl ?_; conv => whnf)
    rw [szR_le (by simp only [zL]; omega)]
    congr 1 <;> ((simp only [zL]) <;> omega)
theorem szTableS_le (xs : List TTable) (left : Int) (hl : left ≤ 1048576) (h0 : 0 ≤ left) (hz : (((zL zTable xs) : Nat) : Int) ≤ left) : PC Try.prog 6 [.d (lstD TTable.D xs), .d (.int .i64 left)] (.d (.int .i64 (left - (((zL zTable xs) : Nat) : Int)))) [] := by
  have := szTableS_v xs left hl h0
  rwa [szR_le hz] at this
theorem szTableS_gt (xs : List TTable) (left : Int) (hl : left ≤ 1048576) (h0 : 0 ≤ left) (hz : left < (((zL zTable xs) : Nat) : Int)) : PC Try.prog 6 [.d (lstD TTable.D xs), .d (.int .i64 left)] (.d (.int .i64 (-1))) [] := by
  have := szTableS_v xs left hl h0
  rwa [szR_gt hz] at this

set_option maxHeartbeats 2000000 in
theorem toTable_v (x : TTable) : PC Try.prog 15 [.d x.D] (.d x.D) [] := by
  refine pc_intro ttOk (by kernel_rfl) Try.func15 rfl (by kernel_rfl) (by kernel_rfl) (by kernel_rfl) (fun hw => ?_)
  (conv => whnf)
  refine RetOK.d rfl rfl ?_
  ((conv => whnf); (try (refine ⟨_, rfl, ?_⟩)); (repeat ((conv => whnf); (refine ⟨_, _, rfl, ?_, ?_⟩); (focus (first | ((conv => whnf); done) | ((conv => whnf); (refine ⟨_, rfl, ?_⟩); (repeat ((conv => whnf); (refine ⟨_, _, rfl, ?_, ?_⟩); (focus ((conv => whnf); done)))); (conv => whnf)))))); (conv => whnf))
set_option maxHeartbeats 2000000 in
theorem toTableS_v (xs : List TTable) (hz : (zL zTable xs) ≤ 1048576) : PC Try.prog 8 [.d (lstD TTable.D xs)] (.own 1 0 xs.length) [.arr 2 (xs.map TTable.D) true] := by
  simp only [zL] at hz
  have hall := fun x hx => sum_mem zTable (xs := xs) (x := x) hx
  refine pc_intro ttOk (by kernel_rfl) Try.func8 rfl (by kernel_rfl) (by kernel_rfl) (by kernel_rfl) (fun hw => ?_)
  have hL : (xs.map TTable.D).length = xs.length := by simp
  (conv => whnf)
  refine MkW.at (by omega) (by omega) (by show (32 : Int) * _ ≤ _; omega) ?_
  (conv => whnf)
  refine LoopW.go (α := Nat) (fun k => [(0, .d (lstD TTable.D xs)), (3, .own 1 0 xs.length), (4, .d (.int .i64 k))]) (fun k => [.gone, .arr 2 (fillL TTable.D (.st [(.str .empty), (.str .empty)]) xs k) true]) (fun k => k ≤ xs.length) (fun k => xs.length - k) 0
    (Weak.cov ⟨rfl, by rw [← hL]; rfl, rfl, trivial⟩ ⟨trivial, by rw [fillL_zero, ← hL]; rfl, trivial⟩ rfl) (Nat.zero_le _) (fun k hk => ?_)
  (conv => whnf)
  split
  · rename_i h1
    have h1 := of_decide_eq_true h1
    have h1 : k < xs.length := by omega
    obtain ⟨x, hx⟩ := at_lt h1
    have he := fillL_get TTable.D (.st [(.str .empty), (.str .empty)]) xs h1
    have hfl := fillL_len TTable.D (.st [(.str .empty), (.str .empty)]) xs k (by omega)
    have ha := hall x (List.mem_of_getElem? hx)
    (conv => whnf)
    (repeat (refine stg_ ?_))
    (refine cl_ (toTable_v x) ?_)
    (repeat (refine stg_ ?_))
    refine NextW.go (k + 1) (Weak.cov ⟨rfl, rfl, rfl, trivial⟩ ⟨trivial, by rw [← fillL_set _ _ _ hx]; rfl, trivial⟩ rfl) (by omega) (by omega)
  · rename_i h1
    have h1 := of_decide_eq_false h1
    obtain rfl : k = xs.length := by omega
    (conv => whnf)
    refine ⟨⟨[some 1], ⟨by decide, by rw [fillL_all]; rfl, trivial, trivial⟩, by decide, rfl, ?_⟩⟩
    (conv => whnf)
    exact ⟨by decide, rfl⟩

set_option maxHeartbeats 2000000 in
theorem eqTable_v (x : TTable) : PC Try.prog 25 [.d x.D, .d x.D] (.d (.bool true)) [] := by
  refine pc_intro ttOk (by kernel_rfl) Try.func25 rfl (by kernel_rfl) (by kernel_rfl) (by kernel_rfl) (fun hw => ?_)
  (conv => whnf)
  (repeat (refine stg_ ?_))
  split
  · rename_i q
    simp at q
  (conv => whnf)
  (repeat (refine stg_ ?_))
  split
  · rename_i q
    simp at q
  (conv => whnf)
  (repeat (refine stg_ ?_))
  (refine RetOK.d rfl rfl ?_; conv => whnf)
set_option maxHeartbeats 2000000 in
theorem eqTableS_v (xs : List TTable) : PC Try.prog 10 [.d (lstD TTable.D xs), .d (lstD TTable.D xs)] (.d (.bool true)) [] := by
  refine pc_intro ttOk (by kernel_rfl) Try.func10 rfl (by kernel_rfl) (by kernel_rfl) (by kernel_rfl) (fun hw => ?_)
  have hm : (xs.map TTable.D).length ≤ maxLen := hw.1.1
  have hL : (xs.map TTable.D).length = xs.length := by simp
  unfold maxLen at hm
  (conv => whnf)
  split
  · rename_i h
    simp at h
  (conv => whnf)
  refine LoopW.go (α := Nat) (fun k => [(0, .d (lstD TTable.D xs)), (1, .d (lstD TTable.D xs)), (5, .d (.int .i64 k))]) (fun k => [.gone]) (fun k => k ≤ xs.length) (fun k => xs.length - k) 0
    (Weak.cov ⟨rfl, rfl, rfl, trivial⟩ ⟨trivial, trivial⟩ rfl) (Nat.zero_le _) (fun k hk => ?_)
  (conv => whnf)
  split
  · rename_i h1
    have h1 := of_decide_eq_true h1
    have h1 : k < xs.length := by omega
    obtain ⟨x, hx⟩ := at_lt h1
    (conv => whnf)
    (repeat (refine stg_ ?_))
    (refine cl_ (eqTable_v x) ?_)
    (repeat (refine stg_ ?_))
    refine NextW.go (k + 1) (Weak.cov ⟨rfl, rfl, rfl, trivial⟩ ⟨trivial, trivial⟩ rfl) (by omega) (by omega)
  · (conv => whnf)
    (refine RetOK.d rfl rfl ?_; conv => whnf)

end Go.Proofs.Ytdeafbgnbgihgaa
