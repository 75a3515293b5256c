/- Lists of axes: ValidAxes, AxisNamed, both, by the machine. -/
import Derived.Test.YtnbhanbpaeidbaaGen
import Derived.Test.YtnbhanbpaeidbaaAxV7
set_option linter.unusedSimpArgs false
set_option linter.unusedVariables false
namespace Go.Proofs.Ytnbhanbpaeidbaa
open Go.RowKit
def nmEq (s : ByteArray) (x : TAxis) : Bool := x.fName.toList == s.toList
/-- the rest of a list of axes, behind those that were seen -/
def axsGo : List TAxis → List TAxis → Bool
  | _, [] => true
  | pre, x :: t => axB x && (!pre.any (nmEq x.fName) && axsGo (pre ++ [x]) t)
def axsB (xs : List TAxis) : Bool := decide (xs.length ≤ 3) && axsGo [] xs
theorem axsGo_at {xs : List TAxis} {k : Nat} {x : TAxis} (hx : xs[k]? = some x) : axsGo (xs.take k) (xs.drop k) = (axB x && (!(xs.take k).any (nmEq x.fName) && axsGo (xs.take (k + 1)) (xs.drop (k + 1)))) := by
  rw [drop_at hx, axsGo, take_snoc_get hx]
theorem axsGo_end {xs : List TAxis} {k : Nat} (hk : xs.length ≤ k) : axsGo (xs.take k) (xs.drop k) = true := by
  rw [List.drop_eq_nil_of_le hk]; rfl
theorem axNm1_v (x : TAxis) (s : ByteArray) : PC Try.prog 79 [.d x.D, .pX (.str s)] (.d (.bool (nmEq s x))) [] := by
  refine pc_intro ttOk (by kernel_rfl) Try.func79 rfl (by kernel_rfl) (by kernel_rfl) (by kernel_rfl) (fun hw => ?_)
  (conv => whnf)
  (refine RetOK.d rfl rfl ?_; conv => whnf)
  rfl
theorem ixAx_v (xs : List TAxis) (f : Nat) (y : D) (p : TAxis → Bool) (hf : ∀ x : TAxis, PC Try.prog f [.d x.D, .pX y] (.d (.bool (p x))) []) :
    PC Try.prog 78 [.d (.lst (xs.map TAxis.D)), .fn (.func f) [.pX y]] (.d (.int .i64 (fdx p xs 0))) [] := by
  refine pc_intro ttOk (by kernel_rfl) Try.func78 rfl (by kernel_rfl) (by kernel_rfl) (by kernel_rfl) (fun hw => ?_)
  have hL : (xs.map TAxis.D).length = xs.length := List.length_map _
  have hm : (xs.map TAxis.D).length ≤ 9223372036854775807 := hw.1.1
  (conv => whnf)
  refine LoopW.go (α := Nat) (fun k => [(0, .d (.lst (xs.map TAxis.D))), (1, .fn (.func f) [.pX y]), (7, .d (.int .i64 (xs.map TAxis.D).length)), (8, .d (.int .i64 k))]) (fun k => [.gone]) (fun k => k ≤ xs.length ∧ fdx p xs 0 = fdx p (xs.drop k) k) (fun k => xs.length - k) 0 covT_ ?_ (fun k hk => ?_)
  · exact ⟨by omega, rfl⟩
  obtain ⟨hk1, hk2⟩ := hk
  (conv => whnf)
  (refine br_ (fun h2 => ?_) (fun h2 => ?_) <;> (repeat (refine stg_ ?_)))
  · obtain ⟨x, hx⟩ := at_lt' (xs := xs) (k := k) (by omega)
    rw [fdx_at hx] at hk2
    (repeat (refine stg_ ?_))
    (refine cla_ (hf x) ?_)
    (refine br_ (fun h3 => ?_) (fun h3 => ?_) <;> (repeat (refine stg_ ?_)))
    · (refine RetOK.d rfl rfl ?_; conv => whnf)
      rw [hk2, if_pos h3]
    · (repeat (refine stg_ ?_))
      exact NextW.go (k + 1) covT_ ⟨by omega, by rw [hk2, h3]; rfl⟩ (by omega)
  · (refine RetOK.d rfl rfl ?_; conv => whnf)
    rw [hk2, fdx_end (by omega)]
theorem axisNamed_v (xs : List TAxis) (s : ByteArray) : PC Try.prog 55 [.d (.lst (xs.map TAxis.D)), .d (.str s)] (.d (.int .i64 (fdx (nmEq s) xs 0))) [] := by
  refine pc_intro ttOk (by kernel_rfl) Try.func55 rfl (by kernel_rfl) (by kernel_rfl) (by kernel_rfl) (fun hw => ?_)
  (conv => whnf)
  (refine cla_ (ixAx_v xs _ (.str s) (nmEq s) (fun x => axNm1_v x s)) ?_)
  (refine RetOK.d rfl rfl ?_; conv => whnf)
theorem foundIndex_v (n : Int) : PC Try.prog 62 [.d (.int .i64 n)] (.tup [.d (.int .i64 (if n < 0 then 0 else n)), .d (.bool (decide (0 ≤ n)))]) [] := by
  refine pc_intro ttOk (by kernel_rfl) Try.func62 rfl (by kernel_rfl) (by kernel_rfl) (by kernel_rfl) (fun hw => ?_)
  have hn1 : -9223372036854775808 ≤ n ∧ n ≤ 9223372036854775807 := hw.1
  (conv => whnf)
  (repeat' (first | (refine stg_ ?_) | fail | (refine br_ (fun hbr => ?_) (fun hbr => ?_))))
  all_goals (refine RetOK.t rfl ?_; (repeat' ((conv => whnf); (first | done | (refine ⟨_, _, rfl, ⟨rfl, ?_⟩, ?_⟩) | fail))); (all_goals (conv => whnf)))
  (all_goals (first | rfl | (congr 1; omega) | (simp_all; done) | (simp; omega) | (simp_all; omega) | grind))
set_option maxHeartbeats 1000000 in
theorem ValidAxes_v (xs : List TAxis) : PC Try.prog 24 [.d (.lst (xs.map TAxis.D))] (.d (.bool (axsB xs))) [] := by
  refine pc_intro ttOk (by kernel_rfl) Try.func24 rfl (by kernel_rfl) (by kernel_rfl) (by kernel_rfl) (fun hw => ?_)
  have hL : (xs.map TAxis.D).length = xs.length := List.length_map _
  have hm : (xs.map TAxis.D).length ≤ 9223372036854775807 := hw.1.1
  (conv => whnf)
  (refine br_ (fun h1 => ?_) (fun h1 => ?_) <;> (repeat (refine stg_ ?_)))
  · (refine RetOK.d rfl rfl ?_; conv => whnf)
    rw [axsB, decide_eq_false (by omega)]; rfl
  · refine LoopW.go (α := Nat) (fun k => [(0, .d (.lst (xs.map TAxis.D))), (8, .d (.lst (xs.map TAxis.D))), (9, .d (.int .i64 (xs.map TAxis.D).length)), (10, .d (.int .i64 k))]) (fun k => [.gone]) (fun k => k ≤ xs.length ∧ axsB xs = axsGo (xs.take k) (xs.drop k)) (fun k => xs.length - k) 0 covT_ ?_ (fun k hk => ?_)
    · exact ⟨by omega, by rw [axsB, decide_eq_true (by omega)]; rfl⟩
    obtain ⟨hk1, hk2⟩ := hk
    (conv => whnf)
    (refine br_ (fun h2 => ?_) (fun h2 => ?_) <;> (repeat (refine stg_ ?_)))
    · obtain ⟨x, hx⟩ := at_lt' (xs := xs) (k := k) (by omega)
      rw [axsGo_at hx] at hk2
      have hT : ((xs.map TAxis.D).drop 0).take (k - 0) = (xs.take k).map TAxis.D := by simp
      have hF := fdx_any (nmEq x.fName) (xs.take k) 0
      rw [← hF] at hk2
      (repeat' (first | (refine stg_ ?_) | (refine cla_ (ValidAxis_v x) ?_) | (refine SzW.map (fun y => rfl) ?_; (conv => whnf)) | (apply CallW.use (axisNamed_v (xs.take k) x.fName); (focus (refine ⟨_, _, rfl, ?_, _, _, rfl, rfl, rfl⟩; exact congrArg (fun z => V.d (.lst z)) hT.symm)); (focus rfl); (conv => whnf)) | (refine br_ (fun hbr => ?_) (fun hbr => ?_))))
      · (refine RetOK.d rfl rfl ?_; conv => whnf)
        simp_all
      · (refine RetOK.d rfl rfl ?_; conv => whnf)
        simp_all
      · exact NextW.go (k + 1) covT_ ⟨by omega, by rw [hk2, decide_eq_false (by omega)]; simp_all⟩ (by omega)
    · (refine RetOK.d rfl rfl ?_; conv => whnf)
      rw [hk2, axsGo_end (by omega)]
set_option maxHeartbeats 1000000 in
theorem l29Ok_v (xs : List TAxis) : PC Try.prog 54 [.d (.lst (xs.map TAxis.D))] (.d (.bool (axsB xs))) [] := by
  refine pc_intro ttOk (by kernel_rfl) Try.func54 rfl (by kernel_rfl) (by kernel_rfl) (by kernel_rfl) (fun hw => ?_)
  have hL : (xs.map TAxis.D).length = xs.length := List.length_map _
  have hm : (xs.map TAxis.D).length ≤ 9223372036854775807 := hw.1.1
  (conv => whnf)
  refine LoopW.go (α := Nat) (fun k => [(0, .d (.lst (xs.map TAxis.D))), (3, .d (.int .i64 k))]) (fun k => [.gone]) (fun k => k ≤ xs.length ∧ axsGo [] xs = axsGo (xs.take k) (xs.drop k)) (fun k => xs.length - k) 0 covT_ ?_ (fun k hk => ?_)
  · exact ⟨by omega, rfl⟩
  obtain ⟨hk1, hk2⟩ := hk
  (conv => whnf)
  (refine br_ (fun h2 => ?_) (fun h2 => ?_) <;> (repeat (refine stg_ ?_)))
  · obtain ⟨x, hx⟩ := at_lt' (xs := xs) (k := k) (by omega)
    rw [axsGo_at hx] at hk2
    (repeat (refine stg_ ?_))
    (refine cl_ (l29Axis_v x) ?_)
    (refine br_ (fun h3 => ?_) (fun h3 => ?_) <;> (repeat (refine stg_ ?_)))
    · (refine RetOK.d rfl rfl ?_; conv => whnf)
      rw [axsB, hk2, h3, Bool.false_and, Bool.and_false]
    · rw [h3, Bool.true_and] at hk2
      refine LoopW.go (α := Nat) (fun j => [(0, .d (.lst (xs.map TAxis.D))), (3, .d (.int .i64 k)), (4, .d (.int .i64 j))]) (fun _ => [.gone]) (fun j => j ≤ k ∧ (xs.take j).any (nmEq x.fName) = false) (fun j => k - j) 0 covT_ ?_ (fun j hj => ?_)
      · exact ⟨by omega, rfl⟩
      obtain ⟨hj1, hj2⟩ := hj
      (conv => whnf)
      (refine br_ (fun h4 => ?_) (fun h4 => ?_) <;> (repeat (refine stg_ ?_)))
      · obtain ⟨y, hy⟩ := at_lt' (xs := xs) (k := j) (by omega)
        (repeat (refine stg_ ?_))
        (refine br_ (fun h5 => ?_) (fun h5 => ?_) <;> (repeat (refine stg_ ?_)))
        · (refine RetOK.d rfl rfl ?_; conv => whnf)
          rw [axsB, hk2, any_take hy (by omega) (show nmEq x.fName y = true by simp [nmEq, h5])]
          simp
        · (repeat (refine stg_ ?_))
          exact NextW.go (j + 1) covT_ ⟨by omega, by rw [any_snoc hy, hj2]; simp [nmEq, h5]⟩ (by omega)
      · have : j = k := by omega
        subst this
        rw [hj2] at hk2
        (repeat (refine stg_ ?_))
        exact NextW.go (j + 1) covT_ ⟨by omega, by rw [hk2]; rfl⟩ (by omega)
  · (refine RetOK.d rfl rfl ?_; conv => whnf)
    rw [axsB, hk2, axsGo_end (by omega), Bool.and_true, hL]
    congr 1
    exact decide_eq_decide.2 (by omega)
theorem specValidAxes_v (xs : List TAxis) : PC Try.prog 23 [.d (.lst (xs.map TAxis.D))] (.d (.bool (axsB xs))) [] := by
  refine pc_intro ttOk (by kernel_rfl) Try.func23 rfl (by kernel_rfl) (by kernel_rfl) (by kernel_rfl) (fun hw => ?_)
  (conv => whnf)
  (refine cl_ (l29Ok_v xs) ?_)
  (refine RetOK.d rfl rfl ?_; conv => whnf)
def naB (xs : List TAxis) (s : ByteArray) : Bool := axsB xs && decide (0 ≤ fdx (nmEq s) xs 0)
def naI (xs : List TAxis) (s : ByteArray) : Int := if naB xs s = true then fdx (nmEq s) xs 0 else 0
theorem specAxisNamed_v (xs : List TAxis) (s : ByteArray) : PC Try.prog 29 [.d (.lst (xs.map TAxis.D)), .d (.str s)] (.tup [.d (.int .i64 (naI xs s)), .d (.bool (naB xs s))]) [] := by
  refine pc_intro ttOk (by kernel_rfl) Try.func29 rfl (by kernel_rfl) (by kernel_rfl) (by kernel_rfl) (fun hw => ?_)
  have hL : (xs.map TAxis.D).length = xs.length := List.length_map _
  have hm : (xs.map TAxis.D).length ≤ 9223372036854775807 := hw.1.1
  have hB : naB xs s = (axsB xs && decide (0 ≤ fdx (nmEq s) xs 0)) := rfl
  have hI : naI xs s = if naB xs s = true then fdx (nmEq s) xs 0 else 0 := rfl
  generalize naB xs s = B at *
  generalize naI xs s = I at *
  (conv => whnf)
  (refine cl_ (l29Ok_v xs) ?_)
  (refine br_ (fun h1 => ?_) (fun h1 => ?_) <;> (repeat (refine stg_ ?_)))
  · rw [h1, Bool.false_and] at hB
    subst hB
    (refine RetOK.t rfl ?_; (repeat' ((conv => whnf); (first | done | (refine ⟨_, _, rfl, ⟨rfl, ?_⟩, ?_⟩) | fail))); (all_goals (conv => whnf)))
    (all_goals (first | rfl | (congr 1; omega) | (simp_all; done) | (simp; omega) | (simp_all; omega) | grind))
  · rw [h1, Bool.true_and] at hB
    refine LoopW.go (α := Nat) (fun k => [(0, .d (.lst (xs.map TAxis.D))), (1, .d (.str s)), (6, .d (.int .i64 k))]) (fun k => [.gone]) (fun k => k ≤ xs.length ∧ fdx (nmEq s) xs 0 = fdx (nmEq s) (xs.drop k) k) (fun k => xs.length - k) 0 covT_ ?_ (fun k hk => ?_)
    · exact ⟨by omega, rfl⟩
    obtain ⟨hk1, hk2⟩ := hk
    (conv => whnf)
    (refine br_ (fun h2 => ?_) (fun h2 => ?_) <;> (repeat (refine stg_ ?_)))
    · obtain ⟨x, hx⟩ := at_lt' (xs := xs) (k := k) (by omega)
      rw [fdx_at hx] at hk2
      (repeat (refine stg_ ?_))
      (refine br_ (fun h5 => ?_) (fun h5 => ?_) <;> (repeat (refine stg_ ?_)))
      · rw [if_pos (show nmEq s x = true by simp [nmEq, h5])] at hk2
        rw [hk2, decide_eq_true (by omega)] at hB
        rw [hB, hk2] at hI
        subst hB hI
        (refine RetOK.t rfl ?_; (repeat' ((conv => whnf); (first | done | (refine ⟨_, _, rfl, ⟨rfl, ?_⟩, ?_⟩) | fail))); (all_goals (conv => whnf)))
        (all_goals (first | rfl | (congr 1; omega) | (simp_all; done) | (simp; omega) | (simp_all; omega) | grind))
      · rw [if_neg (show ¬ nmEq s x = true by simp [nmEq, h5])] at hk2
        (repeat (refine stg_ ?_))
        exact NextW.go (k + 1) covT_ ⟨by omega, hk2⟩ (by omega)
    · rw [hk2, fdx_end (by omega)] at hB
      subst hB hI
      (refine RetOK.t rfl ?_; (repeat' ((conv => whnf); (first | done | (refine ⟨_, _, rfl, ⟨rfl, ?_⟩, ?_⟩) | fail))); (all_goals (conv => whnf)))
      (all_goals (first | rfl | (congr 1; omega) | (simp_all; done) | (simp; omega) | (simp_all; omega) | grind))
theorem AxisNamed_v (xs : List TAxis) (s : ByteArray) : PC Try.prog 30 [.d (.lst (xs.map TAxis.D)), .d (.str s)] (.tup [.d (.int .i64 (naI xs s)), .d (.bool (naB xs s))]) [] := by
  refine pc_intro ttOk (by kernel_rfl) Try.func30 rfl (by kernel_rfl) (by kernel_rfl) (by kernel_rfl) (fun hw => ?_)
  have hB : naB xs s = (axsB xs && decide (0 ≤ fdx (nmEq s) xs 0)) := rfl
  have hI : naI xs s = if naB xs s = true then fdx (nmEq s) xs 0 else 0 := rfl
  generalize naB xs s = B at *
  generalize naI xs s = I at *
  (conv => whnf)
  (refine cl_ (ValidAxes_v xs) ?_)
  (refine br_ (fun h1 => ?_) (fun h1 => ?_) <;> (repeat (refine stg_ ?_)))
  · rw [h1, Bool.false_and] at hB
    subst hB
    (refine RetOK.t rfl ?_; (repeat' ((conv => whnf); (first | done | (refine ⟨_, _, rfl, ⟨rfl, ?_⟩, ?_⟩) | fail))); (all_goals (conv => whnf)))
    (all_goals (first | rfl | (congr 1; omega) | (simp_all; done) | (simp; omega) | (simp_all; omega) | grind))
  · rw [h1, Bool.true_and] at hB
    subst hB
    (refine cl_ (axisNamed_v xs s) ?_)
    (refine cl_ (foundIndex_v _) ?_)
    (repeat' (first | (refine stg_ ?_) | fail | (refine br_ (fun hbr => ?_) (fun hbr => ?_))))
    (refine RetOK.t rfl ?_; (repeat' ((conv => whnf); (first | done | (refine ⟨_, _, rfl, ⟨rfl, ?_⟩, ?_⟩) | fail))); (all_goals (conv => whnf)))
    (all_goals (first | rfl | (congr 1; omega) | (simp_all; done) | (simp; omega) | (simp_all; omega) | grind))
end Go.Proofs.Ytnbhanbpaeidbaa
