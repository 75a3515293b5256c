/- SameAxes, both, by the machine. -/
import Derived.Test.YtdjdkkacbkfmeaaGen
import Derived.Test.YtdjdkkacbkfmeaaAxV5
set_option linter.unusedSimpArgs false
set_option linter.unusedVariables false
namespace Go.Proofs.Ytdjdkkacbkfmeaa
open Go.RowKit
def axEq (x y : TAxis) : Bool := (x.fName.toList == y.fName.toList) && ((x.fMin == y.fMin) && ((x.fDefault == y.fDefault) && ((x.fMax == y.fMax) && eqL apEq x.fMap y.fMap)))
theorem eqApL_v (xs ys : List TAxisPoint) : PC Try.prog 89 [.d (.lst (xs.map TAxisPoint.D)), .d (.lst (ys.map TAxisPoint.D))] (.d (.bool (eqL apEq xs ys))) [] := by
  refine pc_intro ttOk (by kernel_rfl) Try.func89 rfl (by kernel_rfl) (by kernel_rfl) (by kernel_rfl) (fun hw => ?_)
  have hL : (xs.map TAxisPoint.D).length = xs.length := List.length_map _
  have hL' : (ys.map TAxisPoint.D).length = ys.length := List.length_map _
  have hm : (xs.map TAxisPoint.D).length ≤ 9223372036854775807 := hw.1.1
  (conv => whnf)
  (refine br_ (fun h1 => ?_) (fun h1 => ?_) <;> (repeat (refine stg_ ?_)))
  · (refine RetOK.d rfl rfl ?_; conv => whnf)
    rw [eqL_len (by omega)]
  · refine LoopW.go (α := Nat) (fun k => [(0, .d (.lst (xs.map TAxisPoint.D))), (1, .d (.lst (ys.map TAxisPoint.D))), (12, .d (.int .i64 (xs.map TAxisPoint.D).length)), (13, .d (.int .i64 k))]) (fun k => [.gone]) (fun k => k ≤ xs.length ∧ eqL apEq xs ys = eqL apEq (xs.drop k) (ys.drop k)) (fun k => xs.length - k) 0 covT_ ?_ (fun k hk => ?_)
    · exact ⟨by omega, rfl⟩
    obtain ⟨hk1, hk2⟩ := hk
    (conv => whnf)
    (refine br_ (fun h2 => ?_) (fun h2 => ?_) <;> (repeat (refine stg_ ?_)))
    · obtain ⟨x, hx⟩ := at_lt' (xs := xs) (k := k) (by omega)
      obtain ⟨y, hy⟩ := at_lt' (xs := ys) (k := k) (by omega)
      rw [eqL_at hx hy] at hk2
      (repeat (refine stg_ ?_))
      (refine br_ (fun h3 => ?_) (fun h3 => ?_) <;> (repeat (refine stg_ ?_)))
      · (refine RetOK.d rfl rfl ?_; conv => whnf)
        rw [hk2, show apEq x y = false by rw [apEq]; simp; first | omega | grind]; rfl
      · (repeat (refine stg_ ?_))
        exact NextW.go (k + 1) covT_ ⟨by omega, by rw [hk2, show apEq x y = true by rw [apEq]; simp; first | omega | grind]; rfl⟩ (by omega)
    · (refine RetOK.d rfl rfl ?_; conv => whnf)
      rw [hk2, eqL_end (by omega) (by omega)]
theorem same1_v (x y : TAxis) : PC Try.prog 88 [.d x.D, .d y.D] (.d (.bool (axEq x y))) [] := by
  refine pc_intro ttOk (by kernel_rfl) Try.func88 rfl (by kernel_rfl) (by kernel_rfl) (by kernel_rfl) (fun hw => ?_)
  (conv => whnf)
  (repeat' (first | (refine stg_ ?_) | (refine cl_ (eqApL_v _ _) ?_) | (refine br_ (fun hbr => ?_) (fun hbr => ?_))))
  all_goals ((refine RetOK.d rfl rfl ?_; conv => whnf); simp_all [axEq])
theorem eqFn_v (xs ys : List TAxis) (f : Nat) (p : TAxis → TAxis → Bool) (hf : ∀ x y, PC Try.prog f [.d x.D, .d y.D] (.d (.bool (p x y))) []) :
    PC Try.prog 87 [.d (.lst (xs.map TAxis.D)), .d (.lst (ys.map TAxis.D)), .fn (.func f) []] (.d (.bool (eqL p xs ys))) [] := by
  refine pc_intro ttOk (by kernel_rfl) Try.func87 rfl (by kernel_rfl) (by kernel_rfl) (by kernel_rfl) (fun hw => ?_)
  have hL : (xs.map TAxis.D).length = xs.length := List.length_map _
  have hL' : (ys.map TAxis.D).length = ys.length := List.length_map _
  have hm : (xs.map TAxis.D).length ≤ 9223372036854775807 := hw.1.1
  (conv => whnf)
  (refine br_ (fun h1 => ?_) (fun h1 => ?_) <;> (repeat (refine stg_ ?_)))
  · (refine RetOK.d rfl rfl ?_; conv => whnf)
    rw [eqL_len (by omega)]
  · refine LoopW.go (α := Nat) (fun k => [(0, .d (.lst (xs.map TAxis.D))), (1, .d (.lst (ys.map TAxis.D))), (2, .fn (.func f) []), (15, .d (.lst (xs.map TAxis.D))), (16, .d (.int .i64 (xs.map TAxis.D).length)), (17, .d (.int .i64 k))]) (fun k => [.gone]) (fun k => k ≤ xs.length ∧ eqL p xs ys = eqL p (xs.drop k) (ys.drop k)) (fun k => xs.length - k) 0 covT_ ?_ (fun k hk => ?_)
    · exact ⟨by omega, rfl⟩
    obtain ⟨hk1, hk2⟩ := hk
    (conv => whnf)
    (refine br_ (fun h2 => ?_) (fun h2 => ?_) <;> (repeat (refine stg_ ?_)))
    · obtain ⟨x, hx⟩ := at_lt' (xs := xs) (k := k) (by omega)
      obtain ⟨y, hy⟩ := at_lt' (xs := ys) (k := k) (by omega)
      rw [eqL_at hx hy] at hk2
      (repeat (refine stg_ ?_))
      (refine cla_ (hf x y) ?_)
      (refine br_ (fun h3 => ?_) (fun h3 => ?_) <;> (repeat (refine stg_ ?_)))
      · (refine RetOK.d rfl rfl ?_; conv => whnf)
        rw [hk2, h3]; rfl
      · (repeat (refine stg_ ?_))
        exact NextW.go (k + 1) covT_ ⟨by omega, by rw [hk2, h3]; rfl⟩ (by omega)
    · (refine RetOK.d rfl rfl ?_; conv => whnf)
      rw [hk2, eqL_end (by omega) (by omega)]
theorem SameAxes_v (xs ys : List TAxis) : PC Try.prog 43 [.d (.lst (xs.map TAxis.D)), .d (.lst (ys.map TAxis.D))] (.d (.bool (eqL axEq xs ys))) [] := by
  refine pc_intro ttOk (by kernel_rfl) Try.func43 rfl (by kernel_rfl) (by kernel_rfl) (by kernel_rfl) (fun hw => ?_)
  (conv => whnf)
  (refine cla_ (eqFn_v xs ys _ axEq same1_v) ?_)
  (refine RetOK.d rfl rfl ?_; conv => whnf)
set_option maxHeartbeats 1000000 in
theorem l29Same_v (x y : TAxis) : PC Try.prog 83 [.pX x.D, .pX y.D] (.d (.bool (axEq x y))) [] := by
  refine pc_intro ttOk (by kernel_rfl) Try.func83 rfl (by kernel_rfl) (by kernel_rfl) (by kernel_rfl) (fun hw => ?_)
  have hL : (x.fMap.map TAxisPoint.D).length = x.fMap.length := List.length_map _
  have hL' : (y.fMap.map TAxisPoint.D).length = y.fMap.length := List.length_map _
  (conv => whnf)
  (refine RegD.auto (by kernel_rfl) ?_; conv => whnf)
  (repeat' (first | (refine stg_ ?_) | fail | (refine br_ (fun hbr => ?_) (fun hbr => ?_))))
  all_goals first | ((refine RetOK.d rfl rfl ?_; conv => whnf); simp_all [axEq]; done) | skip
  · skip
    (refine RetOK.d rfl rfl ?_; conv => whnf)
    rw [axEq, eqL_len (by omega)]; simp
  · skip
    have hE : axEq x y = eqL apEq x.fMap y.fMap := by simp_all [axEq]
    have hm : (x.fMap.map TAxisPoint.D).length ≤ 9223372036854775807 := hw.1.2.2.2.2.1.1
    refine LoopW.go (α := Nat) (fun k => [(0, .pX x.D), (1, .pX y.D), (5, .d (.int .i64 k))]) (fun k => [.gone]) (fun k => k ≤ x.fMap.length ∧ axEq x y = eqL apEq (x.fMap.drop k) (y.fMap.drop k)) (fun k => x.fMap.length - k) 0 covT_ ?_ (fun k hk => ?_)
    · exact ⟨by omega, hE⟩
    obtain ⟨hk1, hk2⟩ := hk
    (conv => whnf)
    (refine br_ (fun h6 => ?_) (fun h6 => ?_) <;> (repeat (refine stg_ ?_)))
    · obtain ⟨x', hx⟩ := at_lt' (xs := x.fMap) (k := k) (by omega)
      obtain ⟨y', hy⟩ := at_lt' (xs := y.fMap) (k := k) (by omega)
      rw [eqL_at hx hy] at hk2
      (repeat (refine stg_ ?_))
      (refine br_ (fun h7 => ?_) (fun h7 => ?_) <;> (repeat (refine stg_ ?_)))
      · (refine RetOK.d rfl rfl ?_; conv => whnf)
        rw [hk2, show apEq x' y' = false by rw [apEq]; simp; grind]; rfl
      · (repeat (refine stg_ ?_))
        exact NextW.go (k + 1) covT_ ⟨by omega, by rw [hk2, show apEq x' y' = true by rw [apEq]; simp; grind]; rfl⟩ (by omega)
    · (refine RetOK.d rfl rfl ?_; conv => whnf)
      rw [hk2, eqL_end (by omega) (by omega)]
theorem specSameAxes_v (xs ys : List TAxis) : PC Try.prog 36 [.d (.lst (xs.map TAxis.D)), .d (.lst (ys.map TAxis.D))] (.d (.bool (eqL axEq xs ys))) [] := by
  refine pc_intro ttOk (by kernel_rfl) Try.func36 rfl (by kernel_rfl) (by kernel_rfl) (by kernel_rfl) (fun hw => ?_)
  have hL : (xs.map TAxis.D).length = xs.length := List.length_map _
  have hL' : (ys.map TAxis.D).length = ys.length := List.length_map _
  have hm : (xs.map TAxis.D).length ≤ 9223372036854775807 := hw.1.1
  (conv => whnf)
  (refine br_ (fun h1 => ?_) (fun h1 => ?_) <;> (repeat (refine stg_ ?_)))
  · (refine RetOK.d rfl rfl ?_; conv => whnf)
    rw [eqL_len (by omega)]
  · refine LoopW.go (α := Nat) (fun k => [(0, .d (.lst (xs.map TAxis.D))), (1, .d (.lst (ys.map TAxis.D))), (5, .d (.int .i64 k))]) (fun k => [.gone]) (fun k => k ≤ xs.length ∧ eqL axEq xs ys = eqL axEq (xs.drop k) (ys.drop k)) (fun k => xs.length - k) 0 covT_ ?_ (fun k hk => ?_)
    · exact ⟨by omega, rfl⟩
    obtain ⟨hk1, hk2⟩ := hk
    (conv => whnf)
    (refine br_ (fun h2 => ?_) (fun h2 => ?_) <;> (repeat (refine stg_ ?_)))
    · obtain ⟨x, hx⟩ := at_lt' (xs := xs) (k := k) (by omega)
      obtain ⟨y, hy⟩ := at_lt' (xs := ys) (k := k) (by omega)
      rw [eqL_at hx hy] at hk2
      (repeat (refine stg_ ?_))
      (refine cl_ (l29Same_v x y) ?_)
      (refine br_ (fun h3 => ?_) (fun h3 => ?_) <;> (repeat (refine stg_ ?_)))
      · (refine RetOK.d rfl rfl ?_; conv => whnf)
        rw [hk2, h3]; rfl
      · (repeat (refine stg_ ?_))
        exact NextW.go (k + 1) covT_ ⟨by omega, by rw [hk2, h3]; rfl⟩ (by omega)
    · (refine RetOK.d rfl rfl ?_; conv => whnf)
      rw [hk2, eqL_end (by omega) (by omega)]
end Go.Proofs.Ytdjdkkacbkfmeaa
