/- Lists of axes: ValidAxes, AxisNamed, both, by the machine. -/
import Derived.Test.YtdjdkkacbkfmeaaGen
import Derived.Test.YtdjdkkacbkfmeaaAxV7
set_option linter.unusedSimpArgs false
set_option linter.unusedVariables false
namespace Go.Proofs.Ytdjdkkacbkfmeaa
open Go.RowKit
def nmEq (s : ByteArray) (x : TAxis) : Bool := x.fName.toList == s.toList
/-- the rest of a list of axes, behind those that were seen -/
def axsGo : List TAxis → List TAxis → Bool
  | _, [] => true
  | pre, x :: t => axB x && (!pre.any (nmEq x.fName) && axsGo (pre ++ [x]) t)
def axsB (xs : List TAxis) : Bool := decide (xs.length ≤ 3) && axsGo [] xs
theorem axsGo_at {xs : List TAxis} {k : Nat} {x : TAxis} (hx : xs[k]? = some x) : axsGo (xs.take k) (xs.drop k) = (axB x && (!(xs.take k).any (nmEq x.fName) && axsGo (xs.take (k + 1)) (xs.drop (k + 1)))) := by
  rw [drop_at hx, axsGo, take_snoc_get hx]
theorem axsGo_end {xs : List TAxis} {k : Nat} (hk : xs.length ≤ k) : axsGo (xs.take k) (xs.drop k) = true := by
  rw [List.drop_eq_nil_of_le hk]; rfl
theorem axNm1_v (x : TAxis) (s : ByteArray) : PC Try.prog 184 [.d x.D, .pX (.str s)] (.d (.bool (nmEq s x))) [] := by
  refine pc_intro ttOk (by kernel_rfl) Try.func184 rfl (by kernel_rfl) (by kernel_rfl) (by kernel_rfl) (fun hw => ?_)
  (conv => whnf)
  (refine RetOK.d rfl rfl ?_; conv => whnf)
  rfl
theorem ixAx_v (xs : List TAxis) (f : Nat) (y : D) (p : TAxis → Bool) (hf : ∀ x : TAxis, PC Try.prog f [.d x.D, .pX y] (.d (.bool (p x))) []) :
    PC Try.prog 183 [.d (.lst (xs.map TAxis.D)), .fn (.func f) [.pX y]] (.d (.int .i64 (fdx p xs 0))) [] := by
  refine pc_intro ttOk (by kernel_rfl) Try.func183 rfl (by kernel_rfl) (by kernel_rfl) (by kernel_rfl) (fun hw => ?_)
  have hL : (xs.map TAxis.D).length = xs.length := List.length_map _
  have hm : (xs.map TAxis.D).length ≤ 9223372036854775807 := hw.1.1
  (conv => whnf)
  refine LoopW.go (α := Nat) (fun k => [(0, .d (.lst (xs.map TAxis.D))), (1, .fn (.func f) [.pX y]), (7, .d (.int .i64 (xs.map TAxis.D).length)), (8, .d (.int .i64 k))]) (fun k => [.gone]) (fun k => k ≤ xs.length ∧ fdx p xs 0 = fdx p (xs.drop k) k) (fun k => xs.length - k) 0 covT_ ?_ (fun k hk => ?_)
  · exact ⟨by omega, rfl⟩
  obtain ⟨hk1, hk2⟩ := hk
  (conv => whnf)
  (refine br_ (fun h2 => ?_) (fun h2 => ?_) <;> (repeat (refine stg_ ?_)))
  · obtain ⟨x, hx⟩ := at_lt' (xs := xs) (k := k) (by omega)
    rw [fdx_at hx] at hk2
    (repeat (refine stg_ ?_))
    (refine cla_ (hf x) ?_)
    (refine br_ (fun h3 => ?_) (fun h3 => ?_) <;> (repeat (refine stg_ ?_)))
    · (refine RetOK.d rfl rfl ?_; conv => whnf)
      rw [hk2, if_pos h3]
    · (repeat (refine stg_ ?_))
      exact NextW.go (k + 1) covT_ ⟨by omega, by rw [hk2, h3]; rfl⟩ (by omega)
  · (refine RetOK.d rfl rfl ?_; conv => whnf)
    rw [hk2, fdx_end (by omega)]
theorem axisNamed_v (xs : List TAxis) (s : ByteArray) : PC Try.prog 155 [.d (.lst (xs.map TAxis.D)), .d (.str s)] (.d (.int .i64 (fdx (nmEq s) xs 0))) [] := by
  refine pc_intro ttOk (by kernel_rfl) Try.func155 rfl (by kernel_rfl) (by kernel_rfl) (by kernel_rfl) (fun hw => ?_)
  (conv => whnf)
  (refine cla_ (ixAx_v xs _ (.str s) (nmEq s) (fun x => axNm1_v x s)) ?_)
  (refine RetOK.d rfl rfl ?_; conv => whnf)
set_option maxHeartbeats 1000000 in
theorem ValidAxes_v (xs : List TAxis) : PC Try.prog 115 [.d (.lst (xs.map TAxis.D))] (.d (.bool (axsB xs))) [] := by
  refine pc_intro ttOk (by kernel_rfl) Try.func115 rfl (by kernel_rfl) (by kernel_rfl) (by kernel_rfl) (fun hw => ?_)
  have hL : (xs.map TAxis.D).length = xs.length := List.length_map _
  have hm : (xs.map TAxis.D).length ≤ 9223372036854775807 := hw.1.1
  (conv => whnf)
  (refine br_ (fun h1 => ?_) (fun h1 => ?_) <;> (repeat (refine stg_ ?_)))
  · (refine RetOK.d rfl rfl ?_; conv => whnf)
    rw [axsB, decide_eq_false (by omega)]; rfl
  · refine LoopW.go (α := Nat) (fun k => [(0, .d (.lst (xs.map TAxis.D))), (8, .d (.lst (xs.map TAxis.D))), (9, .d (.int .i64 (xs.map TAxis.D).length)), (10, .d (.int .i64 k))]) (fun k => [.gone]) (fun k => k ≤ xs.length ∧ axsB xs = axsGo (xs.take k) (xs.drop k)) (fun k => xs.length - k) 0 covT_ ?_ (fun k hk => ?_)
    · exact ⟨by omega, by rw [axsB, decide_eq_true (by omega)]; rfl⟩
    obtain ⟨hk1, hk2⟩ := hk
    (conv => whnf)
    (refine br_ (fun h2 => ?_) (fun h2 => ?_) <;> (repeat (refine stg_ ?_)))
    · obtain ⟨x, hx⟩ := at_lt' (xs := xs) (k := k) (by omega)
      rw [axsGo_at hx] at hk2
      have hT : ((xs.map TAxis.D).drop 0).take (k - 0) = (xs.take k).map TAxis.D := by simp
      have hF := fdx_any (nmEq x.fName) (xs.take k) 0
      rw [← hF] at hk2
      (repeat' (first | (refine stg_ ?_) | (refine cla_ (ValidAxis_v x) ?_) | (refine SzW.map (fun y => rfl) ?_; (conv => whnf)) | (apply CallW.use (axisNamed_v (xs.take k) x.fName); (focus (refine ⟨_, _, rfl, ?_, _, _, rfl, rfl, rfl⟩; exact congrArg (fun z => V.d (.lst z)) hT.symm)); (focus rfl); (conv => whnf)) | (refine br_ (fun hbr => ?_) (fun hbr => ?_))))
      · (refine RetOK.d rfl rfl ?_; conv => whnf)
        simp_all
      · (refine RetOK.d rfl rfl ?_; conv => whnf)
        simp_all
      · exact NextW.go (k + 1) covT_ ⟨by omega, by rw [hk2, decide_eq_false (by omega)]; simp_all⟩ (by omega)
    · (refine RetOK.d rfl rfl ?_; conv => whnf)
      rw [hk2, axsGo_end (by omega)]
set_option maxHeartbeats 1000000 in
theorem l29Ok_v (xs : List TAxis) : PC Try.prog 109 [.d (.lst (xs.map TAxis.D))] (.d (.bool (axsB xs))) [] := by
  refine pc_intro ttOk (by kernel_rfl) Try.func109 rfl (by kernel_rfl) (by kernel_rfl) (by kernel_rfl) (fun hw => ?_)
  have hL : (xs.map TAxis.D).length = xs.length := List.length_map _
  have hm : (xs.map TAxis.D).length ≤ 9223372036854775807 := hw.1.1
  (conv => whnf)
  refine LoopW.go (α := Nat) (fun k => [(0, .d (.lst (xs.map TAxis.D))), (3, .d (.int .i64 k))]) (fun k => [.gone]) (fun k => k ≤ xs.length ∧ axsGo [] xs = axsGo (xs.take k) (xs.drop k)) (fun k => xs.length - k) 0 covT_ ?_ (fun k hk => ?_)
  · exact ⟨by omega, rfl⟩
  obtain ⟨hk1, hk2⟩ := hk
  (conv => whnf)
  (refine br_ (fun h2 => ?_) (fun h2 => ?_) <;> (repeat (refine stg_ ?_)))
  · obtain ⟨x, hx⟩ := at_lt' (xs := xs) (k := k) (by omega)
    rw [axsGo_at hx] at hk2
    (repeat (refine stg_ ?_))
    (refine cl_ (l29Axis_v x) ?_)
    (refine br_ (fun h3 => ?_) (fun h3 => ?_) <;> (repeat (refine stg_ ?_)))
    · (refine RetOK.d rfl rfl ?_; conv => whnf)
      rw [axsB, hk2, h3, Bool.false_and, Bool.and_false]
    · rw [h3, Bool.true_and] at hk2
      refine LoopW.go (α := Nat) (fun j => [(0, .d (.lst (xs.map TAxis.D))), (3, .d (.int .i64 k)), (4, .d (.int .i64 j))]) (fun _ => [.gone]) (fun j => j ≤ k ∧ (xs.take j).any (nmEq x.fName) = false) (fun j => k - j) 0 covT_ ?_ (fun j hj => ?_)
      · exact ⟨by omega, rfl⟩
      obtain ⟨hj1, hj2⟩ := hj
      (conv => whnf)
      (refine br_ (fun h4 => ?_) (fun h4 => ?_) <;> (repeat (refine stg_ ?_)))
      · obtain ⟨y, hy⟩ := at_lt' (xs := xs) (k := j) (by omega)
        (repeat (refine stg_ ?_))
        (refine br_ (fun h5 => ?_) (fun h5 => ?_) <;> (repeat (refine stg_ ?_)))
        · (refine RetOK.d rfl rfl ?_; conv => whnf)
          rw [axsB, hk2, any_take hy (by omega) (show nmEq x.fName y = true by simp [nmEq, h5])]
          simp
        · (repeat (refine stg_ ?_))
          exact NextW.go (j + 1) covT_ ⟨by omega, by rw [any_snoc hy, hj2]; simp [nmEq, h5]⟩ (by omega)
      · have : j = k := by omega
        subst this
        rw [hj2] at hk2
        (repeat (refine stg_ ?_))
        exact NextW.go (j + 1) covT_ ⟨by omega, by rw [hk2]; rfl⟩ (by omega)
  · (refine RetOK.d rfl rfl ?_; conv => whnf)
    rw [axsB, hk2, axsGo_end (by omega), Bool.and_true, hL]
    congr 1
    exact decide_eq_decide.2 (by omega)
def naB (xs : List TAxis) (s : ByteArray) : Bool := axsB xs && decide (0 ≤ fdx (nmEq s) xs 0)
def naI (xs : List TAxis) (s : ByteArray) : Int := if naB xs s = true then fdx (nmEq s) xs 0 else 0
end Go.Proofs.Ytdjdkkacbkfmeaa
