/- ValidAxis (the program's own), by the machine. -/
import Derived.Test.YtdjdkkacbkfmeaaAxV6
set_option linter.unusedSimpArgs false
set_option linter.unusedVariables false
namespace Go.Proofs.Ytdjdkkacbkfmeaa
open Go.RowKit
set_option maxHeartbeats 4000000 in
theorem ValidAxis_v (a : TAxis) : PC Try.prog 121 [.d a.D] (.d (.bool (axB a))) [] := by
  refine pc_intro ttOk (by kernel_rfl) Try.func121 rfl (by kernel_rfl) (by kernel_rfl) (by kernel_rfl) (fun hw => ?_)
  have c1 := IsName_v a.fName
  have c4 := validAxisMap_v a.fMap
  have hB : axB a = (nameB a.fName && (decide (-32000 ≤ a.fMin) && decide (a.fMin ≤ a.fDefault)) && (decide (a.fDefault ≤ a.fMax) && decide (a.fMax ≤ 32000)) && decide (a.fMin < a.fMax) && mapB a.fMap) := rfl
  generalize nameB a.fName = b1 at *
  generalize mapB a.fMap = b4 at *
  rw [hB]
  clear hB
  cases b1
  · (conv => whnf)
    (repeat (refine stg_ ?_))
    (refine cl_ (c1) ?_)
    (repeat' (first | (refine stg_ ?_) | (split <;> (conv => whnf))))
    all_goals ((refine RetOK.d rfl rfl ?_; conv => whnf); simp_all)
  · cases b4
    all_goals ((conv => whnf); (repeat (refine stg_ ?_)); ((refine cl_ (c1) ?_)); (repeat' (first | (refine stg_ ?_) | ((refine cl_ (c4) ?_)) | (split <;> (conv => whnf)))))
    all_goals ((refine RetOK.d rfl rfl ?_; conv => whnf); simp_all <;> (intros; omega))
end Go.Proofs.Ytdjdkkacbkfmeaa
