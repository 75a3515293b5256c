/- Axes: the reference's own validity, by the machine. -/
import Derived.Test.YtdjdkkacbkfmeaaAxV3
set_option linter.unusedSimpArgs false
set_option linter.unusedVariables false
namespace Go.Proofs.Ytdjdkkacbkfmeaa
open Go.RowKit
/-- is this an axis? -/
def axB (a : TAxis) : Bool := nameB a.fName && inB a.fMin (-32000) a.fDefault && inB a.fMax a.fDefault 32000 && decide (a.fMin < a.fMax) && mapB a.fMap
theorem l29Axis_v (a : TAxis) : PC Try.prog 152 [.pX a.D] (.d (.bool (axB a))) [] := by
  refine pc_intro ttOk (by kernel_rfl) Try.func152 rfl (by kernel_rfl) (by kernel_rfl) (by kernel_rfl) (fun hw => ?_)
  have c1 := specIsName_v a.fName
  have c2 := l00In_v a.fMin (-32000) a.fDefault
  have c3 := l00In_v a.fMax a.fDefault 32000
  have c4 := l29Map_v a.fMap
  have hB : axB a = (nameB a.fName && inB a.fMin (-32000) a.fDefault && inB a.fMax a.fDefault 32000 && decide (a.fMin < a.fMax) && mapB a.fMap) := rfl
  generalize nameB a.fName = b1 at *
  generalize inB a.fMin (-32000) a.fDefault = b2 at *
  generalize inB a.fMax a.fDefault 32000 = b3 at *
  generalize mapB a.fMap = b4 at *
  rw [hB]
  clear hB
  cases b1
  · (conv => whnf)
    (repeat (refine stg_ ?_))
    (refine cl_ (c1) ?_)
    (repeat' (first | (refine stg_ ?_) | (split <;> (conv => whnf))))
    all_goals ((refine RetOK.d rfl rfl ?_; conv => whnf); simp_all)
  · cases b2
    · (conv => whnf)
      (repeat (refine stg_ ?_))
      (refine cl_ (c1) ?_)
      (refine cl_ (c2) ?_)
      (repeat' (first | (refine stg_ ?_) | (split <;> (conv => whnf))))
      all_goals ((refine RetOK.d rfl rfl ?_; conv => whnf); simp_all)
    · cases b3
      · (conv => whnf)
        (repeat (refine stg_ ?_))
        (refine cl_ (c1) ?_)
        (refine cl_ (c2) ?_)
        (refine cl_ (c3) ?_)
        (repeat' (first | (refine stg_ ?_) | (split <;> (conv => whnf))))
        all_goals ((refine RetOK.d rfl rfl ?_; conv => whnf); simp_all)
      · (conv => whnf)
        (repeat (refine stg_ ?_))
        (refine cl_ (c1) ?_)
        (refine cl_ (c2) ?_)
        (refine cl_ (c3) ?_)
        (refine br_ (fun h1 => ?_) (fun h1 => ?_) <;> (repeat (refine stg_ ?_)))
        · (refine cl_ (c4) ?_)
          (repeat' (first | (refine stg_ ?_) | (split <;> (conv => whnf))))
          all_goals ((refine RetOK.d rfl rfl ?_; conv => whnf); simp_all)
        · (repeat' (first | (refine stg_ ?_) | (split <;> (conv => whnf))))
          all_goals ((refine RetOK.d rfl rfl ?_; conv => whnf); rw [decide_eq_false (p := a.fMin < a.fMax) (by omega)]; rfl)
end Go.Proofs.Ytdjdkkacbkfmeaa
