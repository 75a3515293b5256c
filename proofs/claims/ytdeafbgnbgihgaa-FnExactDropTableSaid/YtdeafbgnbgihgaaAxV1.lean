/- Leaf functions of the axes, by the machine. -/
import Derived.Test.YtdeafbgnbgihgaaTT
import Derived.Test.YtdeafbgnbgihgaaAxPl
set_option linter.unusedSimpArgs false
set_option linter.unusedVariables false
namespace Go.Proofs.Ytdeafbgnbgihgaa
open Go.RowKit
theorem isSmall_v (c : UInt8) : PC Try.prog 61 [.d (.int .u8 c.toNat)] (.d (.bool (smB c))) [] := by
  refine pc_intro ttOk (by kernel_rfl) Try.func61 rfl (by kernel_rfl) (by kernel_rfl) (by kernel_rfl) (fun hw => ?_)
  (conv => whnf)
  (repeat' (first | (refine stg_ ?_) | (split <;> (conv => whnf))))
  (all_goals ((refine RetOK.d rfl rfl ?_; conv => whnf); (simp_all [smB]); (try omega)))
theorem isDigit_v (c : UInt8) : PC Try.prog 48 [.d (.int .u8 c.toNat)] (.d (.bool (dgB c))) [] := by
  refine pc_intro ttOk (by kernel_rfl) Try.func48 rfl (by kernel_rfl) (by kernel_rfl) (by kernel_rfl) (fun hw => ?_)
  (conv => whnf)
  (repeat' (first | (refine stg_ ?_) | (split <;> (conv => whnf))))
  (all_goals ((refine RetOK.d rfl rfl ?_; conv => whnf); (simp_all [dgB]); (try omega)))
theorem l01Digit_v (c : UInt8) : PC Try.prog 46 [.d (.int .u8 c.toNat)] (.d (.bool (dgB c))) [] := by
  refine pc_intro ttOk (by kernel_rfl) Try.func46 rfl (by kernel_rfl) (by kernel_rfl) (by kernel_rfl) (fun hw => ?_)
  (conv => whnf)
  (repeat' (first | (refine stg_ ?_) | (split <;> (conv => whnf))))
  (all_goals ((refine RetOK.d rfl rfl ?_; conv => whnf); (simp_all [dgB]); (try omega)))
end Go.Proofs.Ytdeafbgnbgihgaa
