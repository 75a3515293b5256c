/- The laws' own functions (sizes, copies, comparisons): what each returns. Written by a program (wip/tools/gen_lv.py). -/
import Derived.Test.YtdeafbgnbgihgaaDoorLVBase
set_option linter.unusedSimpArgs false
set_option linter.unusedVariables false
namespace Go.Proofs.YtdeafbgnbgihgaaDoor
open Go.RowKit
def zL {α : Type} (f : α → Nat) (xs : List α) : Nat := xs.length + (xs.map f).sum
def zTable (x : TTable) : Nat := x.fTag.size + x.fData.size
end Go.Proofs.YtdeafbgnbgihgaaDoor
