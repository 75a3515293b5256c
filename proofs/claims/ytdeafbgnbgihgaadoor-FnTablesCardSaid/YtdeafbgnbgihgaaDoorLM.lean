/- The laws' own marking functions: what each leaves. -/
import Derived.Test.YtdeafbgnbgihgaaDoorVMTac
import Derived.Test.YtdeafbgnbgihgaaDoorEaV
import Derived.Test.YtdeafbgnbgihgaaDoorLVBase
import Derived.Test.YtdeafbgnbgihgaaDoorLV
set_option linter.unusedSimpArgs false
set_option linter.unusedVariables false
namespace Go.Proofs.YtdeafbgnbgihgaaDoor
open Go.RowKit
section
variable {α : Type} {g : Nat → α → α} {xs : List α}
end
section
variable {α : Type} (w : α → Nat) (g : Nat → α → α)
variable {ys xs : List α}
end
theorem Rep.cov {B : World} {X : List Nat} {N : Nat} {M : MM} {e e' : Env} {h h' : List Blk} {a : Act} {w : World} (R : Rep B X N M e h a w) (h1 : cov e e') (h2 : covH h h') (h3 : (scE h' e' && scH h' h' && (match h' with | .gone :: _ => true | _ => false)) = true) : ∃ M', Rep B X N M' e' h' a w := Weak.cov h1 h2 h3 _ _ _ _ _ _ R
structure Tk where
  g : Nat
  cap : Nat
  sz : Nat
  t : TypeId
  n : Nat
def Tk.ok (τ : Tk) (n1 : Nat) (ys : List D) : Prop := (ys ≠ [] → τ.n = n1) ∧ (τ.cap = 0 ∨ τ.cap * τ.n < τ.sz)

end Go.Proofs.YtdeafbgnbgihgaaDoor
