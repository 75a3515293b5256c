/- The laws' own marking functions: what each leaves. -/
import Derived.Test.YtpdeibhedafcfaaGreatDoorVMTac
import Derived.Test.YtpdeibhedafcfaaGreatDoorGsP
import Derived.Test.YtpdeibhedafcfaaGreatDoorLV
set_option linter.unusedSimpArgs false
set_option linter.unusedVariables false
namespace Go.Proofs.YtpdeibhedafcfaaGreatDoor
open Go.RowKit
section
variable {α : Type} {g : Nat → α → α} {xs : List α}
end
section
variable {α : Type} (w : α → Nat) (g : Nat → α → α)
variable {ys xs : List α}
end
theorem Rep.cov {B : World} {X : List Nat} {N : Nat} {M : MM} {e e' : Env} {h h' : List Blk} {a : Act} {w : World} (R : Rep B X N M e h a w) (h1 : cov e e') (h2 : covH h h') (h3 : (scE h' e' && scH h' h' && (match h' with | .gone :: _ => true | _ => false)) = true) : ∃ M', Rep B X N M' e' h' a w := Weak.cov h1 h2 h3 _ _ _ _ _ _ R
theorem LoopW.goX {F : Post → Env → List Blk → Prop} {Q : Post} {e : Env} {h : List Blk} {α : Type} (mkE : α → Env) (mkH : α → List Blk) (I : α → Prop) (μ : α → Nat)
  (h0 : ∀ (B : World) (X : List Nat) (N : Nat) (M : MM) (a : Act) (w : World), Rep B X N M e h a w → ∃ x0 M', Rep B X N M' (mkE x0) (mkH x0) a w ∧ I x0)
  (h1 : ∀ x, I x → ∀ E H, mkE x = E → mkH x = H → F (loopQ mkE mkH I μ Q x) E H) : LoopW F Q e h := ⟨⟨α, mkE, mkH, I, μ, h0, fun x hx => h1 x hx _ _ rfl rfl⟩⟩
structure Tk where
 g : Nat
 cap : Nat
 sz : Nat
 t : TypeId
 n : Nat
def Tk.ok (τ : Tk) (n1 : Nat) (ys : List D) : Prop := (ys ≠ [] → τ.n = n1) ∧ (τ.cap = 0 ∨ τ.cap * τ.n < τ.sz)

end Go.Proofs.YtpdeibhedafcfaaGreatDoor
