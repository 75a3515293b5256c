/- slices.Index and slices.Contains at points of a map, by the machine. -/
import Derived.Test.YtdjdkkacbkfmeaaAxV4
set_option linter.unusedSimpArgs false
set_option linter.unusedVariables false
namespace Go.Proofs.Ytdjdkkacbkfmeaa
open Go.RowKit
def apEq (p x : TAxisPoint) : Bool := p.fFrom == x.fFrom && (p.fTo == x.fTo && true)
def ixGo (p : TAxisPoint) : List TAxisPoint → Nat → Int
  | [], _ => -1
  | x :: t, k => if apEq p x = true then (k : Int) else ixGo p t (k + 1)
theorem ixGo_any (p : TAxisPoint) : ∀ (xs : List TAxisPoint) (k : Nat), decide (0 ≤ ixGo p xs k) = xs.any (apEq p)
  | [], _ => rfl
  | x :: t, k => by
    rw [List.any_cons, ixGo]
    by_cases h : apEq p x = true
    · rw [if_pos h, h]
      simp
    · rw [if_neg h, ixGo_any p t (k + 1)]
      simp [h]
theorem ix_v (xs : List TAxisPoint) (p : TAxisPoint) : PC Try.prog 195 [.d (.lst (xs.map TAxisPoint.D)), .d p.D] (.d (.int .i64 (ixGo p xs 0))) [] := by
  refine pc_intro ttOk (by kernel_rfl) Try.func195 rfl (by kernel_rfl) (by kernel_rfl) (by kernel_rfl) (fun hw => ?_)
  have hL : (xs.map TAxisPoint.D).length = xs.length := List.length_map _
  have hm : (xs.map TAxisPoint.D).length ≤ 9223372036854775807 := hw.1.1
  (conv => whnf)
  refine LoopW.go (α := Nat) (fun k => [(0, .d (.lst (xs.map TAxisPoint.D))), (3, .pB 1 [] 0), (7, .d (.int .i64 (xs.map TAxisPoint.D).length)), (8, .d (.int .i64 k))]) (fun _ => [.gone, .box (.d p.D)]) (fun k => k ≤ xs.length ∧ ixGo p xs 0 = ixGo p (xs.drop k) k) (fun k => xs.length - k) 0 (Weak.cov ⟨rfl, rfl, rfl, rfl, trivial⟩ ⟨trivial, rfl, trivial⟩ rfl) ⟨by omega, rfl⟩ (fun k hp => ?_)
  obtain ⟨hk1, hk2⟩ := hp
  (conv => whnf)
  (refine br_ (fun h1 => ?_) (fun h1 => ?_) <;> (repeat (refine stg_ ?_)))
  · have h1' : k < xs.length := by omega
    obtain ⟨x, hx⟩ := at_lt' h1'
    rw [drop_at hx, ixGo] at hk2
    (repeat (refine stg_ ?_))
    split
    · rename_i h2
      rw [if_pos (show apEq p x = true from h2)] at hk2
      (conv => whnf)
      (refine RetOK.d rfl rfl ?_; conv => whnf)
      rw [hk2]
    · rename_i h2
      rw [if_neg (show ¬ apEq p x = true by rw [apEq, h2]; decide)] at hk2
      (conv => whnf)
      (repeat (refine stg_ ?_))
      exact NextW.go (k + 1) (Weak.cov ⟨rfl, rfl, rfl, rfl, trivial⟩ ⟨trivial, rfl, trivial⟩ rfl) ⟨by omega, hk2⟩ (by omega)
  · (refine RetOK.d rfl rfl ?_; conv => whnf)
    rw [hk2, List.drop_eq_nil_of_le (by omega)]; rfl
theorem ct_v (xs : List TAxisPoint) (p : TAxisPoint) : PC Try.prog 187 [.d (.lst (xs.map TAxisPoint.D)), .d p.D] (.d (.bool (xs.any (apEq p)))) [] := by
  refine pc_intro ttOk (by kernel_rfl) Try.func187 rfl (by kernel_rfl) (by kernel_rfl) (by kernel_rfl) (fun hw => ?_)
  (conv => whnf)
  (refine cl_ (ix_v xs p) ?_)
  (refine RetOK.d rfl rfl ?_; conv => whnf)
  rw [ixGo_any]
end Go.Proofs.Ytdjdkkacbkfmeaa
