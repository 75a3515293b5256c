/- Lists: equality element by element, the first that fits. Leans on no program. -/
import Derived.Test.YtdeafbgnbgihgaaAxPl
set_option linter.unusedSimpArgs false
set_option linter.unusedVariables false
namespace Go.Proofs.Ytdeafbgnbgihgaa
open Go.RowKit
section
variable {α : Type}
def eqL (f : α → α → Bool) : List α → List α → Bool
  | [], [] => true
  | x :: xs, y :: ys => f x y && eqL f xs ys
  | [], _ :: _ => false
  | _ :: _, [] => false
theorem eqL_len {f : α → α → Bool} : ∀ {xs ys : List α}, xs.length ≠ ys.length → eqL f xs ys = false
  | [], [], h => absurd rfl h
  | x :: xs, y :: ys, h => by
    rw [eqL, eqL_len (xs := xs) (ys := ys) (fun e => h (by simp [e])), Bool.and_false]
  | [], _ :: _, _ => rfl
  | _ :: _, [], _ => rfl
theorem eqL_at {f : α → α → Bool} {xs ys : List α} {k : Nat} {x y : α} (hx : xs[k]? = some x) (hy : ys[k]? = some y) : eqL f (xs.drop k) (ys.drop k) = (f x y && eqL f (xs.drop (k + 1)) (ys.drop (k + 1))) := by
  rw [drop_at hx, drop_at hy, eqL]
theorem eqL_end {f : α → α → Bool} {xs ys : List α} {k : Nat} (hx : xs.length ≤ k) (hy : ys.length ≤ k) : eqL f (xs.drop k) (ys.drop k) = true := by
  rw [List.drop_eq_nil_of_le hx, List.drop_eq_nil_of_le hy]; rfl
def fdx (p : α → Bool) : List α → Nat → Int
  | [], _ => -1
  | x :: t, k => if p x = true then (k : Int) else fdx p t (k + 1)
theorem fdx_at {p : α → Bool} {xs : List α} {k : Nat} {x : α} (hx : xs[k]? = some x) : fdx p (xs.drop k) k = if p x = true then (k : Int) else fdx p (xs.drop (k + 1)) (k + 1) := by
  rw [drop_at hx, fdx]
theorem fdx_end {p : α → Bool} {xs : List α} {k : Nat} (hx : xs.length ≤ k) : fdx p (xs.drop k) k = -1 := by
  rw [List.drop_eq_nil_of_le hx, fdx]
theorem fdx_any (p : α → Bool) : ∀ (xs : List α) (k : Nat), decide (0 ≤ fdx p xs k) = xs.any p
  | [], _ => rfl
  | x :: t, k => by
    rw [List.any_cons, fdx]
    by_cases h : p x = true
    · rw [if_pos h, h]; simp
    · rw [if_neg h, fdx_any p t (k + 1)]; simp [h]
theorem fdx_lt (p : α → Bool) : ∀ (xs : List α) (k : Nat), -1 ≤ fdx p xs k ∧ (0 ≤ fdx p xs k → (k : Int) ≤ fdx p xs k ∧ fdx p xs k < ((k + xs.length : Nat) : Int))
  | [], _ => by simp [fdx]
  | x :: t, k => by
    rw [fdx]
    have := fdx_lt p t (k + 1)
    simp only [List.length_cons] at this ⊢
    split <;> omega
theorem any_snoc {p : α → Bool} {xs : List α} {j : Nat} {y : α} (hy : xs[j]? = some y) : (xs.take (j + 1)).any p = ((xs.take j).any p || p y) := by
  rw [take_snoc_get hy, List.any_append]; simp
theorem any_take {p : α → Bool} {xs : List α} {j k : Nat} {y : α} (hy : xs[j]? = some y) (hjk : j < k) (hp : p y = true) : (xs.take k).any p = true := by
  rw [List.any_eq_true]
  refine ⟨y, ?_, hp⟩
  apply List.mem_of_getElem? (i := j)
  rw [List.getElem?_take, if_pos hjk, hy]
theorem set_drop {l : List α} {k : Nat} {x : α} (h : k < l.length) : (l.set k x).drop k = x :: l.drop (k + 1) := by
  have e : (l.set k x)[k]? = some x := by simp [h]
  rw [drop_at e, List.drop_set_of_lt (by omega)]
end
end Go.Proofs.Ytdeafbgnbgihgaa
