/- Lists that are filled; small lemmas for the laws' own functions. Leans on no program. -/
import Derived.Test.YtdeafbgnbgihgaaDt
set_option linter.unusedSimpArgs false
set_option linter.unusedVariables false
namespace Go.Proofs.Ytdeafbgnbgihgaa
open Go.RowKit

section
variable {α : Type} (f : α → D) (z : D) (xs : List α)
def fillL (k : Nat) : List D := (xs.take k).map f ++ List.replicate (xs.length - k) z
theorem fillL_zero : fillL f z xs 0 = List.replicate xs.length z := by simp [fillL]
theorem fillL_len (k : Nat) (h : k ≤ xs.length) : (fillL f z xs k).length = xs.length := by simp [fillL]; omega
theorem fillL_get {k : Nat} (h : k < xs.length) : (fillL f z xs k)[k]? = some z := by
  unfold fillL
  have hl : ((xs.take k).map f).length = k := by simp; omega
  rw [List.getElem?_append_right (by omega), hl, Nat.sub_self, List.getElem?_replicate, if_pos (by omega)]
theorem fillL_set {k : Nat} {x : α} (h : xs[k]? = some x) : (fillL f z xs k).set k (f x) = fillL f z xs (k + 1) := by
  have hk := (List.getElem?_eq_some_iff.1 h).1
  unfold fillL
  have e1 : xs.length - k = (xs.length - (k + 1)) + 1 := by omega
  rw [e1, List.replicate_succ]
  have hl : ((xs.take k).map f).length = k := by simp; omega
  rw [List.set_append_right _ _ (by omega), hl, Nat.sub_self, List.set_cons_zero, take_snoc_get h, List.map_append, List.append_assoc]
  rfl
theorem fillL_all : fillL f z xs xs.length = xs.map f := by simp [fillL]
end
theorem wfDs_get : ∀ (xs : List D), wfDs xs → ∀ {x : D}, x ∈ xs → wfD x
  | y :: ys, h, x, hx => by
    rcases List.mem_cons.1 hx with rfl | hx
    · exact h.1
    · exact wfDs_get ys h.2 hx
theorem sum_mem {α : Type} (f : α → Nat) {xs : List α} {x : α} (h : x ∈ xs) : f x ≤ (xs.map f).sum := by
  obtain ⟨i, hi⟩ := List.getElem?_of_mem h
  exact sum_get f hi
end Go.Proofs.Ytdeafbgnbgihgaa
