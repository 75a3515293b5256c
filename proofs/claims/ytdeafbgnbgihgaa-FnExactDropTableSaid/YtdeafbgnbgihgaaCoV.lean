/- slices.Concat, Grow, Clone, by the machine. -/
import Derived.Test.YtdeafbgnbgihgaaVMTac
import Derived.Test.YtdeafbgnbgihgaaTT
import Derived.Test.YtdeafbgnbgihgaaDt
import Derived.Test.YtdeafbgnbgihgaaGen
set_option linter.unusedSimpArgs false
set_option linter.unusedVariables false
namespace Go.Proofs.Ytdeafbgnbgihgaa
open Go.RowKit
/-- how many elements lists of lists hold -/
def lenS {α : Type} : List (List α) → Nat
  | [] => 0
  | x :: xs => x.length + lenS xs
theorem lenS_app {α : Type} : ∀ xs ys : List (List α), lenS (xs ++ ys) = lenS xs + lenS ys
  | [], ys => by simp [lenS]
  | x :: xs, ys => by simp [lenS, lenS_app xs ys]; omega
theorem lenS_flat {α : Type} : ∀ xs : List (List α), xs.flatten.length = lenS xs
  | [] => rfl
  | x :: xs => by simp [lenS, lenS_flat xs]
theorem lenS_take {α : Type} (xs : List (List α)) (k : Nat) : lenS (xs.take k) ≤ lenS xs := by
  have := lenS_app (xs.take k) (xs.drop k)
  rw [List.take_append_drop] at this
  omega
theorem lenS_succ {α : Type} {xs : List (List α)} {k : Nat} {x : List α} (hx : xs[k]? = some x) : lenS (xs.take (k + 1)) = lenS (xs.take k) + x.length := by
  rw [take_snoc_get hx, lenS_app]; rfl
theorem cloneTable_v (xs : List TTable) (hb : xs.length ≤ 1000000) : PC Try.prog 24 [.d (.lst (xs.map TTable.D))] (.own 1 0 xs.length) [.arr 2 (xs.map TTable.D) true] := by
  refine pc_intro ttOk (by kernel_rfl) Try.func24 rfl (by kernel_rfl) (by kernel_rfl) (by kernel_rfl) (fun hw => ?_)
  have hL : (xs.map TTable.D).length = xs.length := List.length_map _
  (conv => whnf)
  (repeat' (first | (refine stg_ ?_) | (refine NlW.mk' (fun hnl => ?_) ?_) | (refine br_ (fun hbr => ?_) (fun hbr => ?_))))
  · obtain rfl : xs = [] := List.eq_nil_of_length_eq_zero (by omega)
    exact ⟨⟨[none], ⟨rfl, trivial⟩, by decide, rfl, by decide, rfl, rfl, rfl⟩⟩
  · refine ⟨⟨[some 1], ⟨by decide, rfl, trivial, trivial⟩, by decide, rfl, by decide, ?_⟩⟩
    show V.own 1 0 (0 + (xs.map TTable.D).length) = _
    rw [Nat.zero_add, hL]

end Go.Proofs.Ytdeafbgnbgihgaa
