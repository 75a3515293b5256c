/- From a contract of the kit's shelf to a contract of the machine. Leans on no program. -/
import Derived.Test.YtdeafbgnbgihgaaVMRen
set_option linter.unusedSimpArgs false
set_option linter.unusedVariables false
namespace Go.Proofs.Ytdeafbgnbgihgaa
open Go.RowKit
theorem MInv.start {w w' : World} {X : List Nat} (hX1 : X.Nodup) (hX2 : ∀ b ∈ X, b < w'.heap.size) : MInv w.heap.size w' [mX X] [.gone] := by
  have hO : MM.O [mX X] = X := by rw [O_one, mO_mX]
  exact ⟨rfl, fun b k m hk hm => by
        cases b with
        | zero => simp at hk; subst hk; trivial
        | succ b => simp at hk, by rw [hO]; exact hX1, fun b k m hk hm hl => by
        cases b with
        | zero => simp at hk; subst hk; cases hl
        | succ b => simp at hk, by rw [hO]; exact hX2⟩
/-- a function that makes nothing of its own -/
theorem PC.of {P : Program} {f : FuncId} {As : List V} {v : V} {fn : Func} (h1 : P.funcs[f]? = some fn) (h2 : (fn.name == "runtime.NumGoroutine") = false) (h3 : fn.body.isNone = false)
    (H : ∀ (w : World) (X : List Nat) (args : List Value), repT w [mX X] [.gone] As args → Calls P f args.toArray w fun e w' => ∃ cv, e = .returned cv ∧ Ext w w' ∧ rep w' [mX X] [.gone] v cv) : PC P f As v [] :=
  ⟨⟨fn, h1, h2, h3⟩, fun w X args x1 x2 x3 => (H w X args x3).mono fun e w' ⟨cv, k1, k2, k3⟩ => ⟨cv, [], k1, k2, MInv.start x1 (fun b hb => Nat.lt_of_lt_of_le (x2 b hb) k2.size), k3⟩⟩
/-- the cells of a list of strings -/
theorem str_cells {O : List Nat} {w : World} {a : Option Addr} {n : Nat} {xs : List ByteArray} (H : repDe O w a n (xs.map D.str) 0) (h0 : xs ≠ []) :
    ∃ b o, a = some ⟨b, o, none⟩ ∧ b < w.heap.size ∧ ∀ (j : Nat) x, xs[j]? = some x → w.cell? ⟨b, o + j, none⟩ = some (.string x) := by
  have hg := (repDe_get _ 0).1 H
  obtain ⟨x0, hx0⟩ : ∃ x, xs[0]? = some x := by cases xs with | nil => exact absurd rfl h0 | cons x t => exact ⟨x, rfl⟩
  obtain ⟨b, o, ces, e, -, hb, -⟩ := hg 0 (.str x0) (by rw [List.getElem?_map, hx0]; rfl)
  refine ⟨b, o, e, hb, fun j x hj => ?_⟩
  obtain ⟨b', o', ces', e', q1, q2, q3, q4, q5⟩ := hg j (.str x) (by rw [List.getElem?_map, hj]; rfl)
  rw [e] at e'
  cases e'
  have q4 : n = 1 := q4.symm
  subst q4
  obtain ⟨rfl, -⟩ := q5
  have := q3 0 _ rfl
  rwa [Nat.zero_add, Nat.mul_one, Nat.add_zero] at this
end Go.Proofs.Ytdeafbgnbgihgaa
