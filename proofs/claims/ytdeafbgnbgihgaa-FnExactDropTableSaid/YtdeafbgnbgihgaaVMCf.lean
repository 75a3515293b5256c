/- The abstract machine: a row of flat elements is read as a front part of it. Leans on no program. -/
import Derived.Test.YtdeafbgnbgihgaaVMFz
set_option linter.unusedSimpArgs false
set_option linter.unusedVariables false
namespace Go.Proofs.Ytdeafbgnbgihgaa
open Go.RowKit
theorem own_take {w : World} {arr : Array Value} {n : Nat} : ∀ (xs : List D) (i : Nat) (F : List Nat) (m : Nat), (∀ x ∈ xs, x.flat = true) → ownDe w arr n xs i F → F = [] ∧ ownDe w arr n (xs.take m) i []
  | [], i, F, m, _, h => ⟨h, by rw [List.take_nil]; rfl⟩
  | x :: t, i, F, m, hf, h => by
    obtain ⟨F1, F2, ces, rfl, h0, h1, h2, h3⟩ := h
    have e1 := flat_F x F1 ces (hf x (by simp)) h2
    subst e1
    obtain ⟨rfl, -⟩ := own_take t (i + 1) F2 0 (fun y hy => hf y (by simp [hy])) h3
    refine ⟨rfl, ?_⟩
    cases m with
    | zero => rfl
    | succ m =>
      rw [List.take_succ_cons]
      exact ⟨[], [], ces, rfl, h0, h1, h2, (own_take t (i + 1) [] m (fun y hy => hf y (by simp [hy])) h3).2⟩
theorem Weak.cutF {e : Env} {h : List Blk} (b m : Nat) {n : Nat} {xs : List D} (hb : h[b]? = some (.arr n xs true)) (hb0 : Nat.ble 1 b = true) (hf : ∀ x ∈ xs, x.flat = true) : Weak e h e (h.set b (.arr n (xs.take m) true)) := by
  intro B X N M a w R
  have hbl : b < M.length := by rw [R.inv.len]; exact (List.getElem?_eq_some_iff.1 hb).1
  have hM : M[b]? = some M[b] := List.getElem?_eq_getElem hbl
  have hb1 : b ≠ 0 := by have := Nat.le_of_ble_eq_true hb0; omega
  have hnf : nOf (h.set b (.arr n (xs.take m) true)) b = nOf h b := by
    unfold nOf; rw [List.getElem?_set_self (List.getElem?_eq_some_iff.1 hb).1, hb]
  generalize M[b] = m0 at hM
  cases m0 with
  | none =>
    have hx : xs = [] := R.inv.blk b _ _ hb hM
    obtain ⟨M', R', -⟩ := R.reset (w' := w) (m' := none) (k' := .arr n (xs.take m) true) R.ext hM hb1 hb (.inl rfl) [] [] (by simp) (by simp) (by simp) (by simp) (by simp [mO]) (by simp [mO]) (by simp [mO]) (Nat.le_refl _) (fun _ _ _ => rfl) rfl (by intro _ g F q; cases q) (fun _ _ _ => by show xs.take m = []; rw [hx, List.take_nil])
    simp only [dropE, dropK, goneL] at R'
    exact ⟨M', R'⟩
  | some gF =>
    obtain ⟨g, F⟩ := gF
    obtain ⟨arr, t, q1, q2, q3⟩ := R.inv.blk b _ _ hb hM
    rw [if_pos rfl] at q3
    have hgi : g ∈ M.O := mem_O hM (by simp [mO])
    obtain ⟨M', R', -⟩ := R.reset (w' := w) (m' := some (g, [])) (k' := .arr n (xs.take m) true) R.ext hM hb1 hb (.inl rfl) [] [] (by simp) (by simp) (by simp) (by simp) (by simp [mO]) (by simp [mO]) (by simpa [mO] using R.inv.hi g hgi) (Nat.le_refl _) (fun _ _ _ => rfl) rfl
      (by intro _ g' F' q; cases q; exact ⟨⟨[], rfl⟩, hnf, fun arr t h => ⟨arr, h, rfl⟩⟩)
      (fun M' h' _ => ⟨arr, t, q1, Nat.le_trans (Nat.mul_le_mul_right n (by rw [List.length_take]; omega)) q2, by rw [if_pos rfl]; exact (own_take xs 0 F m hf q3).2⟩)
    simp only [dropE, dropK, goneL] at R'
    exact ⟨M', R'⟩
end Go.Proofs.Ytdeafbgnbgihgaa
