/- Maps: what a look finds after an entry was put. Leans on no program. -/
import Derived.Test.YtfnnlipcclklnaaVMTac
set_option linter.unusedSimpArgs false
set_option linter.unusedVariables false
namespace Go.Proofs.Ytfnnlipcclklnaa
open Go.RowKit
theorem keyE_eq {q k q' : D} (h : keyE q k = true) : keyE q' k = keyE q' q := by
  cases q <;> cases k <;> first
    | (cases h; done)
    | skip
  · rename_i k1 a k2 b
    have e : a = b := by simpa [keyE] using h
    subst e
    cases q' <;> rfl
  · rename_i a b
    have e : a = b := (Go.MapKept.bytes_beq _ _).1 h
    subst e
    cases q' <;> rfl
theorem lkD_upd (q z q' : D) : ∀ es : List (D × D), lkD (updD es q z) q' = if keyE q' q = true then some z else lkD es q'
  | [] => by
    simp only [updD, lkD]
    cases keyE q' q <;> rfl
  | (k, v) :: es => by
    simp only [updD]
    cases h : keyE q k with
    | true =>
      simp only [cond_true, lkD, keyE_eq h]
      cases keyE q' q <;> rfl
    | false =>
      simp only [cond_false, lkD, lkD_upd q z q' es]
      cases h1 : keyE q' k with
      | false => rfl
      | true =>
        have : keyE q' q = false := by
          cases h2 : keyE q' q with
          | false => rfl
          | true =>
            exfalso
            have h3 : keyE q k = true := by
              have e1 := keyE_eq (q := q') (k := k) (q' := q) h1
              rw [e1]
              cases q' <;> cases q <;> first
                | (cases h2; done)
                | skip
              · simp [keyE] at h2 ⊢; exact h2.symm
              · have := (Go.MapKept.bytes_beq _ _).1 h2
                subst this
                exact h2
            rw [h] at h3
            cases h3
        rw [this]
        rfl
theorem LkW.id {es : List (D × D)} {q : D} {A : D → Prop} {B : Prop} (h : LkW es q A B) : LkW es q A B := h
theorem LkW.has {es : List (D × D)} {q : D} {A : D → Prop} {B : Prop} (p : Bool) (z : D) (h : lkD es q = if p = true then some z else none) (h1 : p = true → A z) (h2 : p = false → B) : LkW es q A B := by
  refine ⟨fun v hv => ?_, fun hv => ?_⟩
  · cases p with
    | true => rw [h] at hv; cases hv; exact h1 rfl
    | false => rw [h] at hv; cases hv
  · cases p with
    | true => rw [h] at hv; cases hv
    | false => exact h2 rfl
theorem LkW.at {es : List (D × D)} {q : D} {A : D → Prop} {B : Prop} (h1 : ∀ v, lkD es q = some v → A v) (h2 : lkD es q = none → B) : LkW es q A B := ⟨h1, h2⟩
/-- a set, as a map to truths: what was put, one after the other -/
def setM (ks : List D) : List (D × D) := ks.foldl (fun es k => updD es k (.bool true)) []
theorem setM_nil : setM [] = [] := rfl
theorem setM_snoc (ks : List D) (k : D) : setM (ks ++ [k]) = updD (setM ks) k (.bool true) := by rw [setM, setM, List.foldl_append]; rfl
theorem lkD_setM (ks : List D) (q : D) : lkD (setM ks) q = if ks.any (keyE q) = true then some (.bool true) else none := by
  have key : ∀ (ks : List D) (es : List (D × D)), lkD (ks.foldl (fun es k => updD es k (.bool true)) es) q = if ks.any (keyE q) = true then some (.bool true) else lkD es q := by
    intro ks
    induction ks with
    | nil => intro es; rfl
    | cons k ks ih =>
      intro es
      rw [List.foldl_cons, ih, lkD_upd, List.any_cons]
      cases keyE q k <;> cases ks.any (keyE q) <;> rfl
  exact key ks []
end Go.Proofs.Ytfnnlipcclklnaa
