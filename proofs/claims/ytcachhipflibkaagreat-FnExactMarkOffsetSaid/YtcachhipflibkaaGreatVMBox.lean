/- The abstract machine: a box's value said in another way. Leans on no program. -/
import Derived.Test.YtcachhipflibkaaGreatVMTac
set_option linter.unusedSimpArgs false
set_option linter.unusedVariables false
namespace Go.Proofs.YtcachhipflibkaaGreat
open Go.RowKit
theorem Weak.box {e : Env} {h : List Blk} (b : Nat) {v v' : V} (hb : h[b]? = some (.box v)) (hb0 : Nat.ble 1 b = true) (hv : ∀ (w : World) (M : MM) (h : List Blk) (cs : List Value), repC w M h v cs → repC w M h v' cs) : Weak e h e (h.set b (.box v')) := fun B X N M a w R => by
  have hlt : b < h.length := (List.getElem?_eq_some_iff.1 hb).1
  have hnof : ∀ c, nOf (h.set b (.box v')) c = nOf h c := fun c => by
    unfold nOf
    by_cases hc : b = c
    · subst hc
      rw [List.getElem?_set_self hlt, hb]
    · rw [List.getElem?_set_ne hc]
  have mv' : Mv (fun _ => True) w M h w M (h.set b (.box v')) := {
    ext := fun b hb _ => ⟨hb, rfl⟩
    ids := fun b g F _ hb => ⟨F, hb⟩
    row := fun b g F arr t _ _ hg => ⟨arr, hg, rfl⟩
    nof := fun b g F _ _ => hnof b
    sz := Nat.le_refl _ }
  have hget : ∀ (c : Nat) (k : Blk), (h.set b (.box v'))[c]? = some k → (c = b ∧ k = .box v') ∨ h[c]? = some k := fun c k hk => by
    by_cases hc : b = c
    · subst hc
      rw [List.getElem?_set_self hlt] at hk
      cases hk
      exact .inl ⟨rfl, rfl⟩
    · rw [List.getElem?_set_ne hc] at hk
      exact .inr hk
  have hI' : MInv B.heap.size w M (h.set b (.box v')) := {
    len := by simp [R.inv.len]
    blk := fun c k m hk hm => by
      rcases hget c k hk with ⟨rfl, rfl⟩ | hk3
      · have h1 := R.inv.blk c _ m hb hm
        cases m with
        | none => exact h1
        | some gF =>
          obtain ⟨g, F⟩ := gF
          obtain ⟨h2, arr, t, h3, h4⟩ := h1
          exact ⟨h2, arr, t, h3, repC_mv mv' _ _ (V.inS_all _) (hv _ _ _ _ h4)⟩
      · exact BRep_mv mv' (by cases k <;> first | trivial | exact V.inS_all _ | exact inSE_all _) (fun _ _ => rfl) (R.inv.blk c k m hk3 hm)
    nd := R.inv.nd
    lo := fun c k m hk hm hl => by
      rcases hget c k hk with ⟨rfl, rfl⟩ | hk3
      · exact R.inv.lo c _ m hb hm rfl
      · exact R.inv.lo c k m hk3 hm hl
    hi := R.inv.hi }
  refine ⟨M, R.ext, hI', fun k => rep_mv mv' _ _ (V.inS_all _) (R.env k), R.sz, R.df, R.fr, ?_⟩
  rw [List.getElem?_set_ne (by intro e0; subst e0; cases hb0)]
  exact R.fh
/-- a struct of plain values -/
theorem Weak.boxd {e : Env} {h : List Blk} (b : Nat) {xs : List D} (hb : h[b]? = some (.box (.st (xs.map V.d)))) (hb0 : Nat.ble 1 b = true) : Weak e h e (h.set b (.box (.d (.st xs)))) :=
  Weak.box b hb hb0 fun w M h cs H => by
    have key : ∀ (xs : List D) (cs : List Value), repCs w M h (xs.map V.d) cs → repDs M.O w xs cs := by
      intro xs
      induction xs with
      | nil => intro cs H; exact H
      | cons x xs ih =>
        intro cs H
        obtain ⟨c1, c2, e1, h1, h2⟩ := H
        exact ⟨c1, c2, e1, h1, ih c2 h2⟩
    exact key xs cs H
end Go.Proofs.YtcachhipflibkaaGreat
