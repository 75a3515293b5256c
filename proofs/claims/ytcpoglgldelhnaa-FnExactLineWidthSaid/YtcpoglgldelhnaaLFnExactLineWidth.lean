/- FnExactLineWidth returns true for every list of slots, and leaves it as it was. No condition. -/
import Derived.Test.YtcpoglgldelhnaaSlots
namespace Go.Proofs.Ytcpoglgldelhnaa
open Go.ChangeShapes Go.WideShapes Go.ChangeAt Go.RowKit

set_option maxHeartbeats 1000000 in
theorem FnExactLineWidth_c (xs : List TSlot) (v : Value) (w : World) (h : Sl SlotC w v xs) :
    Calls Try.prog 8 #[v] w fun e w' => e = .returned (.bool true) ∧ Ext w w' := by
  by_cases hz : ((zSlotS xs : Nat) : Int) ≤ 1048576
  · have hsz := Lib.hid (szR_le hz)
    have hz' : zSlotS xs ≤ 1048576 := by omega
    go_enter Try.func8, Try.ntmps8
    go_wp2_with fail
    refine (szSlotS_c xs _ _ _ (by (repeat (first | with_reducible assumption | refine Sl.keep ?_ (Ext.alloc (Ext.refl _) _) | refine Sl.keep ?_ (by with_reducible assumption)))) (by omega) (by omega)).mono ?_; rintro e wz ⟨rfl, qz, hbz⟩; obtain ⟨hcz, hfz⟩ := hbz.keeps
    rw [hsz.out]
    go_wp2_with fail
    refine (toSlotS_c xs _ _ (by (repeat (first | with_reducible assumption | refine Sl.keep ?_ (Ext.alloc (Ext.refl _) _) | refine Sl.keep ?_ (by with_reducible assumption)))) hz').mono ?_; rintro e w1 ⟨v1, F1, rfl, O1, n1, q1, hb1⟩; obtain ⟨hc1, hf1⟩ := hb1.keeps; dsimp only [id]; have R1 := O1.rep
    go_wp2_with fail
    refine (specLineWidth_c xs _ _ (by (repeat (first | with_reducible assumption | refine Sl.keep ?_ (Ext.alloc (Ext.refl _) _) | refine Sl.keep ?_ (by with_reducible assumption))))).mono ?_; rintro e w2 ⟨rfl, hb2⟩; obtain ⟨hc2, hf2⟩ := hb2.keeps
    go_wp2_with fail
    refine (toSlotS_c xs _ _ (by (repeat (first | with_reducible assumption | refine Sl.keep ?_ (Ext.alloc (Ext.refl _) _) | refine Sl.keep ?_ (by with_reducible assumption)))) hz').mono ?_; rintro e w3 ⟨v3, F3, rfl, O3, n3, q3, hb3⟩; obtain ⟨hc3, hf3⟩ := hb3.keeps; dsimp only [id]; have R3 := O3.rep
    go_wp2_with fail
    refine (LineWidth_c xs _ _ (by (repeat (first | with_reducible assumption | refine Sl.keep ?_ (Ext.alloc (Ext.refl _) _) | refine Sl.keep ?_ (by with_reducible assumption))))).mono ?_; rintro e w4 ⟨rfl, hb4⟩; obtain ⟨hc4, hf4⟩ := hb4.keeps
    go_wp2_with fail
    refine (toSlotS_c xs _ _ (by (repeat (first | with_reducible assumption | refine Sl.keep ?_ (Ext.alloc (Ext.refl _) _) | refine Sl.keep ?_ (by with_reducible assumption)))) hz').mono ?_; rintro e w5 ⟨v5, F5, rfl, O5, n5, q5, hb5⟩; obtain ⟨hc5, hf5⟩ := hb5.keeps; dsimp only [id]; have R5 := O5.rep
    go_wp2_with fail
    refine (eqSlotS_c xs _ _ _ (by (repeat (first | with_reducible assumption | refine Sl.keep ?_ (Ext.alloc (Ext.refl _) _) | refine Sl.keep ?_ (by with_reducible assumption)))) (by (repeat (first | with_reducible assumption | refine Sl.keep ?_ (Ext.alloc (Ext.refl _) _) | refine Sl.keep ?_ (by with_reducible assumption))))).mono ?_; rintro e w6 ⟨rfl, hb6⟩; obtain ⟨hc6, hf6⟩ := hb6.keeps
    go_wp2_with fail
    go_ret
    exact ⟨rfl, by (repeat (first | with_reducible exact Ext.refl _ | with_reducible assumption | with_reducible refine Ext.alloc ?_ _ | with_reducible refine Ext.drew ?_ | with_reducible refine Ext.drewN ?_ _ | (with_reducible refine Ext.setCell ?_ (by first | omega | (dsimp only; omega)) _) | with_reducible refine Ext.trans ?_ (by assumption)))⟩
  · have hsz := Lib.hid (szR_gt (Int.not_le.1 hz))
    go_enter Try.func8, Try.ntmps8
    go_wp2_with fail
    refine (szSlotS_c xs _ _ _ (by (repeat (first | with_reducible assumption | refine Sl.keep ?_ (Ext.alloc (Ext.refl _) _) | refine Sl.keep ?_ (by with_reducible assumption)))) (by omega) (by omega)).mono ?_; rintro e wz ⟨rfl, qz, hbz⟩; obtain ⟨hcz, hfz⟩ := hbz.keeps
    rw [hsz.out]
    go_wp2_with fail
    go_ret
    exact ⟨rfl, by (repeat (first | with_reducible exact Ext.refl _ | with_reducible assumption | with_reducible refine Ext.alloc ?_ _ | with_reducible refine Ext.drew ?_ | with_reducible refine Ext.drewN ?_ _ | (with_reducible refine Ext.setCell ?_ (by first | omega | (dsimp only; omega)) _) | with_reducible refine Ext.trans ?_ (by assumption)))⟩
theorem FnExactLineWidth_lc : LawCalls Try.prog 8 [40] := by
  intro H enc W base args ds p hval hA
  obtain ⟨v0, vs0, d0, ds0, p0, q0, rfl, rfl, rfl, h0, r0⟩ := ChangeShapes.trodAll_cons hA
  obtain ⟨rfl, rfl, rfl⟩ := trodAll_nil r0
  obtain ⟨x0, k0⟩ := rd_SlotS.open_ h0
  have j0 := open_slV Try.underlying40 (hval 0 _ _ rfl rfl) k0
  exact FnExactLineWidth_c x0 _ W j0
set_option maxRecDepth 100000 in
theorem FnExactLineWidth_lift (os : Os) (started : os.Started) (H : Type) (enc : TypeId × Value → H) :
    ReturnsInHanded {} Try.checked os 8 .any (Rows.fnExactLineWidthSpec.pre6 enc Try.prog Try.f8 Rows.fnExactLineWidthRow.domain false) (Rows.fnExactLineWidthSpec.post enc Try.prog Try.f8 false true false false) :=
  law_lift (C := Try.checked) (s := Rows.fnExactLineWidthSpec) (ts := [40]) own laidOut (by kernel_rfl) Try.func8 (by rw [Try.params8]) rfl Try.underlying4
    (by simp only [List.mem_cons, List.not_mem_nil, or_false]; rintro t (rfl) <;> exact ⟨by kernel_rfl, of_decide_eq_true (by kernel_rfl)⟩) rfl
    (fun H ds h => by match ds, h with | [_], _ => exact ⟨rfl, rfl, rfl⟩) FnExactLineWidth_lc os started H enc
    (ChangeSpec.witness6 (enc := enc) (C := Try.checked) false ⟨#[], #[.slice none 0 0], []⟩ 8 (by kernel_rfl) (by kernel_rfl) (by kernel_rfl) (by kernel_rfl))
theorem FnExactLineWidth_holds : Rows.FnExactLineWidthSaid :=
  OpenClaim.holds_of_wide 8 Try.f8 rfl rfl rfl rfl rfl rfl rfl ⟨rfl, rfl, rfl, rfl, rfl⟩ rfl rfl rfl rfl rfl (by kernel_rfl) Try.func8 (by kernel_rfl)
    (of_decide_eq_true (by kernel_rfl)) (by unfold Func.isWrapper; rw [if_neg (of_decide_eq_false (by kernel_rfl))]; exact ⟨rfl, rfl⟩)
    (fun os started H enc _ => FnExactLineWidth_lift os started H enc)
#print axioms FnExactLineWidth_holds

end Go.Proofs.Ytcpoglgldelhnaa
