/- FnExactValidTag returns true for every string, and leaves it as it was. No condition. -/
import Derived.Test.YtcpoglgldelhnaaTag
namespace Go.Proofs.Ytcpoglgldelhnaa
open Go.ChangeShapes Go.WideShapes Go.ChangeAt Go.RowKit

theorem FnExactValidTag_c (s : ByteArray) (w : World) (hs : s.size ≤ maxLen) :
    Calls Try.prog 4 #[.string s] w fun e w' => e = .returned (.bool true) ∧ Ext w w' := by
  have HS := Lib.hid hs
  have hs' : s.size ≤ 9223372036854775807 := hs
  clear hs
  go_enter Try.func4, Try.ntmps4
  go_wp2_with (first | (go_at_call 12; refine (specValidTag_c _ _ HS.out).mono ?_; rintro e w1 ⟨rfl, hb1⟩; obtain ⟨hc1, hf1⟩ := hb1.keeps) | (go_at_call 13; refine (ValidTag_c _ _).mono ?_; rintro e w2 ⟨rfl, hb2⟩; obtain ⟨hc2, hf2⟩ := hb2.keeps))
  all_goals (go_ret; exact ⟨rfl, by (repeat (first | with_reducible exact Ext.refl _ | with_reducible assumption | with_reducible refine Ext.alloc ?_ _ | with_reducible refine Ext.drew ?_ | with_reducible refine Ext.drewN ?_ _ | (with_reducible refine Ext.setCell ?_ (by first | omega | (dsimp only; omega)) _) | with_reducible refine Ext.trans ?_ (by assumption)))⟩)
theorem FnExactValidTag_lc : LawCalls Try.prog 4 [9] := by
  intro H enc W base args ds p hval hA
  obtain ⟨v0, vs0, d0, ds0, p0, q0, rfl, rfl, rfl, h0, r0⟩ := ChangeShapes.trodAll_cons hA
  obtain ⟨rfl, rfl, rfl⟩ := trodAll_nil r0
  obtain ⟨x0, k0⟩ := rd_str.open_ h0
  obtain ⟨rfl, j0⟩ := open_strV Try.underlying9 (hval 0 _ _ rfl rfl) k0
  exact FnExactValidTag_c x0 W j0
set_option maxRecDepth 100000 in
theorem FnExactValidTag_lift (os : Os) (started : os.Started) (H : Type) (enc : TypeId × Value → H) :
    ReturnsInHanded {} Try.checked os 4 .any (Rows.fnExactValidTagSpec.pre6 enc Try.prog Try.f4 Rows.fnExactValidTagRow.domain false) (Rows.fnExactValidTagSpec.post enc Try.prog Try.f4 false true false false) :=
  law_lift (C := Try.checked) (s := Rows.fnExactValidTagSpec) (ts := [9]) own laidOut (by kernel_rfl) Try.func4 (by rw [Try.params4]) rfl Try.underlying4
    (by simp only [List.mem_cons, List.not_mem_nil, or_false]; rintro t (rfl) <;> exact ⟨by kernel_rfl, of_decide_eq_true (by kernel_rfl)⟩) rfl
    (fun H ds h => by match ds, h with | [_], _ => exact ⟨rfl, rfl, rfl⟩) FnExactValidTag_lc os started H enc
    (ChangeSpec.witness6 (enc := enc) (C := Try.checked) false ⟨#[], #[.string ByteArray.empty], []⟩ 8 (by kernel_rfl) (by kernel_rfl) (by kernel_rfl) (by kernel_rfl))
theorem FnExactValidTag_holds : Rows.FnExactValidTagSaid :=
  OpenClaim.holds_of_wide 4 Try.f4 rfl rfl rfl rfl rfl rfl rfl ⟨rfl, rfl, rfl, rfl, rfl⟩ rfl rfl rfl rfl rfl (by kernel_rfl) Try.func4 (by kernel_rfl)
    (of_decide_eq_true (by kernel_rfl)) (by unfold Func.isWrapper; rw [if_neg (of_decide_eq_false (by kernel_rfl))]; exact ⟨rfl, rfl⟩)
    (fun os started H enc _ => FnExactValidTag_lift os started H enc)
#print axioms FnExactValidTag_holds

end Go.Proofs.Ytcpoglgldelhnaa
