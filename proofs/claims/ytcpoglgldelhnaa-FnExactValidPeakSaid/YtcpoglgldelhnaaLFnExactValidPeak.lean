/- FnExactValidPeak returns true for every peak, and leaves it as it was. No condition. -/
import Derived.Test.YtcpoglgldelhnaaRd
import Derived.Test.YtcpoglgldelhnaaPeak
namespace Go.Proofs.Ytcpoglgldelhnaa
open Go.ChangeShapes Go.WideShapes Go.ChangeAt Go.RowKit

theorem FnExactValidPeak_c (x : TPeak) (cs : List Value) (w : World) (h : PeakC.rep w cs x) :
    Calls Try.prog 3 #[.agg cs.toArray] w fun e w' => e = .returned (.bool true) ∧ Ext w w' := by
  obtain ⟨rfl, h⟩ := h
  go_enter Try.func3, Try.ntmps3
  go_wp2_with fail
  refine (toPeak_c x _ _ ⟨rfl, h⟩).mono ?_; rintro e w1 ⟨cs1, F1, rfl, o1, n1, q1, hb1⟩; obtain ⟨hc1, hf1⟩ := hb1.keeps; dsimp only [id]; obtain ⟨rfl, rfl, _⟩ := o1
  go_wp2_with fail
  refine (specValidPeak_c _ _ _ _).mono ?_; rintro e w2 ⟨rfl, hb2⟩; obtain ⟨hc2, hf2⟩ := hb2.keeps
  go_wp2_with fail
  refine (toPeak_c x _ _ ⟨rfl, h⟩).mono ?_; rintro e w3 ⟨cs3, F3, rfl, o3, n3, q3, hb3⟩; obtain ⟨hc3, hf3⟩ := hb3.keeps; dsimp only [id]; obtain ⟨rfl, rfl, _⟩ := o3
  go_wp2_with fail
  refine (ValidPeak_c _ _ _ _).mono ?_; rintro e w4 ⟨rfl, hb4⟩; obtain ⟨hc4, hf4⟩ := hb4.keeps
  go_wp2_with fail
  go_ret
  exact ⟨rfl, by (repeat (first | with_reducible exact Ext.refl _ | with_reducible assumption | with_reducible refine Ext.alloc ?_ _ | with_reducible refine Ext.drew ?_ | with_reducible refine Ext.drewN ?_ _ | (with_reducible refine Ext.setCell ?_ (by first | omega | (dsimp only; omega)) _) | with_reducible refine Ext.trans ?_ (by assumption)))⟩
theorem FnExactValidPeak_lc : LawCalls Try.prog 3 [23] := by
  intro H enc W base args ds p hval hA
  obtain ⟨v0, vs0, d0, ds0, p0, q0, rfl, rfl, rfl, h0, r0⟩ := ChangeShapes.trodAll_cons hA
  obtain ⟨rfl, rfl, rfl⟩ := trodAll_nil r0
  obtain ⟨x0, k0⟩ := rd_Peak.open_ h0
  obtain ⟨cs0, rfl, j0⟩ := open_aggV Try.underlying23 (hval 0 _ _ rfl rfl) k0
  exact FnExactValidPeak_c x0 _ W j0
set_option maxRecDepth 100000 in
theorem FnExactValidPeak_lift (os : Os) (started : os.Started) (H : Type) (enc : TypeId × Value → H) :
    ReturnsInHanded {} Try.checked os 3 .any (Rows.fnExactValidPeakSpec.pre6 enc Try.prog Try.f3 Rows.fnExactValidPeakRow.domain false) (Rows.fnExactValidPeakSpec.post enc Try.prog Try.f3 false true false false) :=
  law_lift (C := Try.checked) (s := Rows.fnExactValidPeakSpec) (ts := [23]) own laidOut (by kernel_rfl) Try.func3 (by rw [Try.params3]) rfl Try.underlying4
    (by simp only [List.mem_cons, List.not_mem_nil, or_false]; rintro t (rfl) <;> exact ⟨by kernel_rfl, of_decide_eq_true (by kernel_rfl)⟩) rfl
    (fun H ds h => by match ds, h with | [_], _ => exact ⟨rfl, rfl, rfl⟩) FnExactValidPeak_lc os started H enc
    (ChangeSpec.witness6 (enc := enc) (C := Try.checked) false ⟨#[], #[.agg #[.int .i64 0, .int .i64 0, .int .i64 0]], []⟩ 8 (by kernel_rfl) (by kernel_rfl) (by kernel_rfl) (by kernel_rfl))
theorem FnExactValidPeak_holds : Rows.FnExactValidPeakSaid :=
  OpenClaim.holds_of_wide 3 Try.f3 rfl rfl rfl rfl rfl rfl rfl ⟨rfl, rfl, rfl, rfl, rfl⟩ rfl rfl rfl rfl rfl (by kernel_rfl) Try.func3 (by kernel_rfl)
    (of_decide_eq_true (by kernel_rfl)) (by unfold Func.isWrapper; rw [if_neg (of_decide_eq_false (by kernel_rfl))]; exact ⟨rfl, rfl⟩)
    (fun os started H enc _ => FnExactValidPeak_lift os started H enc)
#print axioms FnExactValidPeak_holds

end Go.Proofs.Ytcpoglgldelhnaa
