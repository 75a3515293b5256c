/- FnExactPeakFactor returns true for every peak and number, and leaves them as they were. No condition. -/
import Derived.Test.YtcpoglgldelhnaaPeak2
namespace Go.Proofs.Ytcpoglgldelhnaa
open Go.ChangeShapes Go.WideShapes Go.ChangeAt Go.RowKit

theorem pkFE_two (a b c n : Int) : ∃ u v : Int, pkFE a b c n = .tuple #[.int .i64 u, .int .i64 v] := by
  unfold pkFE
  split
  · exact ⟨_, _, rfl⟩
  · split <;> exact ⟨_, _, rfl⟩
theorem FnExactPeakFactor_c (x : TPeak) (cs : List Value) (n : Int) (w : World) (h : PeakC.rep w cs x) (_ : I64 n) :
    Calls Try.prog 6 #[.agg cs.toArray, .int .i64 n] w fun e w' => e = .returned (.bool true) ∧ Ext w w' := by
  obtain ⟨rfl, h⟩ := h
  obtain ⟨u, v, hu⟩ := pkFE_two x.fStart x.fTop x.fEnd n
  have HU := Lib.hid hu
  clear hu
  go_enter Try.func6, Try.ntmps6
  go_wp2_with fail
  refine (toPeak_c x _ _ ⟨rfl, h⟩).mono ?_; rintro e w1 ⟨cs1, F1, rfl, o1, n1, q1, hb1⟩; obtain ⟨hc1, hf1⟩ := hb1.keeps; dsimp only [id]; obtain ⟨rfl, rfl, _⟩ := o1
  go_wp2_with fail
  refine (specPeakFactor_c _ _ _ _ _).mono ?_; rintro e w2 ⟨rfl, hb2⟩; obtain ⟨hc2, hf2⟩ := hb2.keeps
  rw [HU.out]
  go_wp2_with fail
  refine (toPeak_c x _ _ ⟨rfl, h⟩).mono ?_; rintro e w3 ⟨cs3, F3, rfl, o3, n3, q3, hb3⟩; obtain ⟨hc3, hf3⟩ := hb3.keeps; dsimp only [id]; obtain ⟨rfl, rfl, _⟩ := o3
  go_wp2_with fail
  refine (PeakFactor_c _ _ _ _ _).mono ?_; rintro e w4 ⟨rfl, hb4⟩; obtain ⟨hc4, hf4⟩ := hb4.keeps
  rw [HU.out]
  go_wp2_with fail
  go_ret
  exact ⟨rfl, by (repeat (first | with_reducible exact Ext.refl _ | with_reducible assumption | with_reducible refine Ext.alloc ?_ _ | with_reducible refine Ext.drew ?_ | with_reducible refine Ext.drewN ?_ _ | (with_reducible refine Ext.setCell ?_ (by first | omega | (dsimp only; omega)) _) | with_reducible refine Ext.trans ?_ (by assumption)))⟩
theorem FnExactPeakFactor_lc : LawCalls Try.prog 6 [23, 2] := by
  intro H enc W base args ds p hval hA
  obtain ⟨v0, vs0, d0, ds0, p0, q0, rfl, rfl, rfl, h0, r0⟩ := ChangeShapes.trodAll_cons hA
  obtain ⟨v1, vs1, d1, ds1, p1, q1, rfl, rfl, rfl, h1, r1⟩ := ChangeShapes.trodAll_cons r0
  obtain ⟨rfl, rfl, rfl⟩ := trodAll_nil r1
  obtain ⟨x0, k0⟩ := rd_Peak.open_ h0
  obtain ⟨cs0, rfl, j0⟩ := open_aggV Try.underlying23 (hval 0 _ _ rfl rfl) k0
  obtain ⟨x1, k1⟩ := rd_int.open_ h1
  obtain ⟨rfl, j1⟩ := open_intV Try.underlying2 (hval 1 _ _ rfl rfl) k1
  exact FnExactPeakFactor_c x0 _ x1 W j0 j1
set_option maxRecDepth 100000 in
theorem FnExactPeakFactor_lift (os : Os) (started : os.Started) (H : Type) (enc : TypeId × Value → H) :
    ReturnsInHanded {} Try.checked os 6 .any (Rows.fnExactPeakFactorSpec.pre6 enc Try.prog Try.f6 Rows.fnExactPeakFactorRow.domain false) (Rows.fnExactPeakFactorSpec.post enc Try.prog Try.f6 false true false false) :=
  law_lift (C := Try.checked) (s := Rows.fnExactPeakFactorSpec) (ts := [23, 2]) own laidOut (by kernel_rfl) Try.func6 (by rw [Try.params6]) rfl Try.underlying4
    (by simp only [List.mem_cons, List.not_mem_nil, or_false]; rintro t (rfl | rfl) <;> exact ⟨by kernel_rfl, of_decide_eq_true (by kernel_rfl)⟩) rfl
    (fun H ds h => by match ds, h with | [_, _], _ => exact ⟨rfl, rfl, rfl⟩) FnExactPeakFactor_lc os started H enc
    (ChangeSpec.witness6 (enc := enc) (C := Try.checked) false ⟨#[], #[.agg #[.int .i64 0, .int .i64 0, .int .i64 0], .int .i64 0], []⟩ 8 (by kernel_rfl) (by kernel_rfl) (by kernel_rfl) (by kernel_rfl))
theorem FnExactPeakFactor_holds : Rows.FnExactPeakFactorSaid :=
  OpenClaim.holds_of_wide 6 Try.f6 rfl rfl rfl rfl rfl rfl rfl ⟨rfl, rfl, rfl, rfl, rfl⟩ rfl rfl rfl rfl rfl (by kernel_rfl) Try.func6 (by kernel_rfl)
    (of_decide_eq_true (by kernel_rfl)) (by unfold Func.isWrapper; rw [if_neg (of_decide_eq_false (by kernel_rfl))]; exact ⟨rfl, rfl⟩)
    (fun os started H enc _ => FnExactPeakFactor_lift os started H enc)
#print axioms FnExactPeakFactor_holds

end Go.Proofs.Ytcpoglgldelhnaa
