/- FnExactValidAxis returns true for every axis, and leaves it as it was. No condition. -/
import Derived.Test.YtnbhanbpaeidbaaAxV7
import Derived.Test.YtnbhanbpaeidbaaLV
import Derived.Test.YtnbhanbpaeidbaaRows
set_option linter.unusedSimpArgs false
set_option linter.unusedVariables false
namespace Go.Proofs.Ytnbhanbpaeidbaa
open Go.RowKit
set_option maxHeartbeats 4000000 in
theorem FnExactValidAxis_v (x : TAxis) : PC Try.prog 3 [.d x.D] (.d (.bool true)) [] := by
  refine pc_intro ttOk (by kernel_rfl) Try.func3 rfl (by kernel_rfl) (by kernel_rfl) (by kernel_rfl) (fun hw => ?_)
  by_cases hz : ((zAxis x : Nat) : Int) ≤ 1048576
  · have c1 := szAxis_le x 1048576 (by omega) (by omega) hz
    (conv => whnf)
    (apply CallW.use (c1); (focus ((repeat ((conv => whnf); (refine ⟨_, _, rfl, ?_, ?_⟩); (focus (first | ((conv => whnf); done) | ((conv => whnf); first | exact ⟨_, rfl, rfl⟩ | exact ⟨rfl, _, rfl, rfl⟩))))); (conv => whnf))); (focus rfl); (conv => whnf))
    (split <;> rename_i h1 <;> simp only [decide_eq_true_eq, decide_eq_false_iff_not, Bool.not_eq_true', Bool.not_eq_false', bne_iff_ne, ne_eq, beq_iff_eq, bne_eq_false_iff_eq, beq_eq_false_iff_ne, Decidable.not_not, Nat.not_lt, Nat.not_le, Int.not_lt, Int.not_le, Bool.and_eq_true, Bool.and_eq_false_iff, Bool.or_eq_true, Bool.or_eq_false_iff] at h1 <;> (conv => whnf) <;> (repeat ((first | (with_reducible apply IxW.id; apply IxW.map; (focus (first | assumption | exact hx))) | (with_reducible apply IoW.id; apply IoW.at; (focus omega); (focus omega)) | (with_reducible apply ArW.id; apply ArW.i64; (focus omega)) | (with_reducible apply EoW.id; apply EoW.at; (focus (first | assumption | exact he))) | (with_reducible apply NzW.id; apply NzW.mk'; (focus omega)) | (with_reducible apply OffW.id; apply OffW.at; (focus omega)) | (with_reducible apply BnW.id; apply BnW.at; (focus omega)) | (with_reducible apply SlW.id; apply SlW.at; (focus omega); (focus omega)) | (with_reducible apply TkW.id; apply TkW.at; (focus (first | rfl | exact (List.length_map _).symm))) | (with_reducible apply LtW.id; apply LtW.at; (focus omega)) | (with_reducible apply ChW.id; apply ChW.at; (focus omega); (focus exact hc)) | (with_reducible apply RegD.id; apply RegD.auto; (focus kernel_rfl))); (conv => whnf))))
    · exfalso; omega
    · (apply CallW.use (toAxis_v x (by omega)); (focus ((repeat ((conv => whnf); (refine ⟨_, _, rfl, ?_, ?_⟩); (focus (first | ((conv => whnf); done) | ((conv => whnf); first | exact ⟨_, rfl, rfl⟩ | exact ⟨rfl, _, rfl, rfl⟩))))); (conv => whnf))); (focus rfl); (conv => whnf))
      apply CallW.use (specValidAxis_v x)
      · (refine ⟨_, _, rfl, ⟨_, rfl, _, rfl, ⟨_, _, rfl, rfl, _, _, rfl, rfl, _, _, rfl, rfl, _, _, rfl, rfl, _, _, rfl, ?_, rfl⟩⟩, rfl⟩; (conv => whnf); exact ⟨by simp, by rw [List.drop_zero, List.take_of_length_le (by simp)]⟩)
      · rfl
      · (conv => whnf)
        (apply CallW.use (toAxis_v x (by omega)); (focus ((repeat ((conv => whnf); (refine ⟨_, _, rfl, ?_, ?_⟩); (focus (first | ((conv => whnf); done) | ((conv => whnf); first | exact ⟨_, rfl, rfl⟩ | exact ⟨rfl, _, rfl, rfl⟩))))); (conv => whnf))); (focus rfl); (conv => whnf))
        apply CallW.use (ValidAxis_v x)
        · (refine ⟨_, _, rfl, ⟨_, rfl, _, rfl, ⟨_, _, rfl, rfl, _, _, rfl, rfl, _, _, rfl, rfl, _, _, rfl, rfl, _, _, rfl, ?_, rfl⟩⟩, rfl⟩; (conv => whnf); exact ⟨by simp, by rw [List.drop_zero, List.take_of_length_le (by simp)]⟩)
        · rfl
        · (conv => whnf)
          cases axB x <;> (
            (conv => whnf)
            (refine RegD.auto (by kernel_rfl) ?_; conv => whnf)
            (apply CallW.use (toAxis_v x (by omega)); (focus ((repeat ((conv => whnf); (refine ⟨_, _, rfl, ?_, ?_⟩); (focus (first | ((conv => whnf); done) | ((conv => whnf); first | exact ⟨_, rfl, rfl⟩ | exact ⟨rfl, _, rfl, rfl⟩))))); (conv => whnf))); (focus rfl); (conv => whnf))
            apply CallW.use (eqAxis_v x)
            · refine ⟨_, _, rfl, ⟨_, rfl, _, rfl, ⟨_, _, rfl, rfl, _, _, rfl, rfl, _, _, rfl, rfl, _, _, rfl, rfl, _, _, rfl, ?_, rfl⟩⟩, _, _, rfl, ⟨_, rfl, _, rfl, ⟨_, _, rfl, rfl, _, _, rfl, rfl, _, _, rfl, rfl, _, _, rfl, rfl, _, _, rfl, ?_, rfl⟩⟩, rfl⟩ <;> ((conv => whnf); exact ⟨by simp, by rw [List.drop_zero, List.take_of_length_le (by simp)]⟩)
            · rfl
            · (conv => whnf)
              (refine RetOK.d rfl rfl ?_; conv => whnf))
  · have c1 := szAxis_gt x 1048576 (by omega) (by omega) (by omega)
    (conv => whnf)
    (apply CallW.use (c1); (focus ((repeat ((conv => whnf); (refine ⟨_, _, rfl, ?_, ?_⟩); (focus (first | ((conv => whnf); done) | ((conv => whnf); first | exact ⟨_, rfl, rfl⟩ | exact ⟨rfl, _, rfl, rfl⟩))))); (conv => whnf))); (focus rfl); (conv => whnf))
    (refine RetOK.d rfl rfl ?_; conv => whnf)
theorem FnExactValidAxis_lc : LawCalls Try.prog 3 [24] :=
  law_of_pc ⟨_, _, rfl, (arg_st Try.underlying24 rdt_Axis (by rintro y ⟨x, rfl⟩; rfl)), rfl⟩ (fun ds h => by
    obtain ⟨d0, r0, rfl, ⟨x0, rfl⟩, h0⟩ := h
    cases h0
    exact FnExactValidAxis_v x0)
set_option maxRecDepth 100000 in
theorem FnExactValidAxis_lift (os : Os) (started : os.Started) (H : Type) (enc : TypeId × Value → H) :
    ReturnsInHanded {} Try.checked os 3 .any (Rows.fnExactValidAxisSpec.pre6 enc Try.prog Try.f3 Rows.fnExactValidAxisRow.domain false) (Rows.fnExactValidAxisSpec.post enc Try.prog Try.f3 false true false false) :=
  law_lift (C := Try.checked) (s := Rows.fnExactValidAxisSpec) (ts := [24]) own laidOut (by kernel_rfl) Try.func3 (by rw [Try.params3]) rfl Try.underlying4
    (by simp only [List.mem_cons, List.not_mem_nil, or_false]; rintro t (rfl) <;> exact ⟨by kernel_rfl, of_decide_eq_true (by kernel_rfl)⟩) rfl
    (fun H ds h => by match ds, h with | [_], _ => exact ⟨rfl, rfl, rfl⟩) FnExactValidAxis_lc os started H enc
    (ChangeSpec.witness6 (enc := enc) (C := Try.checked) false ⟨#[], #[.agg #[.string ByteArray.empty, .int .i64 0, .int .i64 0, .int .i64 0, .slice none 0 0]], []⟩ 8 (by kernel_rfl) (by kernel_rfl) (by kernel_rfl) (by kernel_rfl))
theorem FnExactValidAxis_holds : Rows.FnExactValidAxisSaid :=
  OpenClaim.holds_of_wide 3 Try.f3 rfl rfl rfl rfl rfl rfl rfl ⟨rfl, rfl, rfl, rfl, rfl⟩ rfl rfl rfl rfl rfl (by kernel_rfl) Try.func3 (by kernel_rfl)
    (of_decide_eq_true (by kernel_rfl)) (by unfold Func.isWrapper; rw [if_neg (of_decide_eq_false (by kernel_rfl))]; exact ⟨rfl, rfl⟩)
    (fun os started H enc _ => FnExactValidAxis_lift os started H enc)
#print axioms FnExactValidAxis_holds

end Go.Proofs.Ytnbhanbpaeidbaa
