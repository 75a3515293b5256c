/- FnExactPackTables returns true for all arguments, and leaves them as they were. No condition. -/
import Derived.Test.YtdeafbgnbgihgaaPaV
import Derived.Test.YtdeafbgnbgihgaaRows
set_option linter.unusedSimpArgs false
set_option linter.unusedVariables false
namespace Go.Proofs.Ytdeafbgnbgihgaa
open Go.RowKit
set_option maxHeartbeats 4000000 in
theorem FnExactPackTables_v (x0 : List TTable) : PC Try.prog 5 [.d (.lst (x0.map TTable.D))] (.d (.bool true)) [] := by
  refine pc_intro ttOk (by kernel_rfl) Try.func5 rfl (by kernel_rfl) (by kernel_rfl) (by kernel_rfl) (fun hw => ?_)
  have hL0 : (x0.map TTable.D).length = x0.length := List.length_map _
  by_cases hz0 : (((zL zTable x0) : Nat) : Int) ≤ 1048576
  · skip
    have d0 := szTableS_le x0 1048576 (by omega) (by omega) hz0
    have d1 := toTableS_v x0 (by omega)
    have d2 := eqTableS_v x0
    have d3 := specPackTables_a x0 (by omega)
    have d4 := PackTables_a x0 (by omega)
    (conv => whnf)
    (repeat' (first | (refine stg_ ?_) | (refine cla_ (d0) ?_) | (refine cla_ (d1) ?_) | (refine cla_ (d2) ?_) | (refine cla_ (d3) ?_) | (refine cla_ (d4) ?_) | (refine br_ (fun hbr => ?_) (fun hbr => ?_))))
    all_goals first | (exfalso; omega) | (exfalso; simp_all; done) | (refine RetOK.d rfl rfl ?_; conv => whnf)
  · (conv => whnf)
    (repeat' (first | (refine stg_ ?_) | (refine cla_ (szTableS_gt x0 1048576 (by omega) (by omega) (by omega)) ?_) | (refine br_ (fun hbr => ?_) (fun hbr => ?_))))
    all_goals first | (exfalso; omega) | (refine RetOK.d rfl rfl ?_; conv => whnf)

theorem FnExactPackTables_lc : LawCalls Try.prog 5 [22] :=
  law_of_pc ⟨_, _, rfl, (arg_sl Try.underlying22 rdt_TableS (by rintro y ⟨x, rfl⟩; rfl)), rfl⟩ (fun ds h => by
    obtain ⟨d0, r0, rfl, ⟨x0, rfl⟩, h0⟩ := h
    cases h0
    exact FnExactPackTables_v x0)
set_option maxRecDepth 100000 in
theorem FnExactPackTables_lift (os : Os) (started : os.Started) (H : Type) (enc : TypeId × Value → H) :
    ReturnsInHanded {} Try.checked os 5 .any (Rows.fnExactPackTablesSpec.pre6 enc Try.prog Try.f5 Rows.fnExactPackTablesRow.domain false) (Rows.fnExactPackTablesSpec.post enc Try.prog Try.f5 false true false false) :=
  law_lift (C := Try.checked) (s := Rows.fnExactPackTablesSpec) (ts := [22]) own laidOut (by kernel_rfl) Try.func5 (by rw [Try.params5]) rfl Try.underlying4
    (by simp only [List.mem_cons, List.not_mem_nil, or_false]; rintro t (rfl) <;> exact ⟨by kernel_rfl, of_decide_eq_true (by kernel_rfl)⟩) rfl
    (fun H ds h => by match ds, h with | [_], _ => exact ⟨rfl, rfl, rfl⟩) FnExactPackTables_lc os started H enc
    (ChangeSpec.witness6 (enc := enc) (C := Try.checked) false ⟨#[], #[.slice none 0 0], []⟩ 8 (by kernel_rfl) (by kernel_rfl) (by kernel_rfl) (by kernel_rfl))
set_option maxHeartbeats 40000000 in
theorem FnExactPackTables_holds : Rows.FnExactPackTablesSaid :=
  OpenClaim.holds_of_wide 5 Try.f5 rfl rfl rfl rfl rfl rfl rfl ⟨rfl, rfl, rfl, rfl, rfl⟩ rfl rfl rfl rfl rfl (by kernel_rfl) Try.func5 (by unfold joinedFacts; (repeat' ((with_reducible refine Bool.and_eq_true_iff.2 (And.intro ?_ ?_)))) <;> (as_aux_lemma => kernel_rfl))
    (of_decide_eq_true (by kernel_rfl)) (by unfold Func.isWrapper; rw [if_neg (of_decide_eq_false (by kernel_rfl))]; exact ⟨rfl, rfl⟩)
    (fun os started H enc _ => FnExactPackTables_lift os started H enc)
#print axioms FnExactPackTables_holds

end Go.Proofs.Ytdeafbgnbgihgaa
