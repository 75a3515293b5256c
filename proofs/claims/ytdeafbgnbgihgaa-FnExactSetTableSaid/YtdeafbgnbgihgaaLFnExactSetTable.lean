/- FnExactSetTable returns true for all arguments, and leaves them as they were. No condition. -/
import Derived.Test.YtdeafbgnbgihgaaSxV
import Derived.Test.YtdeafbgnbgihgaaLM
import Derived.Test.YtdeafbgnbgihgaaLV
import Derived.Test.YtdeafbgnbgihgaaRows
set_option linter.unusedSimpArgs false
set_option linter.unusedVariables false
namespace Go.Proofs.Ytdeafbgnbgihgaa
open Go.RowKit
set_option maxHeartbeats 8000000 in
theorem FnExactSetTable_v (x0 : List TTable) (x1 : TTable) : PC Try.prog 4 [.d (.lst (x0.map TTable.D)), .d (x1.D)] (.d (.bool true)) [] := by
  refine pc_intro ttOk (by kernel_rfl) Try.func4 rfl (by kernel_rfl) (by kernel_rfl) (by kernel_rfl) (fun hw => ?_)
  have hL0 : (x0.map TTable.D).length = x0.length := List.length_map _
  have hY0 : x0.length ≤ (zL zTable x0) := by simp [zL]
  by_cases hz0 : (((zL zTable x0) : Nat) : Int) ≤ 1048576
  · skip
    have c1 := szTableS_le x0 1048576 (by omega) (by omega) hz0
    by_cases hz1 : (((zTable x1) : Nat) : Int) ≤ (1048576 - (((zL zTable x0) : Nat) : Int))
    · skip
      have c2 := szTable_le x1 (1048576 - (((zL zTable x0) : Nat) : Int)) (by omega) (by omega) hz1
      have d0 := toTableS_v x0 (by omega)
      have d1 := eqTableS_v x0
      have d2 := toTable_v x1
      have d3 := eqTable_v x1
      have d4 := mkTableS_pk x0 (1) (by omega) (by omega)
      rcases st_cases x0 x1 with ⟨c, hB⟩ | ⟨hO, hB⟩
      · skip
        have d5 := specSetTable_v x0 x1 (by omega) (by omega) hB
        have d6 := SetTable_v x0 x1 (by omega) (by omega) hB
        have d7 := eqTableS_v []
        have d8 := mkTableS_nil (1)
        have d9 := hdTableS_v [] (1) (by first | decide | (simp [wSum])) (by first | decide | omega)
        (conv => whnf)
        (repeat' (first | (refine stg_ ?_) | (refine cla_ (c1) ?_) | (refine cla_ (c2) ?_) | (refine cla_ (d0) ?_) | (refine cla_ (d1) ?_) | (refine cla_ (d2) ?_) | (refine cla_ (d3) ?_) | (refine clk_ (d4) ?_) | (refine cla_ (d5) ?_) | (refine cla_ (d6) ?_) | (refine cla_ (d7) ?_) | (refine cla_ (d8) ?_) | (refine cla_ (d9) ?_) | (refine br_ (fun hbr => ?_) (fun hbr => ?_))))
        all_goals first | (exfalso; omega) | (exfalso; simp_all; done) | (refine RetOK.d rfl rfl ?_; conv => whnf)
      · skip
        have hl16 := vt_len hO
        have d5 := specSetTable_v x0 x1 (by omega) (by omega) hB
        have d6 := SetTable_v x0 x1 (by omega) (by omega) hB
        have hl1_a : (setL x1 x0).length = (setL x1 x0).length := rfl
        have hl1_b : ((setL x1 x0).map TTable.D).length = (setL x1 x0).length := by (rw [List.length_map]); first | done | exact hl1_a
        have hl1_c : ((mkLTable (1) (setL x1 x0)).map TTable.D).length = (setL x1 x0).length := by (rw [List.length_map, mkLTable_len]); first | done | exact hl1_a
        have d7 := eqTableS_v (setL x1 x0)
        have d8 := mkTableS_pk (setL x1 x0) (1) (by omega) (by omega)
        have d9 := hdTableS_v (setL x1 x0) (1) (by omega) (by omega)
        (conv => whnf)
        (repeat' (first | (refine stg_ ?_) | (refine cla_ (c1) ?_) | (refine cla_ (c2) ?_) | (refine cla_ (d0) ?_) | (refine cla_ (d1) ?_) | (refine cla_ (d2) ?_) | (refine cla_ (d3) ?_) | (refine clk_ (d4) ?_) | (refine cla_ (d5) ?_) | (refine cla_ (d6) ?_) | (refine cla_ (d7) ?_) | (refine clk_ (d8) ?_) | (refine cla_ (d9) ?_) | (refine br_ (fun hbr => ?_) (fun hbr => ?_))))
        all_goals first | (exfalso; omega) | (exfalso; simp_all; done) | (refine RetOK.d rfl rfl ?_; conv => whnf)
    · skip
      have e1 := szTable_gt x1 (1048576 - (((zL zTable x0) : Nat) : Int)) (by omega) (by omega) (by omega)
      (conv => whnf)
      (repeat' (first | (refine stg_ ?_) | (refine cla_ (c1) ?_) | (refine cla_ (e1) ?_) | (refine br_ (fun hbr => ?_) (fun hbr => ?_))))
      all_goals first | (exfalso; omega) | (refine RetOK.d rfl rfl ?_; conv => whnf)
  · skip
    have e1 := szTableS_gt x0 1048576 (by omega) (by omega) (by omega)
    (conv => whnf)
    (repeat' (first | (refine stg_ ?_) | (refine cla_ (e1) ?_) | (refine br_ (fun hbr => ?_) (fun hbr => ?_))))
    all_goals first | (exfalso; omega) | (refine RetOK.d rfl rfl ?_; conv => whnf)

theorem FnExactSetTable_lc : LawCalls Try.prog 4 [22, 32] :=
  law_of_pc ⟨_, _, rfl, (arg_sl Try.underlying22 rdt_TableS (by rintro y ⟨x, rfl⟩; rfl)), ⟨_, _, rfl, (arg_st Try.underlying32 rdt_Table (by rintro y ⟨x, rfl⟩; rfl)), rfl⟩⟩ (fun ds h => by
    obtain ⟨d0, r0, rfl, ⟨x0, rfl⟩, h0⟩ := h
    obtain ⟨d1, r1, rfl, ⟨x1, rfl⟩, h1⟩ := h0
    cases h1
    exact FnExactSetTable_v x0 x1)
set_option maxRecDepth 100000 in
theorem FnExactSetTable_lift (os : Os) (started : os.Started) (H : Type) (enc : TypeId × Value → H) :
    ReturnsInHanded {} Try.checked os 4 .any (Rows.fnExactSetTableSpec.pre6 enc Try.prog Try.f4 Rows.fnExactSetTableRow.domain false) (Rows.fnExactSetTableSpec.post enc Try.prog Try.f4 false true false false) :=
  law_lift (C := Try.checked) (s := Rows.fnExactSetTableSpec) (ts := [22, 32]) own laidOut (by kernel_rfl) Try.func4 (by rw [Try.params4]) rfl Try.underlying4
    (by simp only [List.mem_cons, List.not_mem_nil, or_false]; rintro t (rfl | rfl) <;> exact ⟨by kernel_rfl, of_decide_eq_true (by kernel_rfl)⟩) rfl
    (fun H ds h => by match ds, h with | [_, _], _ => exact ⟨rfl, rfl, rfl⟩) FnExactSetTable_lc os started H enc
    (ChangeSpec.witness6 (enc := enc) (C := Try.checked) false ⟨#[], #[.slice none 0 0, .agg #[.string ByteArray.empty, .string ByteArray.empty]], []⟩ 8 (by kernel_rfl) (by kernel_rfl) (by kernel_rfl) (by kernel_rfl))
set_option maxHeartbeats 40000000 in
theorem FnExactSetTable_holds : Rows.FnExactSetTableSaid :=
  OpenClaim.holds_of_wide 4 Try.f4 rfl rfl rfl rfl rfl rfl rfl ⟨rfl, rfl, rfl, rfl, rfl⟩ rfl rfl rfl rfl rfl (by kernel_rfl) Try.func4 (by unfold joinedFacts; (repeat' ((with_reducible refine Bool.and_eq_true_iff.2 (And.intro ?_ ?_)))) <;> (as_aux_lemma => kernel_rfl))
    (of_decide_eq_true (by kernel_rfl)) (by unfold Func.isWrapper; rw [if_neg (of_decide_eq_false (by kernel_rfl))]; exact ⟨rfl, rfl⟩)
    (fun os started H enc _ => FnExactSetTable_lift os started H enc)
#print axioms FnExactSetTable_holds

end Go.Proofs.Ytdeafbgnbgihgaa
