/- FnExactDropTable returns true for all arguments, and leaves them as they were. No condition. -/
import Derived.Test.YtdeafbgnbgihgaaDtV
import Derived.Test.YtdeafbgnbgihgaaLM
import Derived.Test.YtdeafbgnbgihgaaLV
import Derived.Test.YtdeafbgnbgihgaaRows
set_option linter.unusedSimpArgs false
set_option linter.unusedVariables false
namespace Go.Proofs.Ytdeafbgnbgihgaa
open Go.RowKit
set_option maxHeartbeats 8000000 in
theorem FnExactDropTable_v (x0 : List TTable) (x1 : ByteArray) : PC Try.prog 3 [.d (.lst (x0.map TTable.D)), .d (.str x1)] (.d (.bool true)) [] := by
  refine pc_intro ttOk (by kernel_rfl) Try.func3 rfl (by kernel_rfl) (by kernel_rfl) (by kernel_rfl) (fun hw => ?_)
  have hL0 : (x0.map TTable.D).length = x0.length := List.length_map _
  have hY0 : x0.length ≤ (zL zTable x0) := by simp [zL]
  by_cases hz0 : ((x1.size : Nat) : Int) ≤ 1048576
  · skip
    by_cases hz1 : (((zL zTable x0) : Nat) : Int) ≤ 1048576
    · skip
      have c1 := szTableS_le x0 1048576 (by omega) (by omega) hz1
      have d0 := toTableS_v x0 (by omega)
      have d1 := eqTableS_v x0
      have d2 := mkTableS_pk x0 (1) (by omega) (by omega)
      rcases dt_cases x0 x1 with hB | ⟨i, hi, hV, hlt⟩
      · skip
        have d3 := specDropTable_no x0 x1 (by omega) hB
        have d4 := DropTable_no x0 x1 (by omega) hB
        have d5 := eqTableS_v []
        have d6 := mkTableS_nil (1)
        have d7 := hdTableS_v [] (1) (by first | decide | (simp [wSum])) (by first | decide | omega)
        (conv => whnf)
        (repeat' (first | (refine stg_ ?_) | (refine cla_ (c1) ?_) | (refine cla_ (d0) ?_) | (refine cla_ (d1) ?_) | (refine clk_ (d2) ?_) | (refine cla_ (d3) ?_) | (refine cla_ (d4) ?_) | (refine cla_ (d5) ?_) | (refine cla_ (d6) ?_) | (refine cla_ (d7) ?_) | (refine br_ (fun hbr => ?_) (fun hbr => ?_))))
        all_goals first | (exfalso; omega) | (exfalso; simp_all; done) | (refine RetOK.d rfl rfl ?_; conv => whnf)
      · skip
        have hl16 := vt_len hV
        have hdl := dpL_len hlt
        have d3 := specDropTable_v x0 x1 (by omega) i hi hV
        have d4 := DropTable_v x0 x1 (by omega) i hi hV
        have hl1_a : (dpL x0 i).length = x0.length - 1 := hdl
        have hl1_b : ((dpL x0 i).map TTable.D).length = x0.length - 1 := by (rw [List.length_map]); first | done | exact hl1_a
        have hl1_c : ((mkLTable (1) (dpL x0 i)).map TTable.D).length = x0.length - 1 := by (rw [List.length_map, mkLTable_len]); first | done | exact hl1_a
        have d5 := eqTableS_v (dpL x0 i)
        have d6 := mkTableS_pk (dpL x0 i) (1) (by omega) (by omega)
        have d7 := hdTableS_v (dpL x0 i) (1) (by omega) (by omega)
        (conv => whnf)
        (repeat' (first | (refine stg_ ?_) | (refine cla_ (c1) ?_) | (refine cla_ (d0) ?_) | (refine cla_ (d1) ?_) | (refine clk_ (d2) ?_) | (refine cla_ (d3) ?_) | (refine cla_ (d4) ?_) | (refine cla_ (d5) ?_) | (refine clk_ (d6) ?_) | (refine cla_ (d7) ?_) | (refine br_ (fun hbr => ?_) (fun hbr => ?_))))
        all_goals first | (exfalso; omega) | (exfalso; simp_all; done) | (refine RetOK.d rfl rfl ?_; conv => whnf)
    · skip
      have e1 := szTableS_gt x0 1048576 (by omega) (by omega) (by omega)
      (conv => whnf)
      (repeat' (first | (refine stg_ ?_) | (refine cla_ (e1) ?_) | (refine br_ (fun hbr => ?_) (fun hbr => ?_))))
      all_goals first | (exfalso; omega) | (refine RetOK.d rfl rfl ?_; conv => whnf)
  · skip
    (conv => whnf)
    (repeat' (first | (refine stg_ ?_) | fail | (refine br_ (fun hbr => ?_) (fun hbr => ?_))))
    all_goals first | (exfalso; omega) | (refine RetOK.d rfl rfl ?_; conv => whnf)

theorem FnExactDropTable_lc : LawCalls Try.prog 3 [22, 9] :=
  law_of_pc ⟨_, _, rfl, (arg_sl Try.underlying22 rdt_TableS (by rintro y ⟨x, rfl⟩; rfl)), ⟨_, _, rfl, (arg_str Try.underlying9 rdt_str (by rintro y ⟨x, rfl⟩; rfl)), rfl⟩⟩ (fun ds h => by
    obtain ⟨d0, r0, rfl, ⟨x0, rfl⟩, h0⟩ := h
    obtain ⟨d1, r1, rfl, ⟨x1, rfl⟩, h1⟩ := h0
    cases h1
    exact FnExactDropTable_v x0 x1)
set_option maxRecDepth 100000 in
theorem FnExactDropTable_lift (os : Os) (started : os.Started) (H : Type) (enc : TypeId × Value → H) :
    ReturnsInHanded {} Try.checked os 3 .any (Rows.fnExactDropTableSpec.pre6 enc Try.prog Try.f3 Rows.fnExactDropTableRow.domain false) (Rows.fnExactDropTableSpec.post enc Try.prog Try.f3 false true false false) :=
  law_lift (C := Try.checked) (s := Rows.fnExactDropTableSpec) (ts := [22, 9]) own laidOut (by kernel_rfl) Try.func3 (by rw [Try.params3]) rfl Try.underlying4
    (by simp only [List.mem_cons, List.not_mem_nil, or_false]; rintro t (rfl | rfl) <;> exact ⟨by kernel_rfl, of_decide_eq_true (by kernel_rfl)⟩) rfl
    (fun H ds h => by match ds, h with | [_, _], _ => exact ⟨rfl, rfl, rfl⟩) FnExactDropTable_lc os started H enc
    (ChangeSpec.witness6 (enc := enc) (C := Try.checked) false ⟨#[], #[.slice none 0 0, .string ByteArray.empty], []⟩ 8 (by kernel_rfl) (by kernel_rfl) (by kernel_rfl) (by kernel_rfl))
set_option maxHeartbeats 40000000 in
theorem FnExactDropTable_holds : Rows.FnExactDropTableSaid :=
  OpenClaim.holds_of_wide 3 Try.f3 rfl rfl rfl rfl rfl rfl rfl ⟨rfl, rfl, rfl, rfl, rfl⟩ rfl rfl rfl rfl rfl (by kernel_rfl) Try.func3 (by unfold joinedFacts; (repeat' ((with_reducible refine Bool.and_eq_true_iff.2 (And.intro ?_ ?_)))) <;> (as_aux_lemma => kernel_rfl))
    (of_decide_eq_true (by kernel_rfl)) (by unfold Func.isWrapper; rw [if_neg (of_decide_eq_false (by kernel_rfl))]; exact ⟨rfl, rfl⟩)
    (fun os started H enc _ => FnExactDropTable_lift os started H enc)
#print axioms FnExactDropTable_holds

end Go.Proofs.Ytdeafbgnbgihgaa
