/- FnExactApplyLookup returns true for all arguments, and leaves them as they were. No condition. -/
import Derived.Test.YtbnopcnlbcgdlaaApY
import Derived.Test.YtbnopcnlbcgdlaaLM
import Derived.Test.YtbnopcnlbcgdlaaLV
import Derived.Test.YtbnopcnlbcgdlaaRows
set_option linter.unusedSimpArgs false
set_option linter.unusedVariables false
namespace Go.Proofs.Ytbnopcnlbcgdlaa
open Go.RowKit
theorem apF_len (l : TLookup) : ∀ (n : Nat) (xs : List TItem) (tr : List Int) (a : Nat) (p : List TItem × List Int), xs.length ≤ 60 → apF l n xs tr a = some p → p.1.length ≤ 60
  | 0, xs, tr, a, p, h, e => by cases e; exact h
  | n + 1, xs, tr, a, p, h, e => by
    rw [apF] at e
    split at e
    · cases e; exact h
    · split at e
      · exact apF_len l n _ _ _ p h e
      · split at e
        · cases e
        · split at e
          · cases e
          · exact apF_len l n _ _ _ p (by omega) e
theorem apR2_cases (l : TLookup) (xs : List TItem) : (ApR2 l xs (.tup [.nils, .d (.int .i64 1)]) []) ∨ (ApR2 l xs (.tup [.nils, .d (.int .i64 5)]) []) ∨ ∃ ys : List TItem, ys.length ≤ 60 ∧ ApR2 l xs (.tup [.own 1 0 ys.length, .d (.int .i64 0)]) [.arr 3 (ys.map TItem.D) true] := by
  have e1 : ∀ v bs, ApR2 l xs v bs = if lkB l = true ∧ vrB xs 40 = true then (match apL l xs with
    | none => v = .tup [.nils, .d (.int .i64 5)] ∧ bs = []
    | some (ys, _) => v = .tup [.own 1 0 ys.length, .d (.int .i64 0)] ∧ bs = [.arr 3 (ys.map TItem.D) true])
    else v = .tup [.nils, .d (.int .i64 1)] ∧ bs = [] := fun _ _ => rfl
  by_cases hB : lkB l = true ∧ vrB xs 40 = true
  · have e2 : ∀ v bs, ApR2 l xs v bs = (match apL l xs with
      | none => v = .tup [.nils, .d (.int .i64 5)] ∧ bs = []
      | some (ys, _) => v = .tup [.own 1 0 ys.length, .d (.int .i64 0)] ∧ bs = [.arr 3 (ys.map TItem.D) true]) := fun v bs => by rw [e1, if_pos hB]
    cases ho : apL l xs with
    | none => refine .inr (.inl ?_); rw [e2, ho]; exact ⟨rfl, rfl⟩
    | some p => refine .inr (.inr ⟨p.1, apF_len l _ _ _ _ _ (vr_wk hB.2).1 ho, ?_⟩); rw [e2, ho]; exact ⟨rfl, rfl⟩
  · refine .inl ?_
    rw [e1, if_neg hB]
    exact ⟨rfl, rfl⟩
set_option maxHeartbeats 8000000 in
theorem FnExactApplyLookup_v (x0 : TLookup) (x1 : List TItem) : PC Try.prog 3 [.d (x0.D), .d (.lst (x1.map TItem.D))] (.d (.bool true)) [] := by
  refine pc_intro ttOk (by kernel_rfl) Try.func3 rfl (by kernel_rfl) (by kernel_rfl) (by kernel_rfl) (fun hw => ?_)
  have hL1 : (x1.map TItem.D).length = x1.length := List.length_map _
  by_cases hz0 : (((zLookup x0) : Nat) : Int) ≤ 1048576
  · skip
    have c1 := szLookup_le x0 1048576 (by omega) (by omega) hz0
    by_cases hz1 : ((x1.length : Nat) : Int) ≤ (1048576 - (((zLookup x0) : Nat) : Int))
    · skip
      have c2 := szItemS_le x1 (1048576 - (((zLookup x0) : Nat) : Int)) (by omega) (by omega) hz1
      have d0 := toLookup_v x0 (by omega)
      have d1 := eqLookup_v x0
      have d2 := toItemS_v x1 (by omega)
      have d3 := eqItemS_v x1
      have hzO : zLookup x0 = x0.fName.size + zL zRule x0.fRules := rfl
      have hw_4 := wSum_z wgtRule wgtRule_le x0.fRules
      have d4 := mkRuleS_pk x0.fRules (1) (by omega) (by omega)
      have d5 := mkItemS_pk x1 (1 + wSum wgtRule x0.fRules) (by omega) (by omega)
      rcases apR2_cases x0 x1 with hB | hB | ⟨ys, hlY, hB⟩
      · skip
        have d6 := specApplyLookup_v x0 x1 hB
        have d7 := ApplyLookup_v x0 x1 hB
        have d8 := eqItemS_v []
        have d9 := mkItemS_nil (1)
        have d10 := hdItemS_v [] (1) (by first | decide | (simp [wSum])) (by first | decide | omega)
        (conv => whnf)
        (repeat' (first | (refine stg_ ?_) | (refine cla_ (c1) ?_) | (refine cla_ (c2) ?_) | (refine cla_ (d0) ?_) | (refine cla_ (d1) ?_) | (refine cla_ (d2) ?_) | (refine cla_ (d3) ?_) | (refine clk_ (d4) ?_) | (refine clk_ (d5) ?_) | (refine cla_ (d6) ?_) | (refine cla_ (d7) ?_) | (refine cla_ (d8) ?_) | (refine cla_ (d9) ?_) | (refine cla_ (d10) ?_) | (refine CallW.inl ttOk (by kernel_rfl) Try.func12 rfl (by kernel_rfl) (by kernel_rfl) (by rfl) (fun s => ?_); (conv => whnf)) | (refine And.intro rfl ?_; (conv => whnf)) | (refine br_ (fun hbr => ?_) (fun hbr => ?_))))
        all_goals first | (exfalso; omega) | (exfalso; simp_all; done) | (refine RetOK.d rfl rfl ?_; conv => whnf)
      · skip
        have d6 := specApplyLookup_v x0 x1 hB
        have d7 := ApplyLookup_v x0 x1 hB
        have d8 := eqItemS_v []
        have d9 := mkItemS_nil (1)
        have d10 := hdItemS_v [] (1) (by first | decide | (simp [wSum])) (by first | decide | omega)
        (conv => whnf)
        (repeat' (first | (refine stg_ ?_) | (refine cla_ (c1) ?_) | (refine cla_ (c2) ?_) | (refine cla_ (d0) ?_) | (refine cla_ (d1) ?_) | (refine cla_ (d2) ?_) | (refine cla_ (d3) ?_) | (refine clk_ (d4) ?_) | (refine clk_ (d5) ?_) | (refine cla_ (d6) ?_) | (refine cla_ (d7) ?_) | (refine cla_ (d8) ?_) | (refine cla_ (d9) ?_) | (refine cla_ (d10) ?_) | (refine CallW.inl ttOk (by kernel_rfl) Try.func12 rfl (by kernel_rfl) (by kernel_rfl) (by rfl) (fun s => ?_); (conv => whnf)) | (refine And.intro rfl ?_; (conv => whnf)) | (refine br_ (fun hbr => ?_) (fun hbr => ?_))))
        all_goals first | (exfalso; omega) | (exfalso; simp_all; done) | (refine RetOK.d rfl rfl ?_; conv => whnf)
      · skip
        have d6 := specApplyLookup_v x0 x1 hB
        have d7 := ApplyLookup_v x0 x1 hB
        have hl1_a : (ys).length = ys.length := rfl
        have hl1_b : ((ys).map TItem.D).length = ys.length := by (rw [List.length_map]); first | done | exact hl1_a
        have hl1_c : ((mkLItem (1) (ys)).map TItem.D).length = ys.length := by (rw [List.length_map, mkLItem_len]); first | done | exact hl1_a
        have d8 := eqItemS_v (ys)
        have d9 := mkItemS_pk (ys) (1) (by omega) (by omega)
        have d10 := hdItemS_v (ys) (1) (by omega) (by omega)
        (conv => whnf)
        (repeat' (first | (refine stg_ ?_) | (refine cla_ (c1) ?_) | (refine cla_ (c2) ?_) | (refine cla_ (d0) ?_) | (refine cla_ (d1) ?_) | (refine cla_ (d2) ?_) | (refine cla_ (d3) ?_) | (refine clk_ (d4) ?_) | (refine clk_ (d5) ?_) | (refine cla_ (d6) ?_) | (refine cla_ (d7) ?_) | (refine cla_ (d8) ?_) | (refine clk_ (d9) ?_) | (refine cla_ (d10) ?_) | (refine CallW.inl ttOk (by kernel_rfl) Try.func12 rfl (by kernel_rfl) (by kernel_rfl) (by rfl) (fun s => ?_); (conv => whnf)) | (refine And.intro rfl ?_; (conv => whnf)) | (refine br_ (fun hbr => ?_) (fun hbr => ?_))))
        all_goals first | (exfalso; omega) | (exfalso; simp_all; done) | (refine RetOK.d rfl rfl ?_; conv => whnf)
    · skip
      have e1 := szItemS_gt x1 (1048576 - (((zLookup x0) : Nat) : Int)) (by omega) (by omega) (by omega)
      (conv => whnf)
      (repeat' (first | (refine stg_ ?_) | (refine cla_ (c1) ?_) | (refine cla_ (e1) ?_) | (refine br_ (fun hbr => ?_) (fun hbr => ?_))))
      all_goals first | (exfalso; omega) | (refine RetOK.d rfl rfl ?_; conv => whnf)
  · skip
    have e1 := szLookup_gt x0 1048576 (by omega) (by omega) (by omega)
    (conv => whnf)
    (repeat' (first | (refine stg_ ?_) | (refine cla_ (e1) ?_) | (refine br_ (fun hbr => ?_) (fun hbr => ?_))))
    all_goals first | (exfalso; omega) | (refine RetOK.d rfl rfl ?_; conv => whnf)

theorem FnExactApplyLookup_lc : LawCalls Try.prog 3 [24, 25] :=
  law_of_pc ⟨_, _, rfl, (arg_st Try.underlying24 rdt_Lookup (by rintro y ⟨x, rfl⟩; rfl)), ⟨_, _, rfl, (arg_sl Try.underlying25 rdt_ItemS (by rintro y ⟨x, rfl⟩; rfl)), rfl⟩⟩ (fun ds h => by
    obtain ⟨d0, r0, rfl, ⟨x0, rfl⟩, h0⟩ := h
    obtain ⟨d1, r1, rfl, ⟨x1, rfl⟩, h1⟩ := h0
    cases h1
    exact FnExactApplyLookup_v x0 x1)
set_option maxRecDepth 100000 in
theorem FnExactApplyLookup_lift (os : Os) (started : os.Started) (H : Type) (enc : TypeId × Value → H) :
    ReturnsInHanded {} Try.checked os 3 .any (Rows.fnExactApplyLookupSpec.pre6 enc Try.prog Try.f3 Rows.fnExactApplyLookupRow.domain false) (Rows.fnExactApplyLookupSpec.post enc Try.prog Try.f3 false true false false) :=
  law_lift (C := Try.checked) (s := Rows.fnExactApplyLookupSpec) (ts := [24, 25]) own laidOut (by kernel_rfl) Try.func3 (by rw [Try.params3]) rfl Try.underlying4
    (by simp only [List.mem_cons, List.not_mem_nil, or_false]; rintro t (rfl | rfl) <;> exact ⟨by kernel_rfl, of_decide_eq_true (by kernel_rfl)⟩) rfl
    (fun H ds h => by match ds, h with | [_, _], _ => exact ⟨rfl, rfl, rfl⟩) FnExactApplyLookup_lc os started H enc
    (ChangeSpec.witness6 (enc := enc) (C := Try.checked) false ⟨#[], #[.agg #[.string ByteArray.empty, .slice none 0 0], .slice none 0 0], []⟩ 8 (by kernel_rfl) (by kernel_rfl) (by kernel_rfl) (by kernel_rfl))
theorem FnExactApplyLookup_holds : Rows.FnExactApplyLookupSaid :=
  OpenClaim.holds_of_wide 3 Try.f3 rfl rfl rfl rfl rfl rfl rfl ⟨rfl, rfl, rfl, rfl, rfl⟩ rfl rfl rfl rfl rfl (by kernel_rfl) Try.func3 (by kernel_rfl)
    (of_decide_eq_true (by kernel_rfl)) (by unfold Func.isWrapper; rw [if_neg (of_decide_eq_false (by kernel_rfl))]; exact ⟨rfl, rfl⟩)
    (fun os started H enc _ => FnExactApplyLookup_lift os started H enc)
#print axioms FnExactApplyLookup_holds

end Go.Proofs.Ytbnopcnlbcgdlaa
