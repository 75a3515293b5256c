/- FnExactDamagedTables returns true for all strings. No condition. -/
import Derived.Test.YtcnlmllhnmaogaaDoorTabI
import Derived.Test.YtcnlmllhnmaogaaDoorLM
import Derived.Test.YtcnlmllhnmaogaaDoorLV
import Derived.Test.YtcnlmllhnmaogaaDoorLawL
import Derived.Test.YtcnlmllhnmaogaaDoorRows
import Derived.Test.YtcnlmllhnmaogaaDoorTie
import Derived.Test.YtcnlmllhnmaogaaDoorCards
import Derived.SevenTiedAt
set_option linter.unusedSimpArgs false
set_option linter.unusedVariables false
namespace Go.Proofs.YtcnlmllhnmaogaaDoor
open Go.RowKit
set_option maxHeartbeats 8000000 in
theorem FnExactDamagedTables_v (x0 : ByteArray) : PC Tryd.prog 3 [.d (.str x0)] (.d (.bool true)) [] := by
  refine pc_intro ttOk (by kernel_rfl) Tryd.func3 rfl (by kernel_rfl) (by kernel_rfl) (by kernel_rfl) (fun hw => ?_)
  by_cases hz0 : ((x0.size : Nat) : Int) ≤ 1048576
  · skip
    by_cases hB : rdE x0 = 0
    · skip
      have hl16 : cnt x0 ≤ 16 := (hdE_zero (rdE_zero hB)).2.2
      have hlD := dmL_len x0 (cnt x0)
      have d0 := specDamagedTables_v x0 (by omega) _ _ (fun _ => ⟨rfl, rfl⟩) (fun h => absurd hB h)
      have d1 := DamagedTables_v x0 _ _ (fun _ => ⟨rfl, rfl⟩) (fun h => absurd hB h)
      have hl1_a : (dmL x0 (cnt x0)).length = (dmL x0 (cnt x0)).length := rfl
      have hl1_b : ((dmL x0 (cnt x0)).map D.str).length = (dmL x0 (cnt x0)).length := by (rw [List.length_map]); first | done | exact hl1_a
      have hl1_c : ((mkLString (1) (dmL x0 (cnt x0))).map D.str).length = (dmL x0 (cnt x0)).length := by (rw [List.length_map, mkLString_len]); first | done | exact hl1_a
      have d2 := eqStringS_v (dmL x0 (cnt x0))
      have d3 := mkStringS_pk (dmL x0 (cnt x0)) (1) (by omega) (by omega)
      have d4 := hdStringS_v (dmL x0 (cnt x0)) (1) (by omega) (by omega)
      (conv => whnf)
      (repeat' (first | (refine stg_ ?_) | (refine cla_ (d0) ?_) | (refine cla_ (d1) ?_) | (refine cla_ (d2) ?_) | (refine clk_ (d3) ?_) | (refine cla_ (d4) ?_) | (refine br_ (fun hbr => ?_) (fun hbr => ?_))))
      all_goals first | (exfalso; omega) | (exfalso; simp_all; done) | (refine RetOK.d rfl rfl ?_; conv => whnf)
    · skip
      have d0 := specDamagedTables_v x0 (by omega) _ _ (fun h => absurd h hB) (fun _ => ⟨rfl, rfl⟩)
      have d1 := DamagedTables_v x0 _ _ (fun h => absurd h hB) (fun _ => ⟨rfl, rfl⟩)
      have d2 := eqStringS_v []
      have d3 := mkStringS_nil (1)
      have d4 := hdStringS_v [] (1) (by first | decide | (simp [wSum])) (by first | decide | omega)
      (conv => whnf)
      (repeat' (first | (refine stg_ ?_) | (refine cla_ (d0) ?_) | (refine cla_ (d1) ?_) | (refine cla_ (d2) ?_) | (refine cla_ (d3) ?_) | (refine cla_ (d4) ?_) | (refine br_ (fun hbr => ?_) (fun hbr => ?_))))
      all_goals first | (exfalso; omega) | (exfalso; simp_all; done) | (refine RetOK.d rfl rfl ?_; conv => whnf)
  · skip
    (conv => whnf)
    (repeat' (first | (refine stg_ ?_) | fail | (refine br_ (fun hbr => ?_) (fun hbr => ?_))))
    all_goals first | (exfalso; omega) | (refine RetOK.d rfl rfl ?_; conv => whnf)

theorem FnExactDamagedTables_lc : LawCalls Tryd.prog 3 [9] :=
  law_of_pc ⟨_, _, rfl, (arg_str Tryd.underlying9 rdt_str (by rintro y ⟨x, rfl⟩; rfl)), rfl⟩ (fun ds h => by
    obtain ⟨d0, r0, rfl, ⟨x0, rfl⟩, h0⟩ := h
    cases h0
    exact FnExactDamagedTables_v x0)
set_option maxRecDepth 100000 in
theorem FnExactDamagedTables_lift (os : Os) (started : os.Started) (H : Type) (enc : TypeId × Value → H) :
    ReturnsInHanded {} Tryd.checked os 3 .any (fun w args => (Rows.fnExactDamagedTablesSpec.pre enc Tryd.prog Tryd.f3 Rows.fnExactDamagedTablesRow.domain false w args ∧ laidMetH Tryd.prog Rows.fnExactDamagedTablesRow.laid w) ∧ sizedMet enc Tryd.prog Tryd.f3 (OpenSpec.ofChange Rows.fnExactDamagedTablesSpec) false w args) (Rows.fnExactDamagedTablesSpec.post enc Tryd.prog Tryd.f3 false true false false) :=
  law_lift_laid (C := Tryd.checked) (s := Rows.fnExactDamagedTablesSpec) (ts := [9]) (fun w _ => laidMetH Tryd.prog Rows.fnExactDamagedTablesRow.laid w) (fun _ _ _ hh h => h.of_heap hh) own laidOut (by kernel_rfl) Tryd.func3 (by rw [Tryd.params3]) rfl Tryd.underlying4
    (by simp only [List.mem_cons, List.not_mem_nil, or_false]; rintro t (rfl) <;> exact ⟨by kernel_rfl, of_decide_eq_true (by kernel_rfl)⟩) rfl
    (fun H ds h => by match ds, h with | [_], _ => exact ⟨rfl, rfl, rfl⟩) FnExactDamagedTables_lc os started H enc
    (ChangeSpec.witness_shaped (enc := enc) (C := Tryd.checked) (os := os) (X := fun w _ => laidMetH Tryd.prog Rows.fnExactDamagedTablesRow.laid w) false (World.laidAll Tryd.prog os Rows.fnExactDamagedTablesRow.laid) #[.string ByteArray.empty] 8 (World.laidAll_os _ _ _) (World.shaped_of_ZipB (by kernel_rfl) (by kernel_rfl)) (by kernel_rfl) (by kernel_rfl) (by kernel_rfl)
      (by rw [MakeChecks.laidMetH_plain _ _ _ (by kernel_rfl)]; exact laidMet_laidAll _ (by kernel_rfl) (by kernel_rfl)))
theorem FnExactDamagedTables_row : Rows.FnExactDamagedTablesSaid :=
  OpenClaim.holds_of_wide 3 Tryd.f3 rfl rfl rfl rfl rfl rfl rfl ⟨rfl, rfl, rfl, rfl, rfl⟩ rfl rfl rfl rfl rfl (by kernel_rfl) Tryd.func3 (by kernel_rfl)
    (of_decide_eq_true (by kernel_rfl)) (by unfold Func.isWrapper; rw [if_neg (of_decide_eq_false (by kernel_rfl))]; exact ⟨rfl, rfl⟩)
    (fun os started H enc _ => FnExactDamagedTables_lift os started H enc)
theorem FnExactDamagedTables_holds : Rows.FnExactDamagedTablesCardSaid :=
  Claim7.holds_tied_plain_at .later [] [.data, .pinned] true (true, "e3c8ba72910e6981fec0b4998af5eb8c655a19267410efb490ccf15e1e5d02b6") false FnExactDamagedTables_row (fun _ h => by cases h) (by kernel_rfl) (fun _ h => by cases h) fnExactDamagedTables_row_tie rfl ⟨rfl, rfl⟩ (by kernel_rfl) rfl
    (fun f fn hf hfn => by
      obtain rfl : f = 3 := Option.some.inj ((show Tryd.prog.funcNamed "loop.example/g00883/laws.FnExactDamagedTables" = some 3 by kernel_rfl).symm.trans hf) |>.symm
      obtain rfl : fn = Tryd.f3 := (Option.some.inj (Tryd.func3.symm.trans hfn)).symm
      exact ⟨by kernel_rfl, fun j t ht => by
        rw [Tryd.params3] at ht
        have hm : t ∈ [9] := by simpa using Array.mem_of_getElem? ht
        have hall : ([9].all fun u => !Tryd.prog.wantsStandIn u) = true := by kernel_rfl
        exact (show Tryd.prog.wantsStandIn t = false by simpa using List.all_eq_true.1 hall t hm)⟩)
    (by kernel_rfl)
#print axioms FnExactDamagedTables_holds

end Go.Proofs.YtcnlmllhnmaogaaDoor
