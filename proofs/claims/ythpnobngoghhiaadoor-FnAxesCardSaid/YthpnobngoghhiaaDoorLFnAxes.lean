/- FnAxes returns true for all codes and choices. No condition. -/
import Derived.Test.YthpnobngoghhiaaDoorRdB
import Derived.Test.YthpnobngoghhiaaDoorRows
import Derived.Test.YthpnobngoghhiaaDoorTie
import Derived.Test.YthpnobngoghhiaaDoorCards
import Derived.SevenTiedAt
set_option linter.unusedSimpArgs false
set_option linter.unusedVariables false
namespace Go.Proofs.YthpnobngoghhiaaDoor
open Go.RowKit
theorem FnAxes_lc : LawCalls Tryd.prog 4 [30, 30] :=
  law_of_pc ⟨_, _, rfl, (arg_sl Tryd.underlying30 rdt_byteS (by rintro y ⟨x, rfl⟩; rfl)), ⟨_, _, rfl, (arg_sl Tryd.underlying30 rdt_byteS (by rintro y ⟨x, rfl⟩; rfl)), rfl⟩⟩ (fun ds h => by
    obtain ⟨d0, r0, rfl, ⟨x0, rfl⟩, h0⟩ := h
    obtain ⟨d1, r1, rfl, ⟨x1, rfl⟩, h1⟩ := h0
    cases h1
    exact FnAxes_v x0 x1)
set_option maxRecDepth 100000 in
theorem FnAxes_lift (os : Os) (started : os.Started) (H : Type) (enc : TypeId × Value → H) :
    ReturnsInHanded {} Tryd.checked os 4 .any (fun w args => (Rows.fnAxesSpec.pre enc Tryd.prog Tryd.f4 Rows.fnAxesRow.domain false w args ∧ laidMetH Tryd.prog Rows.fnAxesRow.laid w) ∧ sizedMet enc Tryd.prog Tryd.f4 (OpenSpec.ofChange Rows.fnAxesSpec) false w args) (Rows.fnAxesSpec.post enc Tryd.prog Tryd.f4 false true false false) :=
  law_lift_laid (C := Tryd.checked) (s := Rows.fnAxesSpec) (ts := [30, 30]) (fun w _ => laidMetH Tryd.prog Rows.fnAxesRow.laid w) (fun _ _ _ hh h => h.of_heap hh) own laidOut (by kernel_rfl) Tryd.func4 (by rw [Tryd.params4]) rfl Tryd.underlying4
    (by simp only [List.mem_cons, List.not_mem_nil, or_false]; rintro t (rfl | rfl) <;> exact ⟨by kernel_rfl, of_decide_eq_true (by kernel_rfl)⟩) rfl
    (fun H ds h => by match ds, h with | [_, _], _ => exact ⟨rfl, rfl, rfl⟩) FnAxes_lc os started H enc
    (ChangeSpec.witness_shaped (enc := enc) (C := Tryd.checked) (os := os) (X := fun w _ => laidMetH Tryd.prog Rows.fnAxesRow.laid w) false (World.laidAll Tryd.prog os Rows.fnAxesRow.laid) #[.slice none 0 0, .slice none 0 0] 8 (World.laidAll_os _ _ _) (World.shaped_of_ZipB (by kernel_rfl) (by kernel_rfl)) (by kernel_rfl) (by kernel_rfl) (by kernel_rfl)
      (by rw [MakeChecks.laidMetH_plain _ _ _ (by kernel_rfl)]; exact laidMet_laidAll _ (by kernel_rfl) (by kernel_rfl)))
theorem FnAxes_row : Rows.FnAxesSaid :=
  OpenClaim.holds_of_wide 4 Tryd.f4 rfl rfl rfl rfl rfl rfl rfl ⟨rfl, rfl, rfl, rfl, rfl⟩ rfl rfl rfl rfl rfl (by kernel_rfl) Tryd.func4 (by kernel_rfl)
    (of_decide_eq_true (by kernel_rfl)) (by unfold Func.isWrapper; rw [if_neg (of_decide_eq_false (by kernel_rfl))]; exact ⟨rfl, rfl⟩)
    (fun os started H enc _ => FnAxes_lift os started H enc)
theorem FnAxes_holds : Rows.FnAxesCardSaid :=
  Claim7.holds_tied_plain_at .later [] [.data, .pinned] true (true, "128a1e96721b09adb7f96b53e1235c16441198bbfd311bf85f5e6ce6b6aca7e6") false FnAxes_row (fun _ h => by cases h) (by kernel_rfl) (fun _ h => by cases h) fnAxes_row_tie rfl ⟨rfl, rfl⟩ (by kernel_rfl) rfl
    (fun f fn hf hfn => by
      obtain rfl : f = 4 := Option.some.inj ((show Tryd.prog.funcNamed "loop.example/g00883/laws.FnAxes" = some 4 by kernel_rfl).symm.trans hf) |>.symm
      obtain rfl : fn = Tryd.f4 := (Option.some.inj (Tryd.func4.symm.trans hfn)).symm
      exact ⟨by kernel_rfl, fun j t ht => by
        rw [Tryd.params4] at ht
        have hm : t ∈ [30, 30] := by simpa using Array.mem_of_getElem? ht
        have hall : ([30, 30].all fun u => !Tryd.prog.wantsStandIn u) = true := by kernel_rfl
        exact (show Tryd.prog.wantsStandIn t = false by simpa using List.all_eq_true.1 hall t hm)⟩)
    (by kernel_rfl)
#print axioms FnAxes_holds

end Go.Proofs.YthpnobngoghhiaaDoor
