/- FnVariation returns true for all codes. No condition. -/
import Derived.Test.YtpdeibhedafcfaaGreatDoorVaL
import Derived.Test.YtpdeibhedafcfaaGreatDoorGsP
import Derived.Test.YtpdeibhedafcfaaGreatDoorLawL
import Derived.Test.YtpdeibhedafcfaaGreatDoorRows
import Derived.Test.YtpdeibhedafcfaaGreatDoorTie
import Derived.Test.YtpdeibhedafcfaaGreatDoorCards
import Derived.SevenTiedAt
set_option linter.unusedSimpArgs false
set_option linter.unusedVariables false
namespace Go.Proofs.YtpdeibhedafcfaaGreatDoor
open Go.RowKit
theorem FnVariation_lc : LawCalls Tryz.prog 3 [22] :=
 law_of_pc ⟨_, _, rfl, (arg_sl Tryz.underlying22 rdt_byteS (by rintro y ⟨x, rfl⟩; rfl)), rfl⟩ (fun ds h => by
  obtain ⟨d0, r0, rfl, ⟨x0, rfl⟩, h0⟩ := h
  cases h0
  exact FnVariation_v x0)
set_option maxRecDepth 100000 in
theorem FnVariation_lift (os : Os) (started : os.Started) (H : Type) (enc : TypeId × Value → H) :
  ReturnsInHanded {} Tryz.checked os 3 .any (fun w args => (Rows.fnVariationSpec.pre enc Tryz.prog Tryz.f3 Rows.fnVariationRow.domain false w args ∧ laidMetH Tryz.prog Rows.fnVariationRow.laid w) ∧ sizedMet enc Tryz.prog Tryz.f3 (OpenSpec.ofChange Rows.fnVariationSpec) false w args) (Rows.fnVariationSpec.post enc Tryz.prog Tryz.f3 false true false false) :=
 law_lift_laid (C := Tryz.checked) (s := Rows.fnVariationSpec) (ts := [22]) (fun w _ => laidMetH Tryz.prog Rows.fnVariationRow.laid w) (fun _ _ _ hh h => h.of_heap hh) own laidOut (by kernel_rfl) Tryz.func3 (by rw [Tryz.params3]) rfl Tryz.underlying4
  (by simp only [List.mem_cons, List.not_mem_nil, or_false]; rintro t (rfl) <;> exact ⟨by kernel_rfl, of_decide_eq_true (by kernel_rfl)⟩) rfl
  (fun H ds h => by match ds, h with | [_], _ => exact ⟨rfl, rfl, rfl⟩) FnVariation_lc os started H enc
  (ChangeSpec.witness_shaped (enc := enc) (C := Tryz.checked) (os := os) (X := fun w _ => laidMetH Tryz.prog Rows.fnVariationRow.laid w) false (World.laidAll Tryz.prog os Rows.fnVariationRow.laid) #[.slice none 0 0] 8 (World.laidAll_os _ _ _) (World.shaped_of_ZipB (by kernel_rfl) (by kernel_rfl)) (by kernel_rfl) (by kernel_rfl) (by kernel_rfl)
   (by rw [MakeChecks.laidMetH_plain _ _ _ (by kernel_rfl)]; exact laidMet_laidAll _ (by kernel_rfl) (by kernel_rfl)))
theorem FnVariation_row : Rows.FnVariationSaid :=
 OpenClaim.holds_of_wide 3 Tryz.f3 rfl rfl rfl rfl rfl rfl rfl ⟨rfl, rfl, rfl, rfl, rfl⟩ rfl rfl rfl rfl rfl (by kernel_rfl) Tryz.func3 (by kernel_rfl)
  (of_decide_eq_true (by kernel_rfl)) (by unfold Func.isWrapper; rw [if_neg (of_decide_eq_false (by kernel_rfl))]; exact ⟨rfl, rfl⟩)
  (fun os started H enc _ => FnVariation_lift os started H enc)
theorem FnVariation_holds : Rows.FnVariationCardSaid :=
 Claim7.holds_tied_plain_at .later [] [.data, .pinned] true (true, "beddea1799e1b9814a2d3bf314c7b19dea48eaea61ca884e76878eb6944801a6") false FnVariation_row (fun _ h => by cases h) (by kernel_rfl) (fun _ h => by cases h) fnVariation_row_tie rfl ⟨rfl, rfl⟩ (by kernel_rfl) rfl
  (fun f fn hf hfn => by
   obtain rfl : f = 3 := Option.some.inj ((show Tryz.prog.funcNamed "loop.example/g00883/laws.FnVariation" = some 3 by kernel_rfl).symm.trans hf) |>.symm
   obtain rfl : fn = Tryz.f3 := (Option.some.inj (Tryz.func3.symm.trans hfn)).symm
   exact ⟨by kernel_rfl, fun j t ht => by
    rw [Tryz.params3] at ht
    have hm : t ∈ [22] := by simpa using Array.mem_of_getElem? ht
    have hall : ([22].all fun u => !Tryz.prog.wantsStandIn u) = true := by kernel_rfl
    exact (show Tryz.prog.wantsStandIn t = false by simpa using List.all_eq_true.1 hall t hm)⟩)
  (by kernel_rfl)
#print axioms FnVariation_holds

end Go.Proofs.YtpdeibhedafcfaaGreatDoor
