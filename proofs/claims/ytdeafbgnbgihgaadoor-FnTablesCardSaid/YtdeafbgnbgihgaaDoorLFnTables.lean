/- FnTables returns true for all codes and choices. No condition. -/
import Derived.Test.YtdeafbgnbgihgaaDoorRdB
import Derived.Test.YtdeafbgnbgihgaaDoorRows
import Derived.Test.YtdeafbgnbgihgaaDoorTie
import Derived.Test.YtdeafbgnbgihgaaDoorCards
import Derived.SevenTiedAt
set_option linter.unusedSimpArgs false
set_option linter.unusedVariables false
namespace Go.Proofs.YtdeafbgnbgihgaaDoor
open Go.RowKit
theorem FnTables_lc : LawCalls Tryd.prog 3 [22, 22] :=
  law_of_pc ⟨_, _, rfl, (arg_sl Tryd.underlying22 rdt_byteS (by rintro y ⟨x, rfl⟩; rfl)), ⟨_, _, rfl, (arg_sl Tryd.underlying22 rdt_byteS (by rintro y ⟨x, rfl⟩; rfl)), rfl⟩⟩ (fun ds h => by
    obtain ⟨d0, r0, rfl, ⟨x0, rfl⟩, h0⟩ := h
    obtain ⟨d1, r1, rfl, ⟨x1, rfl⟩, h1⟩ := h0
    cases h1
    exact FnTables_v x0 x1)
set_option maxRecDepth 100000 in
theorem FnTables_lift (os : Os) (started : os.Started) (H : Type) (enc : TypeId × Value → H) :
    ReturnsInHanded {} Tryd.checked os 3 .any (fun w args => (Rows.fnTablesSpec.pre enc Tryd.prog Tryd.f3 Rows.fnTablesRow.domain false w args ∧ laidMetH Tryd.prog Rows.fnTablesRow.laid w) ∧ sizedMet enc Tryd.prog Tryd.f3 (OpenSpec.ofChange Rows.fnTablesSpec) false w args) (Rows.fnTablesSpec.post enc Tryd.prog Tryd.f3 false true false false) :=
  law_lift_laid (C := Tryd.checked) (s := Rows.fnTablesSpec) (ts := [22, 22]) (fun w _ => laidMetH Tryd.prog Rows.fnTablesRow.laid w) (fun _ _ _ hh h => h.of_heap hh) own laidOut (by kernel_rfl) Tryd.func3 (by rw [Tryd.params3]) rfl Tryd.underlying4
    (by simp only [List.mem_cons, List.not_mem_nil, or_false]; rintro t (rfl | rfl) <;> exact ⟨by kernel_rfl, of_decide_eq_true (by kernel_rfl)⟩) rfl
    (fun H ds h => by match ds, h with | [_, _], _ => exact ⟨rfl, rfl, rfl⟩) FnTables_lc os started H enc
    (ChangeSpec.witness_shaped (enc := enc) (C := Tryd.checked) (os := os) (X := fun w _ => laidMetH Tryd.prog Rows.fnTablesRow.laid w) false (World.laidAll Tryd.prog os Rows.fnTablesRow.laid) #[.slice none 0 0, .slice none 0 0] 8 (World.laidAll_os _ _ _) (World.shaped_of_ZipB (by kernel_rfl) (by kernel_rfl)) (by kernel_rfl) (by kernel_rfl) (by kernel_rfl)
      (by rw [MakeChecks.laidMetH_plain _ _ _ (by kernel_rfl)]; exact laidMet_laidAll _ (by kernel_rfl) (by kernel_rfl)))
theorem FnTables_row : Rows.FnTablesSaid :=
  OpenClaim.holds_of_wide 3 Tryd.f3 rfl rfl rfl rfl rfl rfl rfl ⟨rfl, rfl, rfl, rfl, rfl⟩ rfl rfl rfl rfl rfl (by kernel_rfl) Tryd.func3 (by kernel_rfl)
    (of_decide_eq_true (by kernel_rfl)) (by unfold Func.isWrapper; rw [if_neg (of_decide_eq_false (by kernel_rfl))]; exact ⟨rfl, rfl⟩)
    (fun os started H enc _ => FnTables_lift os started H enc)
theorem FnTables_holds : Rows.FnTablesCardSaid :=
  Claim7.holds_tied_plain_at .later [] [.data, .pinned] true (true, "bc6995b7299ce255037c3f0d6186b21c350bc02301979c6edef372a04b906e98") false FnTables_row (fun _ h => by cases h) (by kernel_rfl) (fun _ h => by cases h) fnTables_row_tie rfl ⟨rfl, rfl⟩ (by kernel_rfl) rfl
    (fun f fn hf hfn => by
      obtain rfl : f = 3 := Option.some.inj ((show Tryd.prog.funcNamed "loop.example/g00883/laws.FnTables" = some 3 by kernel_rfl).symm.trans hf) |>.symm
      obtain rfl : fn = Tryd.f3 := (Option.some.inj (Tryd.func3.symm.trans hfn)).symm
      exact ⟨by kernel_rfl, fun j t ht => by
        rw [Tryd.params3] at ht
        have hm : t ∈ [22, 22] := by simpa using Array.mem_of_getElem? ht
        have hall : ([22, 22].all fun u => !Tryd.prog.wantsStandIn u) = true := by kernel_rfl
        exact (show Tryd.prog.wantsStandIn t = false by simpa using List.all_eq_true.1 hall t hm)⟩)
    (by kernel_rfl)
#print axioms FnTables_holds

end Go.Proofs.YtdeafbgnbgihgaaDoor
