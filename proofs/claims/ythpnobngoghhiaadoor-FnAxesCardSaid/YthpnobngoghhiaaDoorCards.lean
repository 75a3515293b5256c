/-
  DERIVED. GIVEN WITH THE SEED: THE CARDS: each row of YthpnobngoghhiaaDoorRows.lean that lists a variable, with what it lists TIED to the program's text (the seventh form; the later family's looks); each row that meets fmt, with fmt's text TOLD by the authors' own Lean function (tested against real Go, not proved from fmt's source: count such statements apart). THE CARD IS WHAT COUNTS. Prove the row's statement (the work); the ties are given (YthpnobngoghhiaaDoorTie.lean); close each card by the builder's one call (the guide's Derived/Test/ToyasCard.lean, 'card_holds'). Laid BY PROGRAM, IN A SANDBOX (cutbox-door.mjs). By AI agents, Wed Nov 11 2026. No macro, syntax, notation, axiom, sorry.
-/
import Derived.Test.YthpnobngoghhiaaDoorRows
import GoSem.ClaimSeven
namespace Go.Proofs.YthpnobngoghhiaaDoor
namespace Rows

/-- THE TIED CARD OF 'laws.FnExactReadAxis'. -/
def fnExactReadAxisCard : Claim7 := { stood := { row := fnExactReadAxisRow, standIns := [], harness := (true, "128a1e96721b09adb7f96b53e1235c16441198bbfd311bf85f5e6ce6b6aca7e6"), looks := false }, kinds := [], alts := [], laidByText := true, laidKinds := [.data, .pinned], laidTests := true, laidLooks := .later }
def FnExactReadAxisCardSaid : Prop := Claim7.holds Tryd.pinned (.plain (OpenSpec.ofChange fnExactReadAxisSpec)) fnExactReadAxisCard

/-- THE TIED CARD OF 'laws.FnAxes'. -/
def fnAxesCard : Claim7 := { stood := { row := fnAxesRow, standIns := [], harness := (true, "128a1e96721b09adb7f96b53e1235c16441198bbfd311bf85f5e6ce6b6aca7e6"), looks := false }, kinds := [], alts := [], laidByText := true, laidKinds := [.data, .pinned], laidTests := true, laidLooks := .later }
def FnAxesCardSaid : Prop := Claim7.holds Tryd.pinned (.plain (OpenSpec.ofChange fnAxesSpec)) fnAxesCard

/-- THE SECOND FORM's CARD OF 'laws.FnExactReadAxis'. -/
def fnExactReadAxisUptoCard : Claim7 := { stood := { row := fnExactReadAxisUptoRow, standIns := [], harness := (true, "128a1e96721b09adb7f96b53e1235c16441198bbfd311bf85f5e6ce6b6aca7e6"), looks := false }, kinds := [], alts := [], laidByText := true, laidKinds := [.data, .pinned], laidTests := true, laidLooks := .later }
def FnExactReadAxisUptoCardSaid : Prop := Claim7.holds Tryd.pinned (.plain (OpenSpec.upto fnExactReadAxisSpec)) fnExactReadAxisUptoCard

/-- THE SECOND FORM's CARD OF 'laws.FnAxes'. -/
def fnAxesUptoCard : Claim7 := { stood := { row := fnAxesUptoRow, standIns := [], harness := (true, "128a1e96721b09adb7f96b53e1235c16441198bbfd311bf85f5e6ce6b6aca7e6"), looks := false }, kinds := [], alts := [], laidByText := true, laidKinds := [.data, .pinned], laidTests := true, laidLooks := .later }
def FnAxesUptoCardSaid : Prop := Claim7.holds Tryd.pinned (.plain (OpenSpec.upto fnAxesSpec)) fnAxesUptoCard
end Rows
end Go.Proofs.YthpnobngoghhiaaDoor
