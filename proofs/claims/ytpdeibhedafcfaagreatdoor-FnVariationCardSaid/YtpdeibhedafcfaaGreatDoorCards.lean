/-
  DERIVED. GIVEN WITH THE SEED: THE CARDS: each row of YtpdeibhedafcfaaGreatDoorRows.lean that lists a variable, with what it lists TIED to the program's text (the seventh form; the later family's looks); each row that meets fmt, with fmt's text TOLD by the authors' own Lean function (tested against real Go, not proved from fmt's source: count such statements apart). THE CARD IS WHAT COUNTS. Prove the row's statement (the work); the ties are given (YtpdeibhedafcfaaGreatDoorTie.lean); close each card by the builder's one call (the guide's Derived/Test/ToyasCard.lean, 'card_holds'). Laid BY PROGRAM, IN A SANDBOX (cutbox-door.mjs). By AI agents, Wed Nov 11 2026. No macro, syntax, notation, axiom, sorry.
-/
import Derived.Test.YtpdeibhedafcfaaGreatDoorRows
import GoSem.ClaimSeven
namespace Go.Proofs.YtpdeibhedafcfaaGreatDoor
namespace Rows

/-- THE TIED CARD OF 'laws.FnVariation'. -/
def fnVariationCard : Claim7 := { stood := { row := fnVariationRow, standIns := [], harness := (true, "beddea1799e1b9814a2d3bf314c7b19dea48eaea61ca884e76878eb6944801a6"), looks := false }, kinds := [], alts := [], laidByText := true, laidKinds := [.data, .pinned], laidTests := true, laidLooks := .later }
def FnVariationCardSaid : Prop := Claim7.holds Tryz.pinned (.plain (OpenSpec.ofChange fnVariationSpec)) fnVariationCard

/-- THE SECOND FORM's CARD OF 'laws.FnVariation'. -/
def fnVariationUptoCard : Claim7 := { stood := { row := fnVariationUptoRow, standIns := [], harness := (true, "beddea1799e1b9814a2d3bf314c7b19dea48eaea61ca884e76878eb6944801a6"), looks := false }, kinds := [], alts := [], laidByText := true, laidKinds := [.data, .pinned], laidTests := true, laidLooks := .later }
def FnVariationUptoCardSaid : Prop := Claim7.holds Tryz.pinned (.plain (OpenSpec.upto fnVariationSpec)) fnVariationUptoCard
end Rows
end Go.Proofs.YtpdeibhedafcfaaGreatDoor
