/-
  DERIVED. GIVEN WITH THE SEED: THE CARDS: each row of YtcnlmllhnmaogaaDoorRows.lean that lists a variable, with what it lists TIED to the program's text (the seventh form; the later family's looks); each row that meets fmt, with fmt's text TOLD by the authors' own Lean function (tested against real Go, not proved from fmt's source: count such statements apart). THE CARD IS WHAT COUNTS. Prove the row's statement (the work); the ties are given (YtcnlmllhnmaogaaDoorTie.lean); close each card by the builder's one call (the guide's Derived/Test/ToyasCard.lean, 'card_holds'). Laid BY PROGRAM, IN A SANDBOX (cutbox-door.mjs). By AI agents, Wed Nov 11 2026. No macro, syntax, notation, axiom, sorry.
-/
import Derived.Test.YtcnlmllhnmaogaaDoorRows
import GoSem.ClaimSeven
namespace Go.Proofs.YtcnlmllhnmaogaaDoor
namespace Rows

/-- THE TIED CARD OF 'laws.FnExactDamagedTables'. -/
def fnExactDamagedTablesCard : Claim7 := { stood := { row := fnExactDamagedTablesRow, standIns := [], harness := (true, "e3c8ba72910e6981fec0b4998af5eb8c655a19267410efb490ccf15e1e5d02b6"), looks := false }, kinds := [], alts := [], laidByText := true, laidKinds := [.data, .pinned], laidTests := true, laidLooks := .later }
def FnExactDamagedTablesCardSaid : Prop := Claim7.holds Tryd.pinned (.plain (OpenSpec.ofChange fnExactDamagedTablesSpec)) fnExactDamagedTablesCard

/-- THE TIED CARD OF 'laws.FnExactUnpackTables'. -/
def fnExactUnpackTablesCard : Claim7 := { stood := { row := fnExactUnpackTablesRow, standIns := [], harness := (true, "e3c8ba72910e6981fec0b4998af5eb8c655a19267410efb490ccf15e1e5d02b6"), looks := false }, kinds := [], alts := [], laidByText := true, laidKinds := [.data, .pinned], laidTests := true, laidLooks := .later }
def FnExactUnpackTablesCardSaid : Prop := Claim7.holds Tryd.pinned (.plain (OpenSpec.ofChange fnExactUnpackTablesSpec)) fnExactUnpackTablesCard

/-- THE TIED CARD OF 'laws.FnExactDirectoryOf'. -/
def fnExactDirectoryOfCard : Claim7 := { stood := { row := fnExactDirectoryOfRow, standIns := [], harness := (true, "e3c8ba72910e6981fec0b4998af5eb8c655a19267410efb490ccf15e1e5d02b6"), looks := false }, kinds := [], alts := [], laidByText := true, laidKinds := [.data, .pinned], laidTests := true, laidLooks := .later }
def FnExactDirectoryOfCardSaid : Prop := Claim7.holds Tryd.pinned (.plain (OpenSpec.ofChange fnExactDirectoryOfSpec)) fnExactDirectoryOfCard

/-- THE TIED CARD OF 'laws.FnTables'. -/
def fnTablesCard : Claim7 := { stood := { row := fnTablesRow, standIns := [], harness := (true, "e3c8ba72910e6981fec0b4998af5eb8c655a19267410efb490ccf15e1e5d02b6"), looks := false }, kinds := [], alts := [], laidByText := true, laidKinds := [.data, .pinned], laidTests := true, laidLooks := .later }
def FnTablesCardSaid : Prop := Claim7.holds Tryd.pinned (.plain (OpenSpec.ofChange fnTablesSpec)) fnTablesCard

/-- THE SECOND FORM's CARD OF 'laws.FnExactDamagedTables'. -/
def fnExactDamagedTablesUptoCard : Claim7 := { stood := { row := fnExactDamagedTablesUptoRow, standIns := [], harness := (true, "e3c8ba72910e6981fec0b4998af5eb8c655a19267410efb490ccf15e1e5d02b6"), looks := false }, kinds := [], alts := [], laidByText := true, laidKinds := [.data, .pinned], laidTests := true, laidLooks := .later }
def FnExactDamagedTablesUptoCardSaid : Prop := Claim7.holds Tryd.pinned (.plain (OpenSpec.upto fnExactDamagedTablesSpec)) fnExactDamagedTablesUptoCard

/-- THE SECOND FORM's CARD OF 'laws.FnExactUnpackTables'. -/
def fnExactUnpackTablesUptoCard : Claim7 := { stood := { row := fnExactUnpackTablesUptoRow, standIns := [], harness := (true, "e3c8ba72910e6981fec0b4998af5eb8c655a19267410efb490ccf15e1e5d02b6"), looks := false }, kinds := [], alts := [], laidByText := true, laidKinds := [.data, .pinned], laidTests := true, laidLooks := .later }
def FnExactUnpackTablesUptoCardSaid : Prop := Claim7.holds Tryd.pinned (.plain (OpenSpec.upto fnExactUnpackTablesSpec)) fnExactUnpackTablesUptoCard

/-- THE SECOND FORM's CARD OF 'laws.FnExactDirectoryOf'. -/
def fnExactDirectoryOfUptoCard : Claim7 := { stood := { row := fnExactDirectoryOfUptoRow, standIns := [], harness := (true, "e3c8ba72910e6981fec0b4998af5eb8c655a19267410efb490ccf15e1e5d02b6"), looks := false }, kinds := [], alts := [], laidByText := true, laidKinds := [.data, .pinned], laidTests := true, laidLooks := .later }
def FnExactDirectoryOfUptoCardSaid : Prop := Claim7.holds Tryd.pinned (.plain (OpenSpec.upto fnExactDirectoryOfSpec)) fnExactDirectoryOfUptoCard

/-- THE SECOND FORM's CARD OF 'laws.FnTables'. -/
def fnTablesUptoCard : Claim7 := { stood := { row := fnTablesUptoRow, standIns := [], harness := (true, "e3c8ba72910e6981fec0b4998af5eb8c655a19267410efb490ccf15e1e5d02b6"), looks := false }, kinds := [], alts := [], laidByText := true, laidKinds := [.data, .pinned], laidTests := true, laidLooks := .later }
def FnTablesUptoCardSaid : Prop := Claim7.holds Tryd.pinned (.plain (OpenSpec.upto fnTablesSpec)) fnTablesUptoCard
end Rows
end Go.Proofs.YtcnlmllhnmaogaaDoor
