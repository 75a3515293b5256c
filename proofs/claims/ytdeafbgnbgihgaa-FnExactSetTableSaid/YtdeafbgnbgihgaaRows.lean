/-
  No cell of these rows narrows 'for every input' (looked for: loops, veiled, ifaces, maps, wideKeys, modest, calm, conditions, laid).
  DERIVED. THE GIVEN ROWS OF THIS SEAT. 3 by the template 'for every input the law returns true; each argument reads behind the call as it read before'; 0 by the template 'total and deterministic' (their statements: YtdeafbgnbgihgaaTotals.lean).
  GIVEN WITH THE SEED: the statements are not yours to turn. If you find one false, say at which input.
  Laid BY PROGRAM, IN A SANDBOX (cutbox-rows.mjs): the forced cells as the released guide's own fill.sh prints them over the translation 5febbabfdb965258… (all of the seat's roots in one cut). By AI agents, Wed Nov 11 2026. No macro, syntax, notation, axiom, sorry.
-/
import Derived.Test.YtdeafbgnbgihgaaChecked
import GoSem.Claim
import GoSem.ClaimJoined
import GoSem.ClaimMapViews
import Derived.JoinedTies
import Derived.KernelRfl
namespace Go.Proofs.Ytdeafbgnbgihgaa
/- THE CELL 'sum', in the pinned program and in every row, IS THE sha256 OF THE DUMP (.gsa) THAT YtdeafbgnbgihgaaProg.lean LOADS. Nothing in Lean hashes anything: it is a label: what it is worth is what the hold of that sum in a sandbox is worth. -/
noncomputable def Try.pinned : Pinned := { name := "ytdeafbgnbgihgaa", sum := "5febbabfdb965258f7677ab814285bfabae79143cd3f5381461e94ee47fb1a9b", checked := Try.checked }
namespace Rows
def none {H : Type} : Left H := { results := [], args := [] }

/-- 'laws.FnExactDropTable': WHATEVER THE INPUT: true; the input reads as it did. -/
def fnExactDropTableSpec : ChangeSpec := { name := "fnExactDropTable", fn := fun _ => fun
  | [d1, d2] => { results := [.lit (.bool true)], args := [d1, d2] }
  | _ => none }
def fnExactDropTableRow : OpenClaim := { program := "ytdeafbgnbgihgaa", sum := "5febbabfdb965258f7677ab814285bfabae79143cd3f5381461e94ee47fb1a9b", func := "loop.example/g00883/laws.FnExactDropTable", spec := "fnExactDropTable", unfollowed := true, recurses := true, apart := false }
def FnExactDropTableSaid : Prop := fnExactDropTableRow.holds Try.pinned (OpenSpec.ofChange fnExactDropTableSpec)

/-- ITS FALSE NEIGHBOUR: 'it returns false'. Refute it at one input. -/
def fnExactDropTableWrong : ChangeSpec := { name := "fnExactDropTable", fn := fun _ => fun
  | [d1, d2] => { results := [.lit (.bool false)], args := [d1, d2] }
  | _ => none }
def FnExactDropTableWrongFalsely : Prop := fnExactDropTableRow.holds Try.pinned (OpenSpec.ofChange fnExactDropTableWrong)

/-- 'laws.FnExactSetTable': WHATEVER THE INPUT: true; the input reads as it did. -/
def fnExactSetTableSpec : ChangeSpec := { name := "fnExactSetTable", fn := fun _ => fun
  | [d1, d2] => { results := [.lit (.bool true)], args := [d1, d2] }
  | _ => none }
def fnExactSetTableRow : OpenClaim := { program := "ytdeafbgnbgihgaa", sum := "5febbabfdb965258f7677ab814285bfabae79143cd3f5381461e94ee47fb1a9b", func := "loop.example/g00883/laws.FnExactSetTable", spec := "fnExactSetTable", inPlace := ["internal/bytealg.abigen_runtime_cmpstring", "slices.overlaps[loop.example/g00883/impl.Table]"], unfollowed := true, recurses := true, apart := false }
def FnExactSetTableSaid : Prop := fnExactSetTableRow.holds Try.pinned (OpenSpec.ofChange fnExactSetTableSpec)

/-- ITS FALSE NEIGHBOUR: 'it returns false'. Refute it at one input. -/
def fnExactSetTableWrong : ChangeSpec := { name := "fnExactSetTable", fn := fun _ => fun
  | [d1, d2] => { results := [.lit (.bool false)], args := [d1, d2] }
  | _ => none }
def FnExactSetTableWrongFalsely : Prop := fnExactSetTableRow.holds Try.pinned (OpenSpec.ofChange fnExactSetTableWrong)

/-- 'laws.FnExactPackTables': WHATEVER THE INPUT: true; the input reads as it did. -/
def fnExactPackTablesSpec : ChangeSpec := { name := "fnExactPackTables", fn := fun _ => fun
  | [d] => { results := [.lit (.bool true)], args := [d] }
  | _ => none }
def fnExactPackTablesRow : OpenClaim := { program := "ytdeafbgnbgihgaa", sum := "5febbabfdb965258f7677ab814285bfabae79143cd3f5381461e94ee47fb1a9b", func := "loop.example/g00883/laws.FnExactPackTables", spec := "fnExactPackTables", inPlace := ["internal/abi.NoEscape", "internal/bytealg.MakeNoZero"], apart := false }
def FnExactPackTablesSaid : Prop := fnExactPackTablesRow.holds Try.pinned (OpenSpec.ofChange fnExactPackTablesSpec)

/-- ITS FALSE NEIGHBOUR: 'it returns false'. Refute it at one input. -/
def fnExactPackTablesWrong : ChangeSpec := { name := "fnExactPackTables", fn := fun _ => fun
  | [d] => { results := [.lit (.bool false)], args := [d] }
  | _ => none }
def FnExactPackTablesWrongFalsely : Prop := fnExactPackTablesRow.holds Try.pinned (OpenSpec.ofChange fnExactPackTablesWrong)

/- THE SECOND FORM. 'bulk': how many values and letters a reading holds, each counted each time it is reached (what is shared counts as often as it is met; a slice's spare places count too). A statement '..UptoSaid' is the law's where the arguments, and the package variables that the reading takes, are together of bulk at most 1048576: NARROWER than '..Said'. Prove '..Said' where nothing that the law and all that it calls make is longer than what came in: it says more and counts as full. Else prove '..UptoSaid'. A law counts once. -/
mutual
def uptoBulk {H : Type} : DataW H → Nat
  | .lit (.string bytes) => bytes.length + 1
  | .lit _ => 1
  | .nil => 1
  | .ptr d => uptoBulk d + 1
  | .slice elems spare => uptoBulkAll elems + uptoBulkAll spare + 1
  | .agg parts => uptoBulkAll parts + 1
  | .iface _ d => uptoBulk d + 1
  | .map entries => uptoBulkEntries entries + 1
  | .held _ => 1
def uptoBulkAll {H : Type} : List (DataW H) → Nat
  | [] => 0
  | d :: r => uptoBulk d + uptoBulkAll r
def uptoBulkEntries {H : Type} : List (Lit × DataW H) → Nat
  | [] => 0
  | x :: r => uptoBulkEntry x + uptoBulkEntries r
def uptoBulkEntry {H : Type} : Lit × DataW H → Nat
  | (.string bytes, d) => bytes.length + uptoBulk d + 1
  | (_, d) => uptoBulk d + 1
 end
def uptoSmall : (H : Type) → List (DataW H) → Bool := fun _ ds => decide (uptoBulkAll ds ≤ 1048576)
def OpenSpec.upto (s : _root_.Go.ChangeSpec) : _root_.Go.OpenSpec := { _root_.Go.OpenSpec.ofChange s with cond := some uptoSmall }

/-- 'laws.FnExactDropTable', WHERE WHAT IT READS IS OF BULK AT MOST 1048576: true; the input reads as it did. -/
def fnExactDropTableUptoRow : OpenClaim := { program := "ytdeafbgnbgihgaa", sum := "5febbabfdb965258f7677ab814285bfabae79143cd3f5381461e94ee47fb1a9b", func := "loop.example/g00883/laws.FnExactDropTable", spec := "fnExactDropTable", unfollowed := true, recurses := true, apart := false, narrowed := true }
def FnExactDropTableUptoSaid : Prop := fnExactDropTableUptoRow.holds Try.pinned (OpenSpec.upto fnExactDropTableSpec)

/-- 'laws.FnExactSetTable', WHERE WHAT IT READS IS OF BULK AT MOST 1048576: true; the input reads as it did. -/
def fnExactSetTableUptoRow : OpenClaim := { program := "ytdeafbgnbgihgaa", sum := "5febbabfdb965258f7677ab814285bfabae79143cd3f5381461e94ee47fb1a9b", func := "loop.example/g00883/laws.FnExactSetTable", spec := "fnExactSetTable", inPlace := ["internal/bytealg.abigen_runtime_cmpstring", "slices.overlaps[loop.example/g00883/impl.Table]"], unfollowed := true, recurses := true, apart := false, narrowed := true }
def FnExactSetTableUptoSaid : Prop := fnExactSetTableUptoRow.holds Try.pinned (OpenSpec.upto fnExactSetTableSpec)

/-- 'laws.FnExactPackTables', WHERE WHAT IT READS IS OF BULK AT MOST 1048576: true; the input reads as it did. -/
def fnExactPackTablesUptoRow : OpenClaim := { program := "ytdeafbgnbgihgaa", sum := "5febbabfdb965258f7677ab814285bfabae79143cd3f5381461e94ee47fb1a9b", func := "loop.example/g00883/laws.FnExactPackTables", spec := "fnExactPackTables", inPlace := ["internal/abi.NoEscape", "internal/bytealg.MakeNoZero"], apart := false, narrowed := true }
def FnExactPackTablesUptoSaid : Prop := fnExactPackTablesUptoRow.holds Try.pinned (OpenSpec.upto fnExactPackTablesSpec)

end Rows
end Go.Proofs.Ytdeafbgnbgihgaa
