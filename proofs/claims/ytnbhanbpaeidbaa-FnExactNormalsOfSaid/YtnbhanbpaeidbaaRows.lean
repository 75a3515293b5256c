/-
  No cell of these rows narrows 'for every input' (looked for: loops, veiled, ifaces, maps, wideKeys, modest, calm, conditions, laid).
  DERIVED. THE GIVEN ROWS OF THIS SEAT. 10 by the template 'for every input the law returns true; each argument reads behind the call as it read before'; 0 by the template 'total and deterministic' (their statements: YtnbhanbpaeidbaaTotals.lean).
  GIVEN WITH THE SEED: the statements are not yours to turn. If you find one false, say at which input.
  Laid BY PROGRAM, IN A SANDBOX (cutbox-rows.mjs): the forced cells as the released guide's own fill.sh prints them over the translation e8da5dc3a00da12f… (all of the seat's roots in one cut). By AI agents, Wed Nov 11 2026. No macro, syntax, notation, axiom, sorry.
-/
import Derived.Test.YtnbhanbpaeidbaaChecked
import GoSem.Claim
import GoSem.ClaimJoined
import GoSem.ClaimMapViews
import Derived.JoinedTies
import Derived.KernelRfl
namespace Go.Proofs.Ytnbhanbpaeidbaa
/- THE CELL 'sum', in the pinned program and in every row, IS THE sha256 OF THE DUMP (.gsa) THAT YtnbhanbpaeidbaaProg.lean LOADS. Nothing in Lean hashes anything: it is a label: what it is worth is what the hold of that sum in a sandbox is worth. -/
noncomputable def Try.pinned : Pinned := { name := "ytnbhanbpaeidbaa", sum := "e8da5dc3a00da12fb51de4ecfe71e9ab8e0b414379f2fbe3a5cc341623fe68cd", checked := Try.checked }
namespace Rows
def none {H : Type} : Left H := { results := [], args := [] }

/-- 'laws.FnExactValidAxis': WHATEVER THE INPUT: true; the input reads as it did. -/
def fnExactValidAxisSpec : ChangeSpec := { name := "fnExactValidAxis", fn := fun _ => fun
  | [d] => { results := [.lit (.bool true)], args := [d] }
  | _ => none }
def fnExactValidAxisRow : OpenClaim := { program := "ytnbhanbpaeidbaa", sum := "e8da5dc3a00da12fb51de4ecfe71e9ab8e0b414379f2fbe3a5cc341623fe68cd", func := "loop.example/g00883/laws.FnExactValidAxis", spec := "fnExactValidAxis", apart := false }
def FnExactValidAxisSaid : Prop := fnExactValidAxisRow.holds Try.pinned (OpenSpec.ofChange fnExactValidAxisSpec)

/-- ITS FALSE NEIGHBOUR: 'it returns false'. Refute it at one input. -/
def fnExactValidAxisWrong : ChangeSpec := { name := "fnExactValidAxis", fn := fun _ => fun
  | [d] => { results := [.lit (.bool false)], args := [d] }
  | _ => none }
def FnExactValidAxisWrongFalsely : Prop := fnExactValidAxisRow.holds Try.pinned (OpenSpec.ofChange fnExactValidAxisWrong)

/-- 'laws.FnExactSameAxes': WHATEVER THE INPUT: true; the input reads as it did. -/
def fnExactSameAxesSpec : ChangeSpec := { name := "fnExactSameAxes", fn := fun _ => fun
  | [d1, d2] => { results := [.lit (.bool true)], args := [d1, d2] }
  | _ => none }
def fnExactSameAxesRow : OpenClaim := { program := "ytnbhanbpaeidbaa", sum := "e8da5dc3a00da12fb51de4ecfe71e9ab8e0b414379f2fbe3a5cc341623fe68cd", func := "loop.example/g00883/laws.FnExactSameAxes", spec := "fnExactSameAxes", unfollowed := true, recurses := true, apart := false }
def FnExactSameAxesSaid : Prop := fnExactSameAxesRow.holds Try.pinned (OpenSpec.ofChange fnExactSameAxesSpec)

/-- ITS FALSE NEIGHBOUR: 'it returns false'. Refute it at one input. -/
def fnExactSameAxesWrong : ChangeSpec := { name := "fnExactSameAxes", fn := fun _ => fun
  | [d1, d2] => { results := [.lit (.bool false)], args := [d1, d2] }
  | _ => none }
def FnExactSameAxesWrongFalsely : Prop := fnExactSameAxesRow.holds Try.pinned (OpenSpec.ofChange fnExactSameAxesWrong)

/-- 'laws.FnExactValidAxes': WHATEVER THE INPUT: true; the input reads as it did. -/
def fnExactValidAxesSpec : ChangeSpec := { name := "fnExactValidAxes", fn := fun _ => fun
  | [d] => { results := [.lit (.bool true)], args := [d] }
  | _ => none }
def fnExactValidAxesRow : OpenClaim := { program := "ytnbhanbpaeidbaa", sum := "e8da5dc3a00da12fb51de4ecfe71e9ab8e0b414379f2fbe3a5cc341623fe68cd", func := "loop.example/g00883/laws.FnExactValidAxes", spec := "fnExactValidAxes", unfollowed := true, recurses := true, apart := false }
def FnExactValidAxesSaid : Prop := fnExactValidAxesRow.holds Try.pinned (OpenSpec.ofChange fnExactValidAxesSpec)

/-- ITS FALSE NEIGHBOUR: 'it returns false'. Refute it at one input. -/
def fnExactValidAxesWrong : ChangeSpec := { name := "fnExactValidAxes", fn := fun _ => fun
  | [d] => { results := [.lit (.bool false)], args := [d] }
  | _ => none }
def FnExactValidAxesWrongFalsely : Prop := fnExactValidAxesRow.holds Try.pinned (OpenSpec.ofChange fnExactValidAxesWrong)

/-- 'laws.FnExactMapNormal': WHATEVER THE INPUT: true; the input reads as it did. -/
def fnExactMapNormalSpec : ChangeSpec := { name := "fnExactMapNormal", fn := fun _ => fun
  | [d1, d2] => { results := [.lit (.bool true)], args := [d1, d2] }
  | _ => none }
def fnExactMapNormalRow : OpenClaim := { program := "ytnbhanbpaeidbaa", sum := "e8da5dc3a00da12fb51de4ecfe71e9ab8e0b414379f2fbe3a5cc341623fe68cd", func := "loop.example/g00883/laws.FnExactMapNormal", spec := "fnExactMapNormal", apart := false }
def FnExactMapNormalSaid : Prop := fnExactMapNormalRow.holds Try.pinned (OpenSpec.ofChange fnExactMapNormalSpec)

/-- ITS FALSE NEIGHBOUR: 'it returns false'. Refute it at one input. -/
def fnExactMapNormalWrong : ChangeSpec := { name := "fnExactMapNormal", fn := fun _ => fun
  | [d1, d2] => { results := [.lit (.bool false)], args := [d1, d2] }
  | _ => none }
def FnExactMapNormalWrongFalsely : Prop := fnExactMapNormalRow.holds Try.pinned (OpenSpec.ofChange fnExactMapNormalWrong)

/-- 'laws.FnExactPlainNormal': WHATEVER THE INPUT: true; the input reads as it did. -/
def fnExactPlainNormalSpec : ChangeSpec := { name := "fnExactPlainNormal", fn := fun _ => fun
  | [d1, d2] => { results := [.lit (.bool true)], args := [d1, d2] }
  | _ => none }
def fnExactPlainNormalRow : OpenClaim := { program := "ytnbhanbpaeidbaa", sum := "e8da5dc3a00da12fb51de4ecfe71e9ab8e0b414379f2fbe3a5cc341623fe68cd", func := "loop.example/g00883/laws.FnExactPlainNormal", spec := "fnExactPlainNormal", apart := false }
def FnExactPlainNormalSaid : Prop := fnExactPlainNormalRow.holds Try.pinned (OpenSpec.ofChange fnExactPlainNormalSpec)

/-- ITS FALSE NEIGHBOUR: 'it returns false'. Refute it at one input. -/
def fnExactPlainNormalWrong : ChangeSpec := { name := "fnExactPlainNormal", fn := fun _ => fun
  | [d1, d2] => { results := [.lit (.bool false)], args := [d1, d2] }
  | _ => none }
def FnExactPlainNormalWrongFalsely : Prop := fnExactPlainNormalRow.holds Try.pinned (OpenSpec.ofChange fnExactPlainNormalWrong)

/-- 'laws.FnExactAxisNamed': WHATEVER THE INPUT: true; the input reads as it did. -/
def fnExactAxisNamedSpec : ChangeSpec := { name := "fnExactAxisNamed", fn := fun _ => fun
  | [d1, d2] => { results := [.lit (.bool true)], args := [d1, d2] }
  | _ => none }
def fnExactAxisNamedRow : OpenClaim := { program := "ytnbhanbpaeidbaa", sum := "e8da5dc3a00da12fb51de4ecfe71e9ab8e0b414379f2fbe3a5cc341623fe68cd", func := "loop.example/g00883/laws.FnExactAxisNamed", spec := "fnExactAxisNamed", unfollowed := true, recurses := true, apart := false }
def FnExactAxisNamedSaid : Prop := fnExactAxisNamedRow.holds Try.pinned (OpenSpec.ofChange fnExactAxisNamedSpec)

/-- ITS FALSE NEIGHBOUR: 'it returns false'. Refute it at one input. -/
def fnExactAxisNamedWrong : ChangeSpec := { name := "fnExactAxisNamed", fn := fun _ => fun
  | [d1, d2] => { results := [.lit (.bool false)], args := [d1, d2] }
  | _ => none }
def FnExactAxisNamedWrongFalsely : Prop := fnExactAxisNamedRow.holds Try.pinned (OpenSpec.ofChange fnExactAxisNamedWrong)

/-- 'laws.FnExactNormalOf': WHATEVER THE INPUT: true; the input reads as it did. -/
def fnExactNormalOfSpec : ChangeSpec := { name := "fnExactNormalOf", fn := fun _ => fun
  | [d1, d2] => { results := [.lit (.bool true)], args := [d1, d2] }
  | _ => none }
def fnExactNormalOfRow : OpenClaim := { program := "ytnbhanbpaeidbaa", sum := "e8da5dc3a00da12fb51de4ecfe71e9ab8e0b414379f2fbe3a5cc341623fe68cd", func := "loop.example/g00883/laws.FnExactNormalOf", spec := "fnExactNormalOf", apart := false }
def FnExactNormalOfSaid : Prop := fnExactNormalOfRow.holds Try.pinned (OpenSpec.ofChange fnExactNormalOfSpec)

/-- ITS FALSE NEIGHBOUR: 'it returns false'. Refute it at one input. -/
def fnExactNormalOfWrong : ChangeSpec := { name := "fnExactNormalOf", fn := fun _ => fun
  | [d1, d2] => { results := [.lit (.bool false)], args := [d1, d2] }
  | _ => none }
def FnExactNormalOfWrongFalsely : Prop := fnExactNormalOfRow.holds Try.pinned (OpenSpec.ofChange fnExactNormalOfWrong)

/-- 'laws.FnExactAxisText': WHATEVER THE INPUT: true; the input reads as it did. -/
def fnExactAxisTextSpec : ChangeSpec := { name := "fnExactAxisText", fn := fun _ => fun
  | [d] => { results := [.lit (.bool true)], args := [d] }
  | _ => none }
def fnExactAxisTextRow : OpenClaim := { program := "ytnbhanbpaeidbaa", sum := "e8da5dc3a00da12fb51de4ecfe71e9ab8e0b414379f2fbe3a5cc341623fe68cd", func := "loop.example/g00883/laws.FnExactAxisText", spec := "fnExactAxisText", inPlace := ["internal/abi.NoEscape", "internal/bytealg.MakeNoZero"], apart := false }
def FnExactAxisTextSaid : Prop := fnExactAxisTextRow.holds Try.pinned (OpenSpec.ofChange fnExactAxisTextSpec)

/-- ITS FALSE NEIGHBOUR: 'it returns false'. Refute it at one input. -/
def fnExactAxisTextWrong : ChangeSpec := { name := "fnExactAxisText", fn := fun _ => fun
  | [d] => { results := [.lit (.bool false)], args := [d] }
  | _ => none }
def FnExactAxisTextWrongFalsely : Prop := fnExactAxisTextRow.holds Try.pinned (OpenSpec.ofChange fnExactAxisTextWrong)

/-- 'laws.FnExactDefaultsOf': WHATEVER THE INPUT: true; the input reads as it did. -/
def fnExactDefaultsOfSpec : ChangeSpec := { name := "fnExactDefaultsOf", fn := fun _ => fun
  | [d] => { results := [.lit (.bool true)], args := [d] }
  | _ => none }
def fnExactDefaultsOfRow : OpenClaim := { program := "ytnbhanbpaeidbaa", sum := "e8da5dc3a00da12fb51de4ecfe71e9ab8e0b414379f2fbe3a5cc341623fe68cd", func := "loop.example/g00883/laws.FnExactDefaultsOf", spec := "fnExactDefaultsOf", unfollowed := true, recurses := true, apart := false }
def FnExactDefaultsOfSaid : Prop := fnExactDefaultsOfRow.holds Try.pinned (OpenSpec.ofChange fnExactDefaultsOfSpec)

/-- ITS FALSE NEIGHBOUR: 'it returns false'. Refute it at one input. -/
def fnExactDefaultsOfWrong : ChangeSpec := { name := "fnExactDefaultsOf", fn := fun _ => fun
  | [d] => { results := [.lit (.bool false)], args := [d] }
  | _ => none }
def FnExactDefaultsOfWrongFalsely : Prop := fnExactDefaultsOfRow.holds Try.pinned (OpenSpec.ofChange fnExactDefaultsOfWrong)

/-- 'laws.FnExactNormalsOf': WHATEVER THE INPUT: true; the input reads as it did. -/
def fnExactNormalsOfSpec : ChangeSpec := { name := "fnExactNormalsOf", fn := fun _ => fun
  | [d1, d2] => { results := [.lit (.bool true)], args := [d1, d2] }
  | _ => none }
def fnExactNormalsOfRow : OpenClaim := { program := "ytnbhanbpaeidbaa", sum := "e8da5dc3a00da12fb51de4ecfe71e9ab8e0b414379f2fbe3a5cc341623fe68cd", func := "loop.example/g00883/laws.FnExactNormalsOf", spec := "fnExactNormalsOf", unfollowed := true, recurses := true, apart := false }
def FnExactNormalsOfSaid : Prop := fnExactNormalsOfRow.holds Try.pinned (OpenSpec.ofChange fnExactNormalsOfSpec)

/-- ITS FALSE NEIGHBOUR: 'it returns false'. Refute it at one input. -/
def fnExactNormalsOfWrong : ChangeSpec := { name := "fnExactNormalsOf", fn := fun _ => fun
  | [d1, d2] => { results := [.lit (.bool false)], args := [d1, d2] }
  | _ => none }
def FnExactNormalsOfWrongFalsely : Prop := fnExactNormalsOfRow.holds Try.pinned (OpenSpec.ofChange fnExactNormalsOfWrong)

/- THE SECOND FORM. 'bulk': how many values and letters a reading holds, each counted each time it is reached (what is shared counts as often as it is met; a slice's spare places count too). A statement '..UptoSaid' is the law's where the arguments, and the package variables that the reading takes, are together of bulk at most 1048576: NARROWER than '..Said'. Prove '..Said' where nothing that the law and all that it calls make is longer than what came in: it says more and counts as full. Else prove '..UptoSaid'. A law counts once. -/
mutual
def uptoBulk {H : Type} : DataW H → Nat
  | .lit (.string bytes) => bytes.length + 1
  | .lit _ => 1
  | .nil => 1
  | .ptr d => uptoBulk d + 1
  | .slice elems spare => uptoBulkAll elems + uptoBulkAll spare + 1
  | .agg parts => uptoBulkAll parts + 1
  | .iface _ d => uptoBulk d + 1
  | .map entries => uptoBulkEntries entries + 1
  | .held _ => 1
def uptoBulkAll {H : Type} : List (DataW H) → Nat
  | [] => 0
  | d :: r => uptoBulk d + uptoBulkAll r
def uptoBulkEntries {H : Type} : List (Lit × DataW H) → Nat
  | [] => 0
  | x :: r => uptoBulkEntry x + uptoBulkEntries r
def uptoBulkEntry {H : Type} : Lit × DataW H → Nat
  | (.string bytes, d) => bytes.length + uptoBulk d + 1
  | (_, d) => uptoBulk d + 1
 end
def uptoSmall : (H : Type) → List (DataW H) → Bool := fun _ ds => decide (uptoBulkAll ds ≤ 1048576)
def OpenSpec.upto (s : _root_.Go.ChangeSpec) : _root_.Go.OpenSpec := { _root_.Go.OpenSpec.ofChange s with cond := some uptoSmall }

/-- 'laws.FnExactValidAxis', WHERE WHAT IT READS IS OF BULK AT MOST 1048576: true; the input reads as it did. -/
def fnExactValidAxisUptoRow : OpenClaim := { program := "ytnbhanbpaeidbaa", sum := "e8da5dc3a00da12fb51de4ecfe71e9ab8e0b414379f2fbe3a5cc341623fe68cd", func := "loop.example/g00883/laws.FnExactValidAxis", spec := "fnExactValidAxis", apart := false, narrowed := true }
def FnExactValidAxisUptoSaid : Prop := fnExactValidAxisUptoRow.holds Try.pinned (OpenSpec.upto fnExactValidAxisSpec)

/-- 'laws.FnExactSameAxes', WHERE WHAT IT READS IS OF BULK AT MOST 1048576: true; the input reads as it did. -/
def fnExactSameAxesUptoRow : OpenClaim := { program := "ytnbhanbpaeidbaa", sum := "e8da5dc3a00da12fb51de4ecfe71e9ab8e0b414379f2fbe3a5cc341623fe68cd", func := "loop.example/g00883/laws.FnExactSameAxes", spec := "fnExactSameAxes", unfollowed := true, recurses := true, apart := false, narrowed := true }
def FnExactSameAxesUptoSaid : Prop := fnExactSameAxesUptoRow.holds Try.pinned (OpenSpec.upto fnExactSameAxesSpec)

/-- 'laws.FnExactValidAxes', WHERE WHAT IT READS IS OF BULK AT MOST 1048576: true; the input reads as it did. -/
def fnExactValidAxesUptoRow : OpenClaim := { program := "ytnbhanbpaeidbaa", sum := "e8da5dc3a00da12fb51de4ecfe71e9ab8e0b414379f2fbe3a5cc341623fe68cd", func := "loop.example/g00883/laws.FnExactValidAxes", spec := "fnExactValidAxes", unfollowed := true, recurses := true, apart := false, narrowed := true }
def FnExactValidAxesUptoSaid : Prop := fnExactValidAxesUptoRow.holds Try.pinned (OpenSpec.upto fnExactValidAxesSpec)

/-- 'laws.FnExactMapNormal', WHERE WHAT IT READS IS OF BULK AT MOST 1048576: true; the input reads as it did. -/
def fnExactMapNormalUptoRow : OpenClaim := { program := "ytnbhanbpaeidbaa", sum := "e8da5dc3a00da12fb51de4ecfe71e9ab8e0b414379f2fbe3a5cc341623fe68cd", func := "loop.example/g00883/laws.FnExactMapNormal", spec := "fnExactMapNormal", apart := false, narrowed := true }
def FnExactMapNormalUptoSaid : Prop := fnExactMapNormalUptoRow.holds Try.pinned (OpenSpec.upto fnExactMapNormalSpec)

/-- 'laws.FnExactPlainNormal', WHERE WHAT IT READS IS OF BULK AT MOST 1048576: true; the input reads as it did. -/
def fnExactPlainNormalUptoRow : OpenClaim := { program := "ytnbhanbpaeidbaa", sum := "e8da5dc3a00da12fb51de4ecfe71e9ab8e0b414379f2fbe3a5cc341623fe68cd", func := "loop.example/g00883/laws.FnExactPlainNormal", spec := "fnExactPlainNormal", apart := false, narrowed := true }
def FnExactPlainNormalUptoSaid : Prop := fnExactPlainNormalUptoRow.holds Try.pinned (OpenSpec.upto fnExactPlainNormalSpec)

/-- 'laws.FnExactAxisNamed', WHERE WHAT IT READS IS OF BULK AT MOST 1048576: true; the input reads as it did. -/
def fnExactAxisNamedUptoRow : OpenClaim := { program := "ytnbhanbpaeidbaa", sum := "e8da5dc3a00da12fb51de4ecfe71e9ab8e0b414379f2fbe3a5cc341623fe68cd", func := "loop.example/g00883/laws.FnExactAxisNamed", spec := "fnExactAxisNamed", unfollowed := true, recurses := true, apart := false, narrowed := true }
def FnExactAxisNamedUptoSaid : Prop := fnExactAxisNamedUptoRow.holds Try.pinned (OpenSpec.upto fnExactAxisNamedSpec)

/-- 'laws.FnExactNormalOf', WHERE WHAT IT READS IS OF BULK AT MOST 1048576: true; the input reads as it did. -/
def fnExactNormalOfUptoRow : OpenClaim := { program := "ytnbhanbpaeidbaa", sum := "e8da5dc3a00da12fb51de4ecfe71e9ab8e0b414379f2fbe3a5cc341623fe68cd", func := "loop.example/g00883/laws.FnExactNormalOf", spec := "fnExactNormalOf", apart := false, narrowed := true }
def FnExactNormalOfUptoSaid : Prop := fnExactNormalOfUptoRow.holds Try.pinned (OpenSpec.upto fnExactNormalOfSpec)

/-- 'laws.FnExactAxisText', WHERE WHAT IT READS IS OF BULK AT MOST 1048576: true; the input reads as it did. -/
def fnExactAxisTextUptoRow : OpenClaim := { program := "ytnbhanbpaeidbaa", sum := "e8da5dc3a00da12fb51de4ecfe71e9ab8e0b414379f2fbe3a5cc341623fe68cd", func := "loop.example/g00883/laws.FnExactAxisText", spec := "fnExactAxisText", inPlace := ["internal/abi.NoEscape", "internal/bytealg.MakeNoZero"], apart := false, narrowed := true }
def FnExactAxisTextUptoSaid : Prop := fnExactAxisTextUptoRow.holds Try.pinned (OpenSpec.upto fnExactAxisTextSpec)

/-- 'laws.FnExactDefaultsOf', WHERE WHAT IT READS IS OF BULK AT MOST 1048576: true; the input reads as it did. -/
def fnExactDefaultsOfUptoRow : OpenClaim := { program := "ytnbhanbpaeidbaa", sum := "e8da5dc3a00da12fb51de4ecfe71e9ab8e0b414379f2fbe3a5cc341623fe68cd", func := "loop.example/g00883/laws.FnExactDefaultsOf", spec := "fnExactDefaultsOf", unfollowed := true, recurses := true, apart := false, narrowed := true }
def FnExactDefaultsOfUptoSaid : Prop := fnExactDefaultsOfUptoRow.holds Try.pinned (OpenSpec.upto fnExactDefaultsOfSpec)

/-- 'laws.FnExactNormalsOf', WHERE WHAT IT READS IS OF BULK AT MOST 1048576: true; the input reads as it did. -/
def fnExactNormalsOfUptoRow : OpenClaim := { program := "ytnbhanbpaeidbaa", sum := "e8da5dc3a00da12fb51de4ecfe71e9ab8e0b414379f2fbe3a5cc341623fe68cd", func := "loop.example/g00883/laws.FnExactNormalsOf", spec := "fnExactNormalsOf", unfollowed := true, recurses := true, apart := false, narrowed := true }
def FnExactNormalsOfUptoSaid : Prop := fnExactNormalsOfUptoRow.holds Try.pinned (OpenSpec.upto fnExactNormalsOfSpec)

end Rows
end Go.Proofs.Ytnbhanbpaeidbaa
