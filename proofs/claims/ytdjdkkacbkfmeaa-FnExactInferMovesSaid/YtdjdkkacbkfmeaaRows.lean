/-
  No cell of these rows narrows 'for every input' (looked for: loops, veiled, ifaces, maps, wideKeys, modest, calm, conditions, laid).
  DERIVED. THE GIVEN ROWS OF THIS SEAT. 5 by the template 'for every input the law returns true; each argument reads behind the call as it read before'; 0 by the template 'total and deterministic' (their statements: YtdjdkkacbkfmeaaTotals.lean).
  GIVEN WITH THE SEED: the statements are not yours to turn. If you find one false, say at which input.
  Laid BY PROGRAM, IN A SANDBOX (cutbox-rows.mjs): the forced cells as the released guide's own fill.sh prints them over the translation f94a4b73ad3a25ec… (all of the seat's roots in one cut). By AI agents, Wed Nov 11 2026. No macro, syntax, notation, axiom, sorry.
-/
import Derived.Test.YtdjdkkacbkfmeaaChecked
import GoSem.Claim
import GoSem.ClaimJoined
import GoSem.ClaimMapViews
import Derived.JoinedTies
import Derived.KernelRfl
namespace Go.Proofs.Ytdjdkkacbkfmeaa
/- THE CELL 'sum', in the pinned program and in every row, IS THE sha256 OF THE DUMP (.gsa) THAT YtdjdkkacbkfmeaaProg.lean LOADS. Nothing in Lean hashes anything: it is a label: what it is worth is what the hold of that sum in a sandbox is worth. -/
noncomputable def Try.pinned : Pinned := { name := "ytdjdkkacbkfmeaa", sum := "f94a4b73ad3a25ec2b21caf86c6078fd2059f3fe0459266e3f663a2f180ec178", checked := Try.checked }
namespace Rows
def none {H : Type} : Left H := { results := [], args := [] }

/-- 'laws.FnExactSameVariation': WHATEVER THE INPUT: true; the input reads as it did. -/
def fnExactSameVariationSpec : ChangeSpec := { name := "fnExactSameVariation", fn := fun _ => fun
  | [d1, d2] => { results := [.lit (.bool true)], args := [d1, d2] }
  | _ => none }
def fnExactSameVariationRow : OpenClaim := { program := "ytdjdkkacbkfmeaa", sum := "f94a4b73ad3a25ec2b21caf86c6078fd2059f3fe0459266e3f663a2f180ec178", func := "loop.example/g00883/laws.FnExactSameVariation", spec := "fnExactSameVariation", unfollowed := true, recurses := true, apart := false }
def FnExactSameVariationSaid : Prop := fnExactSameVariationRow.holds Try.pinned (OpenSpec.ofChange fnExactSameVariationSpec)

/-- ITS FALSE NEIGHBOUR: 'it returns false'. Refute it at one input. -/
def fnExactSameVariationWrong : ChangeSpec := { name := "fnExactSameVariation", fn := fun _ => fun
  | [d1, d2] => { results := [.lit (.bool false)], args := [d1, d2] }
  | _ => none }
def FnExactSameVariationWrongFalsely : Prop := fnExactSameVariationRow.holds Try.pinned (OpenSpec.ofChange fnExactSameVariationWrong)

/-- 'laws.FnExactEncodeOutline': WHATEVER THE INPUT: true; the input reads as it did. -/
def fnExactEncodeOutlineSpec : ChangeSpec := { name := "fnExactEncodeOutline", fn := fun _ => fun
  | [d] => { results := [.lit (.bool true)], args := [d] }
  | _ => none }
def fnExactEncodeOutlineRow : OpenClaim := { program := "ytdjdkkacbkfmeaa", sum := "f94a4b73ad3a25ec2b21caf86c6078fd2059f3fe0459266e3f663a2f180ec178", func := "loop.example/g00883/laws.FnExactEncodeOutline", spec := "fnExactEncodeOutline", inPlace := ["internal/abi.NoEscape"], unfollowed := true, recurses := true, apart := false }
def FnExactEncodeOutlineSaid : Prop := fnExactEncodeOutlineRow.holds Try.pinned (OpenSpec.ofChange fnExactEncodeOutlineSpec)

/-- ITS FALSE NEIGHBOUR: 'it returns false'. Refute it at one input. -/
def fnExactEncodeOutlineWrong : ChangeSpec := { name := "fnExactEncodeOutline", fn := fun _ => fun
  | [d] => { results := [.lit (.bool false)], args := [d] }
  | _ => none }
def FnExactEncodeOutlineWrongFalsely : Prop := fnExactEncodeOutlineRow.holds Try.pinned (OpenSpec.ofChange fnExactEncodeOutlineWrong)

/-- 'laws.FnExactVariationText': WHATEVER THE INPUT: true; the input reads as it did. -/
def fnExactVariationTextSpec : ChangeSpec := { name := "fnExactVariationText", fn := fun _ => fun
  | [d] => { results := [.lit (.bool true)], args := [d] }
  | _ => none }
def fnExactVariationTextRow : OpenClaim := { program := "ytdjdkkacbkfmeaa", sum := "f94a4b73ad3a25ec2b21caf86c6078fd2059f3fe0459266e3f663a2f180ec178", func := "loop.example/g00883/laws.FnExactVariationText", spec := "fnExactVariationText", inPlace := ["internal/abi.NoEscape", "internal/bytealg.MakeNoZero"], unfollowed := true, recurses := true, apart := false }
def FnExactVariationTextSaid : Prop := fnExactVariationTextRow.holds Try.pinned (OpenSpec.ofChange fnExactVariationTextSpec)

/-- ITS FALSE NEIGHBOUR: 'it returns false'. Refute it at one input. -/
def fnExactVariationTextWrong : ChangeSpec := { name := "fnExactVariationText", fn := fun _ => fun
  | [d] => { results := [.lit (.bool false)], args := [d] }
  | _ => none }
def FnExactVariationTextWrongFalsely : Prop := fnExactVariationTextRow.holds Try.pinned (OpenSpec.ofChange fnExactVariationTextWrong)

/-- 'laws.FnExactInferMoves': WHATEVER THE INPUT: true; the input reads as it did. -/
def fnExactInferMovesSpec : ChangeSpec := { name := "fnExactInferMoves", fn := fun _ => fun
  | [d1, d2, d3] => { results := [.lit (.bool true)], args := [d1, d2, d3] }
  | _ => none }
def fnExactInferMovesRow : OpenClaim := { program := "ytdjdkkacbkfmeaa", sum := "f94a4b73ad3a25ec2b21caf86c6078fd2059f3fe0459266e3f663a2f180ec178", func := "loop.example/g00883/laws.FnExactInferMoves", spec := "fnExactInferMoves", unfollowed := true, recurses := true, apart := false }
def FnExactInferMovesSaid : Prop := fnExactInferMovesRow.holds Try.pinned (OpenSpec.ofChange fnExactInferMovesSpec)

/-- ITS FALSE NEIGHBOUR: 'it returns false'. Refute it at one input. -/
def fnExactInferMovesWrong : ChangeSpec := { name := "fnExactInferMoves", fn := fun _ => fun
  | [d1, d2, d3] => { results := [.lit (.bool false)], args := [d1, d2, d3] }
  | _ => none }
def FnExactInferMovesWrongFalsely : Prop := fnExactInferMovesRow.holds Try.pinned (OpenSpec.ofChange fnExactInferMovesWrong)

/-- 'laws.FnInferred': WHATEVER THE INPUT: true; the input reads as it did. -/
def fnInferredSpec : ChangeSpec := { name := "fnInferred", fn := fun _ => fun
  | [d1, d2] => { results := [.lit (.bool true)], args := [d1, d2] }
  | _ => none }
def fnInferredRow : OpenClaim := { program := "ytdjdkkacbkfmeaa", sum := "f94a4b73ad3a25ec2b21caf86c6078fd2059f3fe0459266e3f663a2f180ec178", func := "loop.example/g00883/laws.FnInferred", spec := "fnInferred", unfollowed := true, recurses := true, apart := false }
def FnInferredSaid : Prop := fnInferredRow.holds Try.pinned (OpenSpec.ofChange fnInferredSpec)

/-- ITS FALSE NEIGHBOUR: 'it returns false'. Refute it at one input. -/
def fnInferredWrong : ChangeSpec := { name := "fnInferred", fn := fun _ => fun
  | [d1, d2] => { results := [.lit (.bool false)], args := [d1, d2] }
  | _ => none }
def FnInferredWrongFalsely : Prop := fnInferredRow.holds Try.pinned (OpenSpec.ofChange fnInferredWrong)

/- THE SECOND FORM. 'bulk': how many values and letters a reading holds, each counted each time it is reached (what is shared counts as often as it is met; a slice's spare places count too). A statement '..UptoSaid' is the law's where the arguments, and the package variables that the reading takes, are together of bulk at most 1048576: NARROWER than '..Said'. Prove '..Said' where nothing that the law and all that it calls make is longer than what came in: it says more and counts as full. Else prove '..UptoSaid'. A law counts once. -/
mutual
def uptoBulk {H : Type} : DataW H → Nat
  | .lit (.string bytes) => bytes.length + 1
  | .lit _ => 1
  | .nil => 1
  | .ptr d => uptoBulk d + 1
  | .slice elems spare => uptoBulkAll elems + uptoBulkAll spare + 1
  | .agg parts => uptoBulkAll parts + 1
  | .iface _ d => uptoBulk d + 1
  | .map entries => uptoBulkEntries entries + 1
  | .held _ => 1
def uptoBulkAll {H : Type} : List (DataW H) → Nat
  | [] => 0
  | d :: r => uptoBulk d + uptoBulkAll r
def uptoBulkEntries {H : Type} : List (Lit × DataW H) → Nat
  | [] => 0
  | x :: r => uptoBulkEntry x + uptoBulkEntries r
def uptoBulkEntry {H : Type} : Lit × DataW H → Nat
  | (.string bytes, d) => bytes.length + uptoBulk d + 1
  | (_, d) => uptoBulk d + 1
 end
def uptoSmall : (H : Type) → List (DataW H) → Bool := fun _ ds => decide (uptoBulkAll ds ≤ 1048576)
def OpenSpec.upto (s : _root_.Go.ChangeSpec) : _root_.Go.OpenSpec := { _root_.Go.OpenSpec.ofChange s with cond := some uptoSmall }

/-- 'laws.FnExactSameVariation', WHERE WHAT IT READS IS OF BULK AT MOST 1048576: true; the input reads as it did. -/
def fnExactSameVariationUptoRow : OpenClaim := { program := "ytdjdkkacbkfmeaa", sum := "f94a4b73ad3a25ec2b21caf86c6078fd2059f3fe0459266e3f663a2f180ec178", func := "loop.example/g00883/laws.FnExactSameVariation", spec := "fnExactSameVariation", unfollowed := true, recurses := true, apart := false, narrowed := true }
def FnExactSameVariationUptoSaid : Prop := fnExactSameVariationUptoRow.holds Try.pinned (OpenSpec.upto fnExactSameVariationSpec)

/-- 'laws.FnExactEncodeOutline', WHERE WHAT IT READS IS OF BULK AT MOST 1048576: true; the input reads as it did. -/
def fnExactEncodeOutlineUptoRow : OpenClaim := { program := "ytdjdkkacbkfmeaa", sum := "f94a4b73ad3a25ec2b21caf86c6078fd2059f3fe0459266e3f663a2f180ec178", func := "loop.example/g00883/laws.FnExactEncodeOutline", spec := "fnExactEncodeOutline", inPlace := ["internal/abi.NoEscape"], unfollowed := true, recurses := true, apart := false, narrowed := true }
def FnExactEncodeOutlineUptoSaid : Prop := fnExactEncodeOutlineUptoRow.holds Try.pinned (OpenSpec.upto fnExactEncodeOutlineSpec)

/-- 'laws.FnExactVariationText', WHERE WHAT IT READS IS OF BULK AT MOST 1048576: true; the input reads as it did. -/
def fnExactVariationTextUptoRow : OpenClaim := { program := "ytdjdkkacbkfmeaa", sum := "f94a4b73ad3a25ec2b21caf86c6078fd2059f3fe0459266e3f663a2f180ec178", func := "loop.example/g00883/laws.FnExactVariationText", spec := "fnExactVariationText", inPlace := ["internal/abi.NoEscape", "internal/bytealg.MakeNoZero"], unfollowed := true, recurses := true, apart := false, narrowed := true }
def FnExactVariationTextUptoSaid : Prop := fnExactVariationTextUptoRow.holds Try.pinned (OpenSpec.upto fnExactVariationTextSpec)

/-- 'laws.FnExactInferMoves', WHERE WHAT IT READS IS OF BULK AT MOST 1048576: true; the input reads as it did. -/
def fnExactInferMovesUptoRow : OpenClaim := { program := "ytdjdkkacbkfmeaa", sum := "f94a4b73ad3a25ec2b21caf86c6078fd2059f3fe0459266e3f663a2f180ec178", func := "loop.example/g00883/laws.FnExactInferMoves", spec := "fnExactInferMoves", unfollowed := true, recurses := true, apart := false, narrowed := true }
def FnExactInferMovesUptoSaid : Prop := fnExactInferMovesUptoRow.holds Try.pinned (OpenSpec.upto fnExactInferMovesSpec)

/-- 'laws.FnInferred', WHERE WHAT IT READS IS OF BULK AT MOST 1048576: true; the input reads as it did. -/
def fnInferredUptoRow : OpenClaim := { program := "ytdjdkkacbkfmeaa", sum := "f94a4b73ad3a25ec2b21caf86c6078fd2059f3fe0459266e3f663a2f180ec178", func := "loop.example/g00883/laws.FnInferred", spec := "fnInferred", unfollowed := true, recurses := true, apart := false, narrowed := true }
def FnInferredUptoSaid : Prop := fnInferredUptoRow.holds Try.pinned (OpenSpec.upto fnInferredSpec)

end Rows
end Go.Proofs.Ytdjdkkacbkfmeaa
