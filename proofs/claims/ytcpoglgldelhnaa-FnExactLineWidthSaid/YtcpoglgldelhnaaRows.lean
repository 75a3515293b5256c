/-
  No cell of these rows narrows 'for every input' (looked for: loops, veiled, ifaces, maps, wideKeys, modest, calm, conditions, laid).
  DERIVED. THE GIVEN ROWS OF THIS SEAT. 6 by the template 'for every input the law returns true; each argument reads behind the call as it read before'; 0 by the template 'total and deterministic' (their statements: YtcpoglgldelhnaaTotals.lean).
  GIVEN WITH THE SEED: the statements are not yours to turn. If you find one false, say at which input.
  Laid BY PROGRAM, IN A SANDBOX (cutbox-rows.mjs): the forced cells as the released guide's own fill.sh prints them over the translation 4de4ae85180e0f94… (all of the seat's roots in one cut). By AI agents, Wed Nov 11 2026. No macro, syntax, notation, axiom, sorry.
-/
import Derived.Test.YtcpoglgldelhnaaChecked
import GoSem.Claim
import GoSem.ClaimJoined
import GoSem.ClaimMapViews
import Derived.JoinedTies
import Derived.KernelRfl
namespace Go.Proofs.Ytcpoglgldelhnaa
/- THE CELL 'sum', in the pinned program and in every row, IS THE sha256 OF THE DUMP (.gsa) THAT YtcpoglgldelhnaaProg.lean LOADS. Nothing in Lean hashes anything: it is a label: what it is worth is what the hold of that sum in a sandbox is worth. -/
noncomputable def Try.pinned : Pinned := { name := "ytcpoglgldelhnaa", sum := "4de4ae85180e0f9485c36be1e9daeb5cdf6a40ef897f9d573f5c73342782d197", checked := Try.checked }
namespace Rows
def none {H : Type} : Left H := { results := [], args := [] }

/-- 'laws.FnExactValidPeak': WHATEVER THE INPUT: true; the input reads as it did. -/
def fnExactValidPeakSpec : ChangeSpec := { name := "fnExactValidPeak", fn := fun _ => fun
  | [d] => { results := [.lit (.bool true)], args := [d] }
  | _ => none }
def fnExactValidPeakRow : OpenClaim := { program := "ytcpoglgldelhnaa", sum := "4de4ae85180e0f9485c36be1e9daeb5cdf6a40ef897f9d573f5c73342782d197", func := "loop.example/g00883/laws.FnExactValidPeak", spec := "fnExactValidPeak", apart := false }
def FnExactValidPeakSaid : Prop := fnExactValidPeakRow.holds Try.pinned (OpenSpec.ofChange fnExactValidPeakSpec)

/-- ITS FALSE NEIGHBOUR: 'it returns false'. Refute it at one input. -/
def fnExactValidPeakWrong : ChangeSpec := { name := "fnExactValidPeak", fn := fun _ => fun
  | [d] => { results := [.lit (.bool false)], args := [d] }
  | _ => none }
def FnExactValidPeakWrongFalsely : Prop := fnExactValidPeakRow.holds Try.pinned (OpenSpec.ofChange fnExactValidPeakWrong)

/-- 'laws.FnExactValidTag': WHATEVER THE INPUT: true; the input reads as it did. -/
def fnExactValidTagSpec : ChangeSpec := { name := "fnExactValidTag", fn := fun _ => fun
  | [d] => { results := [.lit (.bool true)], args := [d] }
  | _ => none }
def fnExactValidTagRow : OpenClaim := { program := "ytcpoglgldelhnaa", sum := "4de4ae85180e0f9485c36be1e9daeb5cdf6a40ef897f9d573f5c73342782d197", func := "loop.example/g00883/laws.FnExactValidTag", spec := "fnExactValidTag", apart := false }
def FnExactValidTagSaid : Prop := fnExactValidTagRow.holds Try.pinned (OpenSpec.ofChange fnExactValidTagSpec)

/-- ITS FALSE NEIGHBOUR: 'it returns false'. Refute it at one input. -/
def fnExactValidTagWrong : ChangeSpec := { name := "fnExactValidTag", fn := fun _ => fun
  | [d] => { results := [.lit (.bool false)], args := [d] }
  | _ => none }
def FnExactValidTagWrongFalsely : Prop := fnExactValidTagRow.holds Try.pinned (OpenSpec.ofChange fnExactValidTagWrong)

/-- 'laws.FnExactGlyphInRanges': WHATEVER THE INPUT: true; the input reads as it did. -/
def fnExactGlyphInRangesSpec : ChangeSpec := { name := "fnExactGlyphInRanges", fn := fun _ => fun
  | [d1, d2] => { results := [.lit (.bool true)], args := [d1, d2] }
  | _ => none }
def fnExactGlyphInRangesRow : OpenClaim := { program := "ytcpoglgldelhnaa", sum := "4de4ae85180e0f9485c36be1e9daeb5cdf6a40ef897f9d573f5c73342782d197", func := "loop.example/g00883/laws.FnExactGlyphInRanges", spec := "fnExactGlyphInRanges", apart := false }
def FnExactGlyphInRangesSaid : Prop := fnExactGlyphInRangesRow.holds Try.pinned (OpenSpec.ofChange fnExactGlyphInRangesSpec)

/-- ITS FALSE NEIGHBOUR: 'it returns false'. Refute it at one input. -/
def fnExactGlyphInRangesWrong : ChangeSpec := { name := "fnExactGlyphInRanges", fn := fun _ => fun
  | [d1, d2] => { results := [.lit (.bool false)], args := [d1, d2] }
  | _ => none }
def FnExactGlyphInRangesWrongFalsely : Prop := fnExactGlyphInRangesRow.holds Try.pinned (OpenSpec.ofChange fnExactGlyphInRangesWrong)

/-- 'laws.FnExactPeakFactor': WHATEVER THE INPUT: true; the input reads as it did. -/
def fnExactPeakFactorSpec : ChangeSpec := { name := "fnExactPeakFactor", fn := fun _ => fun
  | [d1, d2] => { results := [.lit (.bool true)], args := [d1, d2] }
  | _ => none }
def fnExactPeakFactorRow : OpenClaim := { program := "ytcpoglgldelhnaa", sum := "4de4ae85180e0f9485c36be1e9daeb5cdf6a40ef897f9d573f5c73342782d197", func := "loop.example/g00883/laws.FnExactPeakFactor", spec := "fnExactPeakFactor", apart := false }
def FnExactPeakFactorSaid : Prop := fnExactPeakFactorRow.holds Try.pinned (OpenSpec.ofChange fnExactPeakFactorSpec)

/-- ITS FALSE NEIGHBOUR: 'it returns false'. Refute it at one input. -/
def fnExactPeakFactorWrong : ChangeSpec := { name := "fnExactPeakFactor", fn := fun _ => fun
  | [d1, d2] => { results := [.lit (.bool false)], args := [d1, d2] }
  | _ => none }
def FnExactPeakFactorWrongFalsely : Prop := fnExactPeakFactorRow.holds Try.pinned (OpenSpec.ofChange fnExactPeakFactorWrong)

/-- 'laws.FnExactSlotAt': WHATEVER THE INPUT: true; the input reads as it did. -/
def fnExactSlotAtSpec : ChangeSpec := { name := "fnExactSlotAt", fn := fun _ => fun
  | [d1, d2] => { results := [.lit (.bool true)], args := [d1, d2] }
  | _ => none }
def fnExactSlotAtRow : OpenClaim := { program := "ytcpoglgldelhnaa", sum := "4de4ae85180e0f9485c36be1e9daeb5cdf6a40ef897f9d573f5c73342782d197", func := "loop.example/g00883/laws.FnExactSlotAt", spec := "fnExactSlotAt", unfollowed := true, recurses := true, apart := false }
def FnExactSlotAtSaid : Prop := fnExactSlotAtRow.holds Try.pinned (OpenSpec.ofChange fnExactSlotAtSpec)

/-- ITS FALSE NEIGHBOUR: 'it returns false'. Refute it at one input. -/
def fnExactSlotAtWrong : ChangeSpec := { name := "fnExactSlotAt", fn := fun _ => fun
  | [d1, d2] => { results := [.lit (.bool false)], args := [d1, d2] }
  | _ => none }
def FnExactSlotAtWrongFalsely : Prop := fnExactSlotAtRow.holds Try.pinned (OpenSpec.ofChange fnExactSlotAtWrong)

/-- 'laws.FnExactLineWidth': WHATEVER THE INPUT: true; the input reads as it did. -/
def fnExactLineWidthSpec : ChangeSpec := { name := "fnExactLineWidth", fn := fun _ => fun
  | [d] => { results := [.lit (.bool true)], args := [d] }
  | _ => none }
def fnExactLineWidthRow : OpenClaim := { program := "ytcpoglgldelhnaa", sum := "4de4ae85180e0f9485c36be1e9daeb5cdf6a40ef897f9d573f5c73342782d197", func := "loop.example/g00883/laws.FnExactLineWidth", spec := "fnExactLineWidth", unfollowed := true, recurses := true, apart := false }
def FnExactLineWidthSaid : Prop := fnExactLineWidthRow.holds Try.pinned (OpenSpec.ofChange fnExactLineWidthSpec)

/-- ITS FALSE NEIGHBOUR: 'it returns false'. Refute it at one input. -/
def fnExactLineWidthWrong : ChangeSpec := { name := "fnExactLineWidth", fn := fun _ => fun
  | [d] => { results := [.lit (.bool false)], args := [d] }
  | _ => none }
def FnExactLineWidthWrongFalsely : Prop := fnExactLineWidthRow.holds Try.pinned (OpenSpec.ofChange fnExactLineWidthWrong)

/- THE SECOND FORM. 'bulk': how many values and letters a reading holds, each counted each time it is reached (what is shared counts as often as it is met; a slice's spare places count too). A statement '..UptoSaid' is the law's where the arguments, and the package variables that the reading takes, are together of bulk at most 1048576: NARROWER than '..Said'. Prove '..Said' where nothing that the law and all that it calls make is longer than what came in: it says more and counts as full. Else prove '..UptoSaid'. A law counts once. -/
mutual
def uptoBulk {H : Type} : DataW H → Nat
  | .lit (.string bytes) => bytes.length + 1
  | .lit _ => 1
  | .nil => 1
  | .ptr d => uptoBulk d + 1
  | .slice elems spare => uptoBulkAll elems + uptoBulkAll spare + 1
  | .agg parts => uptoBulkAll parts + 1
  | .iface _ d => uptoBulk d + 1
  | .map entries => uptoBulkEntries entries + 1
  | .held _ => 1
def uptoBulkAll {H : Type} : List (DataW H) → Nat
  | [] => 0
  | d :: r => uptoBulk d + uptoBulkAll r
def uptoBulkEntries {H : Type} : List (Lit × DataW H) → Nat
  | [] => 0
  | x :: r => uptoBulkEntry x + uptoBulkEntries r
def uptoBulkEntry {H : Type} : Lit × DataW H → Nat
  | (.string bytes, d) => bytes.length + uptoBulk d + 1
  | (_, d) => uptoBulk d + 1
 end
def uptoSmall : (H : Type) → List (DataW H) → Bool := fun _ ds => decide (uptoBulkAll ds ≤ 1048576)
def OpenSpec.upto (s : _root_.Go.ChangeSpec) : _root_.Go.OpenSpec := { _root_.Go.OpenSpec.ofChange s with cond := some uptoSmall }

/-- 'laws.FnExactValidPeak', WHERE WHAT IT READS IS OF BULK AT MOST 1048576: true; the input reads as it did. -/
def fnExactValidPeakUptoRow : OpenClaim := { program := "ytcpoglgldelhnaa", sum := "4de4ae85180e0f9485c36be1e9daeb5cdf6a40ef897f9d573f5c73342782d197", func := "loop.example/g00883/laws.FnExactValidPeak", spec := "fnExactValidPeak", apart := false, narrowed := true }
def FnExactValidPeakUptoSaid : Prop := fnExactValidPeakUptoRow.holds Try.pinned (OpenSpec.upto fnExactValidPeakSpec)

/-- 'laws.FnExactValidTag', WHERE WHAT IT READS IS OF BULK AT MOST 1048576: true; the input reads as it did. -/
def fnExactValidTagUptoRow : OpenClaim := { program := "ytcpoglgldelhnaa", sum := "4de4ae85180e0f9485c36be1e9daeb5cdf6a40ef897f9d573f5c73342782d197", func := "loop.example/g00883/laws.FnExactValidTag", spec := "fnExactValidTag", apart := false, narrowed := true }
def FnExactValidTagUptoSaid : Prop := fnExactValidTagUptoRow.holds Try.pinned (OpenSpec.upto fnExactValidTagSpec)

/-- 'laws.FnExactGlyphInRanges', WHERE WHAT IT READS IS OF BULK AT MOST 1048576: true; the input reads as it did. -/
def fnExactGlyphInRangesUptoRow : OpenClaim := { program := "ytcpoglgldelhnaa", sum := "4de4ae85180e0f9485c36be1e9daeb5cdf6a40ef897f9d573f5c73342782d197", func := "loop.example/g00883/laws.FnExactGlyphInRanges", spec := "fnExactGlyphInRanges", apart := false, narrowed := true }
def FnExactGlyphInRangesUptoSaid : Prop := fnExactGlyphInRangesUptoRow.holds Try.pinned (OpenSpec.upto fnExactGlyphInRangesSpec)

/-- 'laws.FnExactPeakFactor', WHERE WHAT IT READS IS OF BULK AT MOST 1048576: true; the input reads as it did. -/
def fnExactPeakFactorUptoRow : OpenClaim := { program := "ytcpoglgldelhnaa", sum := "4de4ae85180e0f9485c36be1e9daeb5cdf6a40ef897f9d573f5c73342782d197", func := "loop.example/g00883/laws.FnExactPeakFactor", spec := "fnExactPeakFactor", apart := false, narrowed := true }
def FnExactPeakFactorUptoSaid : Prop := fnExactPeakFactorUptoRow.holds Try.pinned (OpenSpec.upto fnExactPeakFactorSpec)

/-- 'laws.FnExactSlotAt', WHERE WHAT IT READS IS OF BULK AT MOST 1048576: true; the input reads as it did. -/
def fnExactSlotAtUptoRow : OpenClaim := { program := "ytcpoglgldelhnaa", sum := "4de4ae85180e0f9485c36be1e9daeb5cdf6a40ef897f9d573f5c73342782d197", func := "loop.example/g00883/laws.FnExactSlotAt", spec := "fnExactSlotAt", unfollowed := true, recurses := true, apart := false, narrowed := true }
def FnExactSlotAtUptoSaid : Prop := fnExactSlotAtUptoRow.holds Try.pinned (OpenSpec.upto fnExactSlotAtSpec)

/-- 'laws.FnExactLineWidth', WHERE WHAT IT READS IS OF BULK AT MOST 1048576: true; the input reads as it did. -/
def fnExactLineWidthUptoRow : OpenClaim := { program := "ytcpoglgldelhnaa", sum := "4de4ae85180e0f9485c36be1e9daeb5cdf6a40ef897f9d573f5c73342782d197", func := "loop.example/g00883/laws.FnExactLineWidth", spec := "fnExactLineWidth", unfollowed := true, recurses := true, apart := false, narrowed := true }
def FnExactLineWidthUptoSaid : Prop := fnExactLineWidthUptoRow.holds Try.pinned (OpenSpec.upto fnExactLineWidthSpec)

end Rows
end Go.Proofs.Ytcpoglgldelhnaa
