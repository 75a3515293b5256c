/-
  No cell of these rows narrows 'for every input' (looked for: loops, veiled, ifaces, maps, wideKeys, modest, calm, conditions, laid).
  DERIVED. THE GIVEN ROWS OF THIS SEAT. 4 by the template 'for every input the law returns true; each argument reads behind the call as it read before'; 0 by the template 'total and deterministic' (their statements: YtfnnlipcclklnaaGreatTotals.lean).
  GIVEN WITH THE SEED: the statements are not yours to turn. If you find one false, say at which input.
  Laid BY PROGRAM, IN A SANDBOX (cutbox-rows.mjs): the forced cells as the released guide's own fill.sh prints them over the translation 369386683dea0200… (all of the seat's roots in one cut). By AI agents, Wed Nov 11 2026. No macro, syntax, notation, axiom, sorry.
-/
import Derived.Test.YtfnnlipcclklnaaGreatChecked
import GoSem.Claim
import GoSem.ClaimJoined
import GoSem.ClaimMapViews
import Derived.JoinedTies
import Derived.KernelRfl
namespace Go.Proofs.YtfnnlipcclklnaaGreat
/- THE CELL 'sum', in the pinned program and in every row, IS THE sha256 OF THE DUMP (.gsa) THAT YtfnnlipcclklnaaGreatProg.lean LOADS. Nothing in Lean hashes anything: it is a label: what it is worth is what the hold of that sum in a sandbox is worth. -/
noncomputable def Tryz.pinned : Pinned := { name := "ytfnnlipcclklnaagreat", sum := "369386683dea02002fc896483c21217a288acd1233666940fb40c5873be7aab1", checked := Tryz.checked }
namespace Rows
def none {H : Type} : Left H := { results := [], args := [] }

/-- 'laws.FnExactValidVariation': WHATEVER THE INPUT: true; the input reads as it did. -/
def fnExactValidVariationSpec : ChangeSpec := { name := "fnExactValidVariation", fn := fun _ => fun
  | [d1, d2] => { results := [.lit (.bool true)], args := [d1, d2] }
  | _ => none }
def fnExactValidVariationRow : OpenClaim := { program := "ytfnnlipcclklnaagreat", sum := "369386683dea02002fc896483c21217a288acd1233666940fb40c5873be7aab1", func := "loop.example/g00883/laws.FnExactValidVariation", spec := "fnExactValidVariation", unfollowed := true, recurses := true, apart := false }
def FnExactValidVariationSaid : Prop := fnExactValidVariationRow.holds Tryz.pinned (OpenSpec.ofChange fnExactValidVariationSpec)

/-- ITS FALSE NEIGHBOUR: 'it returns false'. Refute it at one input. -/
def fnExactValidVariationWrong : ChangeSpec := { name := "fnExactValidVariation", fn := fun _ => fun
  | [d1, d2] => { results := [.lit (.bool false)], args := [d1, d2] }
  | _ => none }
def FnExactValidVariationWrongFalsely : Prop := fnExactValidVariationRow.holds Tryz.pinned (OpenSpec.ofChange fnExactValidVariationWrong)

/-- 'laws.FnExactRenumberVariation': WHATEVER THE INPUT: true; the input reads as it did. -/
def fnExactRenumberVariationSpec : ChangeSpec := { name := "fnExactRenumberVariation", fn := fun _ => fun
  | [d1, d2] => { results := [.lit (.bool true)], args := [d1, d2] }
  | _ => none }
def fnExactRenumberVariationRow : OpenClaim := { program := "ytfnnlipcclklnaagreat", sum := "369386683dea02002fc896483c21217a288acd1233666940fb40c5873be7aab1", func := "loop.example/g00883/laws.FnExactRenumberVariation", spec := "fnExactRenumberVariation", unfollowed := true, recurses := true, apart := false }
def FnExactRenumberVariationSaid : Prop := fnExactRenumberVariationRow.holds Tryz.pinned (OpenSpec.ofChange fnExactRenumberVariationSpec)

/-- ITS FALSE NEIGHBOUR: 'it returns false'. Refute it at one input. -/
def fnExactRenumberVariationWrong : ChangeSpec := { name := "fnExactRenumberVariation", fn := fun _ => fun
  | [d1, d2] => { results := [.lit (.bool false)], args := [d1, d2] }
  | _ => none }
def FnExactRenumberVariationWrongFalsely : Prop := fnExactRenumberVariationRow.holds Tryz.pinned (OpenSpec.ofChange fnExactRenumberVariationWrong)

/-- 'laws.FnExactVaryGlyph': WHATEVER THE INPUT: true; the input reads as it did. -/
def fnExactVaryGlyphSpec : ChangeSpec := { name := "fnExactVaryGlyph", fn := fun _ => fun
  | [d1, d2, d3, d4] => { results := [.lit (.bool true)], args := [d1, d2, d3, d4] }
  | _ => none }
def fnExactVaryGlyphRow : OpenClaim := { program := "ytfnnlipcclklnaagreat", sum := "369386683dea02002fc896483c21217a288acd1233666940fb40c5873be7aab1", func := "loop.example/g00883/laws.FnExactVaryGlyph", spec := "fnExactVaryGlyph", unfollowed := true, recurses := true, apart := false }
def FnExactVaryGlyphSaid : Prop := fnExactVaryGlyphRow.holds Tryz.pinned (OpenSpec.ofChange fnExactVaryGlyphSpec)

/-- ITS FALSE NEIGHBOUR: 'it returns false'. Refute it at one input. -/
def fnExactVaryGlyphWrong : ChangeSpec := { name := "fnExactVaryGlyph", fn := fun _ => fun
  | [d1, d2, d3, d4] => { results := [.lit (.bool false)], args := [d1, d2, d3, d4] }
  | _ => none }
def FnExactVaryGlyphWrongFalsely : Prop := fnExactVaryGlyphRow.holds Tryz.pinned (OpenSpec.ofChange fnExactVaryGlyphWrong)

/-- 'laws.FnExactInstanceOf': WHATEVER THE INPUT: true; the input reads as it did. -/
def fnExactInstanceOfSpec : ChangeSpec := { name := "fnExactInstanceOf", fn := fun _ => fun
  | [d1, d2, d3] => { results := [.lit (.bool true)], args := [d1, d2, d3] }
  | _ => none }
def fnExactInstanceOfRow : OpenClaim := { program := "ytfnnlipcclklnaagreat", sum := "369386683dea02002fc896483c21217a288acd1233666940fb40c5873be7aab1", func := "loop.example/g00883/laws.FnExactInstanceOf", spec := "fnExactInstanceOf", unfollowed := true, recurses := true, apart := false }
def FnExactInstanceOfSaid : Prop := fnExactInstanceOfRow.holds Tryz.pinned (OpenSpec.ofChange fnExactInstanceOfSpec)

/-- ITS FALSE NEIGHBOUR: 'it returns false'. Refute it at one input. -/
def fnExactInstanceOfWrong : ChangeSpec := { name := "fnExactInstanceOf", fn := fun _ => fun
  | [d1, d2, d3] => { results := [.lit (.bool false)], args := [d1, d2, d3] }
  | _ => none }
def FnExactInstanceOfWrongFalsely : Prop := fnExactInstanceOfRow.holds Tryz.pinned (OpenSpec.ofChange fnExactInstanceOfWrong)

/- THE SECOND FORM. 'bulk': how many values and letters a reading holds, each counted each time it is reached (what is shared counts as often as it is met; a slice's spare places count too). A statement '..UptoSaid' is the law's where the arguments, and the package variables that the reading takes, are together of bulk at most 1048576: NARROWER than '..Said'. Prove '..Said' where nothing that the law and all that it calls make is longer than what came in: it says more and counts as full. Else prove '..UptoSaid'. A law counts once. -/
mutual
def uptoBulk {H : Type} : DataW H → Nat
  | .lit (.string bytes) => bytes.length + 1
  | .lit _ => 1
  | .nil => 1
  | .ptr d => uptoBulk d + 1
  | .slice elems spare => uptoBulkAll elems + uptoBulkAll spare + 1
  | .agg parts => uptoBulkAll parts + 1
  | .iface _ d => uptoBulk d + 1
  | .map entries => uptoBulkEntries entries + 1
  | .held _ => 1
def uptoBulkAll {H : Type} : List (DataW H) → Nat
  | [] => 0
  | d :: r => uptoBulk d + uptoBulkAll r
def uptoBulkEntries {H : Type} : List (Lit × DataW H) → Nat
  | [] => 0
  | x :: r => uptoBulkEntry x + uptoBulkEntries r
def uptoBulkEntry {H : Type} : Lit × DataW H → Nat
  | (.string bytes, d) => bytes.length + uptoBulk d + 1
  | (_, d) => uptoBulk d + 1
 end
def uptoSmall : (H : Type) → List (DataW H) → Bool := fun _ ds => decide (uptoBulkAll ds ≤ 1048576)
def OpenSpec.upto (s : _root_.Go.ChangeSpec) : _root_.Go.OpenSpec := { _root_.Go.OpenSpec.ofChange s with cond := some uptoSmall }

/-- 'laws.FnExactValidVariation', WHERE WHAT IT READS IS OF BULK AT MOST 1048576: true; the input reads as it did. -/
def fnExactValidVariationUptoRow : OpenClaim := { program := "ytfnnlipcclklnaagreat", sum := "369386683dea02002fc896483c21217a288acd1233666940fb40c5873be7aab1", func := "loop.example/g00883/laws.FnExactValidVariation", spec := "fnExactValidVariation", unfollowed := true, recurses := true, apart := false, narrowed := true }
def FnExactValidVariationUptoSaid : Prop := fnExactValidVariationUptoRow.holds Tryz.pinned (OpenSpec.upto fnExactValidVariationSpec)

/-- 'laws.FnExactRenumberVariation', WHERE WHAT IT READS IS OF BULK AT MOST 1048576: true; the input reads as it did. -/
def fnExactRenumberVariationUptoRow : OpenClaim := { program := "ytfnnlipcclklnaagreat", sum := "369386683dea02002fc896483c21217a288acd1233666940fb40c5873be7aab1", func := "loop.example/g00883/laws.FnExactRenumberVariation", spec := "fnExactRenumberVariation", unfollowed := true, recurses := true, apart := false, narrowed := true }
def FnExactRenumberVariationUptoSaid : Prop := fnExactRenumberVariationUptoRow.holds Tryz.pinned (OpenSpec.upto fnExactRenumberVariationSpec)

/-- 'laws.FnExactVaryGlyph', WHERE WHAT IT READS IS OF BULK AT MOST 1048576: true; the input reads as it did. -/
def fnExactVaryGlyphUptoRow : OpenClaim := { program := "ytfnnlipcclklnaagreat", sum := "369386683dea02002fc896483c21217a288acd1233666940fb40c5873be7aab1", func := "loop.example/g00883/laws.FnExactVaryGlyph", spec := "fnExactVaryGlyph", unfollowed := true, recurses := true, apart := false, narrowed := true }
def FnExactVaryGlyphUptoSaid : Prop := fnExactVaryGlyphUptoRow.holds Tryz.pinned (OpenSpec.upto fnExactVaryGlyphSpec)

/-- 'laws.FnExactInstanceOf', WHERE WHAT IT READS IS OF BULK AT MOST 1048576: true; the input reads as it did. -/
def fnExactInstanceOfUptoRow : OpenClaim := { program := "ytfnnlipcclklnaagreat", sum := "369386683dea02002fc896483c21217a288acd1233666940fb40c5873be7aab1", func := "loop.example/g00883/laws.FnExactInstanceOf", spec := "fnExactInstanceOf", unfollowed := true, recurses := true, apart := false, narrowed := true }
def FnExactInstanceOfUptoSaid : Prop := fnExactInstanceOfUptoRow.holds Tryz.pinned (OpenSpec.upto fnExactInstanceOfSpec)

end Rows
end Go.Proofs.YtfnnlipcclklnaaGreat
