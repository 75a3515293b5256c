/-
  No cell of these rows narrows 'for every input' (looked for: loops, veiled, ifaces, maps, wideKeys, modest, calm, conditions, laid).
  DERIVED. THE GIVEN ROWS OF THIS SEAT. 6 by the template 'for every input the law returns true; each argument reads behind the call as it read before'; 0 by the template 'total and deterministic' (their statements: YtbnopcnlbcgdlaaGreatTotals.lean).
  GIVEN WITH THE SEED: the statements are not yours to turn. If you find one false, say at which input.
  Laid BY PROGRAM, IN A SANDBOX (cutbox-rows.mjs): the forced cells as the released guide's own fill.sh prints them over the translation 102c7c9ca6349c80… (all of the seat's roots in one cut). By AI agents, Wed Nov 11 2026. No macro, syntax, notation, axiom, sorry.
-/
import Derived.Test.YtbnopcnlbcgdlaaGreatChecked
import GoSem.Claim
import GoSem.ClaimJoined
import GoSem.ClaimMapViews
import Derived.JoinedTies
import Derived.KernelRfl
namespace Go.Proofs.YtbnopcnlbcgdlaaGreat
/- THE CELL 'sum', in the pinned program and in every row, IS THE sha256 OF THE DUMP (.gsa) THAT YtbnopcnlbcgdlaaGreatProg.lean LOADS. Nothing in Lean hashes anything: it is a label: what it is worth is what the hold of that sum in a sandbox is worth. -/
noncomputable def Tryz.pinned : Pinned := { name := "ytbnopcnlbcgdlaagreat", sum := "102c7c9ca6349c801e5493bf1c3a163872c220809e19109695af3881cc615842", checked := Tryz.checked }
namespace Rows
def none {H : Type} : Left H := { results := [], args := [] }

/-- 'laws.FnExactJoinOf': WHATEVER THE INPUT: true; the input reads as it did. -/
def fnExactJoinOfSpec : ChangeSpec := { name := "fnExactJoinOf", fn := fun _ => fun
  | [d1, d2] => { results := [.lit (.bool true)], args := [d1, d2] }
  | _ => none }
def fnExactJoinOfRow : OpenClaim := { program := "ytbnopcnlbcgdlaagreat", sum := "102c7c9ca6349c801e5493bf1c3a163872c220809e19109695af3881cc615842", func := "loop.example/g00883/laws.FnExactJoinOf", spec := "fnExactJoinOf", unfollowed := true, recurses := true, apart := false }
def FnExactJoinOfSaid : Prop := fnExactJoinOfRow.holds Tryz.pinned (OpenSpec.ofChange fnExactJoinOfSpec)

/-- ITS FALSE NEIGHBOUR: 'it returns false'. Refute it at one input. -/
def fnExactJoinOfWrong : ChangeSpec := { name := "fnExactJoinOf", fn := fun _ => fun
  | [d1, d2] => { results := [.lit (.bool false)], args := [d1, d2] }
  | _ => none }
def FnExactJoinOfWrongFalsely : Prop := fnExactJoinOfRow.holds Tryz.pinned (OpenSpec.ofChange fnExactJoinOfWrong)

/-- 'laws.FnExactJoinsAfter': WHATEVER THE INPUT: true; the input reads as it did. -/
def fnExactJoinsAfterSpec : ChangeSpec := { name := "fnExactJoinsAfter", fn := fun _ => fun
  | [d1, d2] => { results := [.lit (.bool true)], args := [d1, d2] }
  | _ => none }
def fnExactJoinsAfterRow : OpenClaim := { program := "ytbnopcnlbcgdlaagreat", sum := "102c7c9ca6349c801e5493bf1c3a163872c220809e19109695af3881cc615842", func := "loop.example/g00883/laws.FnExactJoinsAfter", spec := "fnExactJoinsAfter", unfollowed := true, recurses := true, apart := false }
def FnExactJoinsAfterSaid : Prop := fnExactJoinsAfterRow.holds Tryz.pinned (OpenSpec.ofChange fnExactJoinsAfterSpec)

/-- ITS FALSE NEIGHBOUR: 'it returns false'. Refute it at one input. -/
def fnExactJoinsAfterWrong : ChangeSpec := { name := "fnExactJoinsAfter", fn := fun _ => fun
  | [d1, d2] => { results := [.lit (.bool false)], args := [d1, d2] }
  | _ => none }
def FnExactJoinsAfterWrongFalsely : Prop := fnExactJoinsAfterRow.holds Tryz.pinned (OpenSpec.ofChange fnExactJoinsAfterWrong)

/-- 'laws.FnExactJoinsBefore': WHATEVER THE INPUT: true; the input reads as it did. -/
def fnExactJoinsBeforeSpec : ChangeSpec := { name := "fnExactJoinsBefore", fn := fun _ => fun
  | [d1, d2] => { results := [.lit (.bool true)], args := [d1, d2] }
  | _ => none }
def fnExactJoinsBeforeRow : OpenClaim := { program := "ytbnopcnlbcgdlaagreat", sum := "102c7c9ca6349c801e5493bf1c3a163872c220809e19109695af3881cc615842", func := "loop.example/g00883/laws.FnExactJoinsBefore", spec := "fnExactJoinsBefore", unfollowed := true, recurses := true, apart := false }
def FnExactJoinsBeforeSaid : Prop := fnExactJoinsBeforeRow.holds Tryz.pinned (OpenSpec.ofChange fnExactJoinsBeforeSpec)

/-- ITS FALSE NEIGHBOUR: 'it returns false'. Refute it at one input. -/
def fnExactJoinsBeforeWrong : ChangeSpec := { name := "fnExactJoinsBefore", fn := fun _ => fun
  | [d1, d2] => { results := [.lit (.bool false)], args := [d1, d2] }
  | _ => none }
def FnExactJoinsBeforeWrongFalsely : Prop := fnExactJoinsBeforeRow.holds Tryz.pinned (OpenSpec.ofChange fnExactJoinsBeforeWrong)

/-- 'laws.FnExactKernFor': WHATEVER THE INPUT: true; the input reads as it did. -/
def fnExactKernForSpec : ChangeSpec := { name := "fnExactKernFor", fn := fun _ => fun
  | [d1, d2, d3] => { results := [.lit (.bool true)], args := [d1, d2, d3] }
  | _ => none }
def fnExactKernForRow : OpenClaim := { program := "ytbnopcnlbcgdlaagreat", sum := "102c7c9ca6349c801e5493bf1c3a163872c220809e19109695af3881cc615842", func := "loop.example/g00883/laws.FnExactKernFor", spec := "fnExactKernFor", unfollowed := true, recurses := true, apart := false }
def FnExactKernForSaid : Prop := fnExactKernForRow.holds Tryz.pinned (OpenSpec.ofChange fnExactKernForSpec)

/-- ITS FALSE NEIGHBOUR: 'it returns false'. Refute it at one input. -/
def fnExactKernForWrong : ChangeSpec := { name := "fnExactKernFor", fn := fun _ => fun
  | [d1, d2, d3] => { results := [.lit (.bool false)], args := [d1, d2, d3] }
  | _ => none }
def FnExactKernForWrongFalsely : Prop := fnExactKernForRow.holds Tryz.pinned (OpenSpec.ofChange fnExactKernForWrong)

/-- 'laws.FnExactMarkFor': WHATEVER THE INPUT: true; the input reads as it did. -/
def fnExactMarkForSpec : ChangeSpec := { name := "fnExactMarkFor", fn := fun _ => fun
  | [d1, d2, d3] => { results := [.lit (.bool true)], args := [d1, d2, d3] }
  | _ => none }
def fnExactMarkForRow : OpenClaim := { program := "ytbnopcnlbcgdlaagreat", sum := "102c7c9ca6349c801e5493bf1c3a163872c220809e19109695af3881cc615842", func := "loop.example/g00883/laws.FnExactMarkFor", spec := "fnExactMarkFor", unfollowed := true, recurses := true, apart := false }
def FnExactMarkForSaid : Prop := fnExactMarkForRow.holds Tryz.pinned (OpenSpec.ofChange fnExactMarkForSpec)

/-- ITS FALSE NEIGHBOUR: 'it returns false'. Refute it at one input. -/
def fnExactMarkForWrong : ChangeSpec := { name := "fnExactMarkFor", fn := fun _ => fun
  | [d1, d2, d3] => { results := [.lit (.bool false)], args := [d1, d2, d3] }
  | _ => none }
def FnExactMarkForWrongFalsely : Prop := fnExactMarkForRow.holds Tryz.pinned (OpenSpec.ofChange fnExactMarkForWrong)

/-- 'laws.FnExactFormGlyph': WHATEVER THE INPUT: true; the input reads as it did. -/
def fnExactFormGlyphSpec : ChangeSpec := { name := "fnExactFormGlyph", fn := fun _ => fun
  | [d1, d2, d3] => { results := [.lit (.bool true)], args := [d1, d2, d3] }
  | _ => none }
def fnExactFormGlyphRow : OpenClaim := { program := "ytbnopcnlbcgdlaagreat", sum := "102c7c9ca6349c801e5493bf1c3a163872c220809e19109695af3881cc615842", func := "loop.example/g00883/laws.FnExactFormGlyph", spec := "fnExactFormGlyph", unfollowed := true, recurses := true, apart := false }
def FnExactFormGlyphSaid : Prop := fnExactFormGlyphRow.holds Tryz.pinned (OpenSpec.ofChange fnExactFormGlyphSpec)

/-- ITS FALSE NEIGHBOUR: 'it returns false'. Refute it at one input. -/
def fnExactFormGlyphWrong : ChangeSpec := { name := "fnExactFormGlyph", fn := fun _ => fun
  | [d1, d2, d3] => { results := [.lit (.bool false)], args := [d1, d2, d3] }
  | _ => none }
def FnExactFormGlyphWrongFalsely : Prop := fnExactFormGlyphRow.holds Tryz.pinned (OpenSpec.ofChange fnExactFormGlyphWrong)

/- THE SECOND FORM. 'bulk': how many values and letters a reading holds, each counted each time it is reached (what is shared counts as often as it is met; a slice's spare places count too). A statement '..UptoSaid' is the law's where the arguments, and the package variables that the reading takes, are together of bulk at most 1048576: NARROWER than '..Said'. Prove '..Said' where nothing that the law and all that it calls make is longer than what came in: it says more and counts as full. Else prove '..UptoSaid'. A law counts once. -/
mutual
def uptoBulk {H : Type} : DataW H → Nat
  | .lit (.string bytes) => bytes.length + 1
  | .lit _ => 1
  | .nil => 1
  | .ptr d => uptoBulk d + 1
  | .slice elems spare => uptoBulkAll elems + uptoBulkAll spare + 1
  | .agg parts => uptoBulkAll parts + 1
  | .iface _ d => uptoBulk d + 1
  | .map entries => uptoBulkEntries entries + 1
  | .held _ => 1
def uptoBulkAll {H : Type} : List (DataW H) → Nat
  | [] => 0
  | d :: r => uptoBulk d + uptoBulkAll r
def uptoBulkEntries {H : Type} : List (Lit × DataW H) → Nat
  | [] => 0
  | x :: r => uptoBulkEntry x + uptoBulkEntries r
def uptoBulkEntry {H : Type} : Lit × DataW H → Nat
  | (.string bytes, d) => bytes.length + uptoBulk d + 1
  | (_, d) => uptoBulk d + 1
 end
def uptoSmall : (H : Type) → List (DataW H) → Bool := fun _ ds => decide (uptoBulkAll ds ≤ 1048576)
def OpenSpec.upto (s : _root_.Go.ChangeSpec) : _root_.Go.OpenSpec := { _root_.Go.OpenSpec.ofChange s with cond := some uptoSmall }

/-- 'laws.FnExactJoinOf', WHERE WHAT IT READS IS OF BULK AT MOST 1048576: true; the input reads as it did. -/
def fnExactJoinOfUptoRow : OpenClaim := { program := "ytbnopcnlbcgdlaagreat", sum := "102c7c9ca6349c801e5493bf1c3a163872c220809e19109695af3881cc615842", func := "loop.example/g00883/laws.FnExactJoinOf", spec := "fnExactJoinOf", unfollowed := true, recurses := true, apart := false, narrowed := true }
def FnExactJoinOfUptoSaid : Prop := fnExactJoinOfUptoRow.holds Tryz.pinned (OpenSpec.upto fnExactJoinOfSpec)

/-- 'laws.FnExactJoinsAfter', WHERE WHAT IT READS IS OF BULK AT MOST 1048576: true; the input reads as it did. -/
def fnExactJoinsAfterUptoRow : OpenClaim := { program := "ytbnopcnlbcgdlaagreat", sum := "102c7c9ca6349c801e5493bf1c3a163872c220809e19109695af3881cc615842", func := "loop.example/g00883/laws.FnExactJoinsAfter", spec := "fnExactJoinsAfter", unfollowed := true, recurses := true, apart := false, narrowed := true }
def FnExactJoinsAfterUptoSaid : Prop := fnExactJoinsAfterUptoRow.holds Tryz.pinned (OpenSpec.upto fnExactJoinsAfterSpec)

/-- 'laws.FnExactJoinsBefore', WHERE WHAT IT READS IS OF BULK AT MOST 1048576: true; the input reads as it did. -/
def fnExactJoinsBeforeUptoRow : OpenClaim := { program := "ytbnopcnlbcgdlaagreat", sum := "102c7c9ca6349c801e5493bf1c3a163872c220809e19109695af3881cc615842", func := "loop.example/g00883/laws.FnExactJoinsBefore", spec := "fnExactJoinsBefore", unfollowed := true, recurses := true, apart := false, narrowed := true }
def FnExactJoinsBeforeUptoSaid : Prop := fnExactJoinsBeforeUptoRow.holds Tryz.pinned (OpenSpec.upto fnExactJoinsBeforeSpec)

/-- 'laws.FnExactKernFor', WHERE WHAT IT READS IS OF BULK AT MOST 1048576: true; the input reads as it did. -/
def fnExactKernForUptoRow : OpenClaim := { program := "ytbnopcnlbcgdlaagreat", sum := "102c7c9ca6349c801e5493bf1c3a163872c220809e19109695af3881cc615842", func := "loop.example/g00883/laws.FnExactKernFor", spec := "fnExactKernFor", unfollowed := true, recurses := true, apart := false, narrowed := true }
def FnExactKernForUptoSaid : Prop := fnExactKernForUptoRow.holds Tryz.pinned (OpenSpec.upto fnExactKernForSpec)

/-- 'laws.FnExactMarkFor', WHERE WHAT IT READS IS OF BULK AT MOST 1048576: true; the input reads as it did. -/
def fnExactMarkForUptoRow : OpenClaim := { program := "ytbnopcnlbcgdlaagreat", sum := "102c7c9ca6349c801e5493bf1c3a163872c220809e19109695af3881cc615842", func := "loop.example/g00883/laws.FnExactMarkFor", spec := "fnExactMarkFor", unfollowed := true, recurses := true, apart := false, narrowed := true }
def FnExactMarkForUptoSaid : Prop := fnExactMarkForUptoRow.holds Tryz.pinned (OpenSpec.upto fnExactMarkForSpec)

/-- 'laws.FnExactFormGlyph', WHERE WHAT IT READS IS OF BULK AT MOST 1048576: true; the input reads as it did. -/
def fnExactFormGlyphUptoRow : OpenClaim := { program := "ytbnopcnlbcgdlaagreat", sum := "102c7c9ca6349c801e5493bf1c3a163872c220809e19109695af3881cc615842", func := "loop.example/g00883/laws.FnExactFormGlyph", spec := "fnExactFormGlyph", unfollowed := true, recurses := true, apart := false, narrowed := true }
def FnExactFormGlyphUptoSaid : Prop := fnExactFormGlyphUptoRow.holds Tryz.pinned (OpenSpec.upto fnExactFormGlyphSpec)

end Rows
end Go.Proofs.YtbnopcnlbcgdlaaGreat
