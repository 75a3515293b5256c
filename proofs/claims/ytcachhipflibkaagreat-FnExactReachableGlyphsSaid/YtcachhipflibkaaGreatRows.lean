/-
  No cell of these rows narrows 'for every input' (looked for: loops, veiled, ifaces, maps, wideKeys, modest, calm, conditions, laid).
  DERIVED. THE GIVEN ROWS OF THIS SEAT. 5 by the template 'for every input the law returns true; each argument reads behind the call as it read before'; 0 by the template 'total and deterministic' (their statements: YtcachhipflibkaaGreatTotals.lean).
  GIVEN WITH THE SEED: the statements are not yours to turn. If you find one false, say at which input.
  Laid BY PROGRAM, IN A SANDBOX (cutbox-rows.mjs): the forced cells as the released guide's own fill.sh prints them over the translation dca04807c1c72825… (all of the seat's roots in one cut). By AI agents, Wed Nov 11 2026. No macro, syntax, notation, axiom, sorry.
-/
import Derived.Test.YtcachhipflibkaaGreatChecked
import GoSem.Claim
import GoSem.ClaimJoined
import GoSem.ClaimMapViews
import Derived.JoinedTies
import Derived.KernelRfl
namespace Go.Proofs.YtcachhipflibkaaGreat
/- THE CELL 'sum', in the pinned program and in every row, IS THE sha256 OF THE DUMP (.gsa) THAT YtcachhipflibkaaGreatProg.lean LOADS. Nothing in Lean hashes anything: it is a label: what it is worth is what the hold of that sum in a sandbox is worth. -/
noncomputable def Tryz.pinned : Pinned := { name := "ytcachhipflibkaagreat", sum := "dca04807c1c72825d1938f75136ce60825073c3bd67cc3139aa3e6f3c0812c1b", checked := Tryz.checked }
namespace Rows
def none {H : Type} : Left H := { results := [], args := [] }

/-- 'laws.FnExactReachableGlyphs': WHATEVER THE INPUT: true; the input reads as it did. -/
def fnExactReachableGlyphsSpec : ChangeSpec := { name := "fnExactReachableGlyphs", fn := fun _ => fun
  | [d1, d2] => { results := [.lit (.bool true)], args := [d1, d2] }
  | _ => none }
def fnExactReachableGlyphsRow : OpenClaim := { program := "ytcachhipflibkaagreat", sum := "dca04807c1c72825d1938f75136ce60825073c3bd67cc3139aa3e6f3c0812c1b", func := "loop.example/g00883/laws.FnExactReachableGlyphs", spec := "fnExactReachableGlyphs", unfollowed := true, recurses := true, apart := false }
def FnExactReachableGlyphsSaid : Prop := fnExactReachableGlyphsRow.holds Tryz.pinned (OpenSpec.ofChange fnExactReachableGlyphsSpec)

/-- ITS FALSE NEIGHBOUR: 'it returns false'. Refute it at one input. -/
def fnExactReachableGlyphsWrong : ChangeSpec := { name := "fnExactReachableGlyphs", fn := fun _ => fun
  | [d1, d2] => { results := [.lit (.bool false)], args := [d1, d2] }
  | _ => none }
def FnExactReachableGlyphsWrongFalsely : Prop := fnExactReachableGlyphsRow.holds Tryz.pinned (OpenSpec.ofChange fnExactReachableGlyphsWrong)

/-- 'laws.FnExactMarkOffset': WHATEVER THE INPUT: true; the input reads as it did. -/
def fnExactMarkOffsetSpec : ChangeSpec := { name := "fnExactMarkOffset", fn := fun _ => fun
  | [d1, d2, d3, d4] => { results := [.lit (.bool true)], args := [d1, d2, d3, d4] }
  | _ => none }
def fnExactMarkOffsetRow : OpenClaim := { program := "ytcachhipflibkaagreat", sum := "dca04807c1c72825d1938f75136ce60825073c3bd67cc3139aa3e6f3c0812c1b", func := "loop.example/g00883/laws.FnExactMarkOffset", spec := "fnExactMarkOffset", unfollowed := true, recurses := true, apart := false }
def FnExactMarkOffsetSaid : Prop := fnExactMarkOffsetRow.holds Tryz.pinned (OpenSpec.ofChange fnExactMarkOffsetSpec)

/-- ITS FALSE NEIGHBOUR: 'it returns false'. Refute it at one input. -/
def fnExactMarkOffsetWrong : ChangeSpec := { name := "fnExactMarkOffset", fn := fun _ => fun
  | [d1, d2, d3, d4] => { results := [.lit (.bool false)], args := [d1, d2, d3, d4] }
  | _ => none }
def FnExactMarkOffsetWrongFalsely : Prop := fnExactMarkOffsetRow.holds Tryz.pinned (OpenSpec.ofChange fnExactMarkOffsetWrong)

/-- 'laws.FnExactPlaceRun': WHATEVER THE INPUT: true; the input reads as it did. -/
def fnExactPlaceRunSpec : ChangeSpec := { name := "fnExactPlaceRun", fn := fun _ => fun
  | [d1, d2, d3] => { results := [.lit (.bool true)], args := [d1, d2, d3] }
  | _ => none }
def fnExactPlaceRunRow : OpenClaim := { program := "ytcachhipflibkaagreat", sum := "dca04807c1c72825d1938f75136ce60825073c3bd67cc3139aa3e6f3c0812c1b", func := "loop.example/g00883/laws.FnExactPlaceRun", spec := "fnExactPlaceRun", unfollowed := true, recurses := true, apart := false }
def FnExactPlaceRunSaid : Prop := fnExactPlaceRunRow.holds Tryz.pinned (OpenSpec.ofChange fnExactPlaceRunSpec)

/-- ITS FALSE NEIGHBOUR: 'it returns false'. Refute it at one input. -/
def fnExactPlaceRunWrong : ChangeSpec := { name := "fnExactPlaceRun", fn := fun _ => fun
  | [d1, d2, d3] => { results := [.lit (.bool false)], args := [d1, d2, d3] }
  | _ => none }
def FnExactPlaceRunWrongFalsely : Prop := fnExactPlaceRunRow.holds Tryz.pinned (OpenSpec.ofChange fnExactPlaceRunWrong)

/-- 'laws.FnExactShapeText': WHATEVER THE INPUT: true; the input reads as it did. -/
def fnExactShapeTextSpec : ChangeSpec := { name := "fnExactShapeText", fn := fun _ => fun
  | [d1, d2, d3] => { results := [.lit (.bool true)], args := [d1, d2, d3] }
  | _ => none }
def fnExactShapeTextRow : OpenClaim := { program := "ytcachhipflibkaagreat", sum := "dca04807c1c72825d1938f75136ce60825073c3bd67cc3139aa3e6f3c0812c1b", func := "loop.example/g00883/laws.FnExactShapeText", spec := "fnExactShapeText", unfollowed := true, recurses := true, apart := false }
def FnExactShapeTextSaid : Prop := fnExactShapeTextRow.holds Tryz.pinned (OpenSpec.ofChange fnExactShapeTextSpec)

/-- ITS FALSE NEIGHBOUR: 'it returns false'. Refute it at one input. -/
def fnExactShapeTextWrong : ChangeSpec := { name := "fnExactShapeText", fn := fun _ => fun
  | [d1, d2, d3] => { results := [.lit (.bool false)], args := [d1, d2, d3] }
  | _ => none }
def FnExactShapeTextWrongFalsely : Prop := fnExactShapeTextRow.holds Tryz.pinned (OpenSpec.ofChange fnExactShapeTextWrong)

/-- 'laws.FnExactShapeRun': WHATEVER THE INPUT: true; the input reads as it did. -/
def fnExactShapeRunSpec : ChangeSpec := { name := "fnExactShapeRun", fn := fun _ => fun
  | [d1, d2, d3] => { results := [.lit (.bool true)], args := [d1, d2, d3] }
  | _ => none }
def fnExactShapeRunRow : OpenClaim := { program := "ytcachhipflibkaagreat", sum := "dca04807c1c72825d1938f75136ce60825073c3bd67cc3139aa3e6f3c0812c1b", func := "loop.example/g00883/laws.FnExactShapeRun", spec := "fnExactShapeRun", unfollowed := true, recurses := true, apart := false }
def FnExactShapeRunSaid : Prop := fnExactShapeRunRow.holds Tryz.pinned (OpenSpec.ofChange fnExactShapeRunSpec)

/-- ITS FALSE NEIGHBOUR: 'it returns false'. Refute it at one input. -/
def fnExactShapeRunWrong : ChangeSpec := { name := "fnExactShapeRun", fn := fun _ => fun
  | [d1, d2, d3] => { results := [.lit (.bool false)], args := [d1, d2, d3] }
  | _ => none }
def FnExactShapeRunWrongFalsely : Prop := fnExactShapeRunRow.holds Tryz.pinned (OpenSpec.ofChange fnExactShapeRunWrong)

/- THE SECOND FORM. 'bulk': how many values and letters a reading holds, each counted each time it is reached (what is shared counts as often as it is met; a slice's spare places count too). A statement '..UptoSaid' is the law's where the arguments, and the package variables that the reading takes, are together of bulk at most 1048576: NARROWER than '..Said'. Prove '..Said' where nothing that the law and all that it calls make is longer than what came in: it says more and counts as full. Else prove '..UptoSaid'. A law counts once. -/
mutual
def uptoBulk {H : Type} : DataW H → Nat
  | .lit (.string bytes) => bytes.length + 1
  | .lit _ => 1
  | .nil => 1
  | .ptr d => uptoBulk d + 1
  | .slice elems spare => uptoBulkAll elems + uptoBulkAll spare + 1
  | .agg parts => uptoBulkAll parts + 1
  | .iface _ d => uptoBulk d + 1
  | .map entries => uptoBulkEntries entries + 1
  | .held _ => 1
def uptoBulkAll {H : Type} : List (DataW H) → Nat
  | [] => 0
  | d :: r => uptoBulk d + uptoBulkAll r
def uptoBulkEntries {H : Type} : List (Lit × DataW H) → Nat
  | [] => 0
  | x :: r => uptoBulkEntry x + uptoBulkEntries r
def uptoBulkEntry {H : Type} : Lit × DataW H → Nat
  | (.string bytes, d) => bytes.length + uptoBulk d + 1
  | (_, d) => uptoBulk d + 1
 end
def uptoSmall : (H : Type) → List (DataW H) → Bool := fun _ ds => decide (uptoBulkAll ds ≤ 1048576)
def OpenSpec.upto (s : _root_.Go.ChangeSpec) : _root_.Go.OpenSpec := { _root_.Go.OpenSpec.ofChange s with cond := some uptoSmall }

/-- 'laws.FnExactReachableGlyphs', WHERE WHAT IT READS IS OF BULK AT MOST 1048576: true; the input reads as it did. -/
def fnExactReachableGlyphsUptoRow : OpenClaim := { program := "ytcachhipflibkaagreat", sum := "dca04807c1c72825d1938f75136ce60825073c3bd67cc3139aa3e6f3c0812c1b", func := "loop.example/g00883/laws.FnExactReachableGlyphs", spec := "fnExactReachableGlyphs", unfollowed := true, recurses := true, apart := false, narrowed := true }
def FnExactReachableGlyphsUptoSaid : Prop := fnExactReachableGlyphsUptoRow.holds Tryz.pinned (OpenSpec.upto fnExactReachableGlyphsSpec)

/-- 'laws.FnExactMarkOffset', WHERE WHAT IT READS IS OF BULK AT MOST 1048576: true; the input reads as it did. -/
def fnExactMarkOffsetUptoRow : OpenClaim := { program := "ytcachhipflibkaagreat", sum := "dca04807c1c72825d1938f75136ce60825073c3bd67cc3139aa3e6f3c0812c1b", func := "loop.example/g00883/laws.FnExactMarkOffset", spec := "fnExactMarkOffset", unfollowed := true, recurses := true, apart := false, narrowed := true }
def FnExactMarkOffsetUptoSaid : Prop := fnExactMarkOffsetUptoRow.holds Tryz.pinned (OpenSpec.upto fnExactMarkOffsetSpec)

/-- 'laws.FnExactPlaceRun', WHERE WHAT IT READS IS OF BULK AT MOST 1048576: true; the input reads as it did. -/
def fnExactPlaceRunUptoRow : OpenClaim := { program := "ytcachhipflibkaagreat", sum := "dca04807c1c72825d1938f75136ce60825073c3bd67cc3139aa3e6f3c0812c1b", func := "loop.example/g00883/laws.FnExactPlaceRun", spec := "fnExactPlaceRun", unfollowed := true, recurses := true, apart := false, narrowed := true }
def FnExactPlaceRunUptoSaid : Prop := fnExactPlaceRunUptoRow.holds Tryz.pinned (OpenSpec.upto fnExactPlaceRunSpec)

/-- 'laws.FnExactShapeText', WHERE WHAT IT READS IS OF BULK AT MOST 1048576: true; the input reads as it did. -/
def fnExactShapeTextUptoRow : OpenClaim := { program := "ytcachhipflibkaagreat", sum := "dca04807c1c72825d1938f75136ce60825073c3bd67cc3139aa3e6f3c0812c1b", func := "loop.example/g00883/laws.FnExactShapeText", spec := "fnExactShapeText", unfollowed := true, recurses := true, apart := false, narrowed := true }
def FnExactShapeTextUptoSaid : Prop := fnExactShapeTextUptoRow.holds Tryz.pinned (OpenSpec.upto fnExactShapeTextSpec)

/-- 'laws.FnExactShapeRun', WHERE WHAT IT READS IS OF BULK AT MOST 1048576: true; the input reads as it did. -/
def fnExactShapeRunUptoRow : OpenClaim := { program := "ytcachhipflibkaagreat", sum := "dca04807c1c72825d1938f75136ce60825073c3bd67cc3139aa3e6f3c0812c1b", func := "loop.example/g00883/laws.FnExactShapeRun", spec := "fnExactShapeRun", unfollowed := true, recurses := true, apart := false, narrowed := true }
def FnExactShapeRunUptoSaid : Prop := fnExactShapeRunUptoRow.holds Tryz.pinned (OpenSpec.upto fnExactShapeRunSpec)

end Rows
end Go.Proofs.YtcachhipflibkaaGreat
