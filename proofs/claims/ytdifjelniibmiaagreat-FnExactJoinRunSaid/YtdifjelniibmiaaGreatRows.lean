/-
  No cell of these rows narrows 'for every input' (looked for: loops, veiled, ifaces, maps, wideKeys, modest, calm, conditions, laid).
  DERIVED. THE GIVEN ROWS OF THIS SEAT. 4 by the template 'for every input the law returns true; each argument reads behind the call as it read before'; 0 by the template 'total and deterministic' (their statements: YtdifjelniibmiaaGreatTotals.lean).
  GIVEN WITH THE SEED: the statements are not yours to turn. If you find one false, say at which input.
  Laid BY PROGRAM, IN A SANDBOX (cutbox-rows.mjs): the forced cells as the released guide's own fill.sh prints them over the translation ff07383f484fda2c… (all of the seat's roots in one cut). By AI agents, Wed Nov 11 2026. No macro, syntax, notation, axiom, sorry.
-/
import Derived.Test.YtdifjelniibmiaaGreatChecked
import GoSem.Claim
import GoSem.ClaimJoined
import GoSem.ClaimMapViews
import Derived.JoinedTies
import Derived.KernelRfl
namespace Go.Proofs.YtdifjelniibmiaaGreat
/- THE CELL 'sum', in the pinned program and in every row, IS THE sha256 OF THE DUMP (.gsa) THAT YtdifjelniibmiaaGreatProg.lean LOADS. Nothing in Lean hashes anything: it is a label: what it is worth is what the hold of that sum in a sandbox is worth. -/
noncomputable def Tryz.pinned : Pinned := { name := "ytdifjelniibmiaagreat", sum := "ff07383f484fda2c00823841e7ff6f48a9b8d40094d7f29891e7c50c58d6dadf", checked := Tryz.checked }
namespace Rows
def none {H : Type} : Left H := { results := [], args := [] }

/-- 'laws.FnExactFormsOf': WHATEVER THE INPUT: true; the input reads as it did. -/
def fnExactFormsOfSpec : ChangeSpec := { name := "fnExactFormsOf", fn := fun _ => fun
  | [d1, d2] => { results := [.lit (.bool true)], args := [d1, d2] }
  | _ => none }
def fnExactFormsOfRow : OpenClaim := { program := "ytdifjelniibmiaagreat", sum := "ff07383f484fda2c00823841e7ff6f48a9b8d40094d7f29891e7c50c58d6dadf", func := "loop.example/g00883/laws.FnExactFormsOf", spec := "fnExactFormsOf", unfollowed := true, recurses := true, apart := false }
def FnExactFormsOfSaid : Prop := fnExactFormsOfRow.holds Tryz.pinned (OpenSpec.ofChange fnExactFormsOfSpec)

/-- ITS FALSE NEIGHBOUR: 'it returns false'. Refute it at one input. -/
def fnExactFormsOfWrong : ChangeSpec := { name := "fnExactFormsOf", fn := fun _ => fun
  | [d1, d2] => { results := [.lit (.bool false)], args := [d1, d2] }
  | _ => none }
def FnExactFormsOfWrongFalsely : Prop := fnExactFormsOfRow.holds Tryz.pinned (OpenSpec.ofChange fnExactFormsOfWrong)

/-- 'laws.FnExactJoinRun': WHATEVER THE INPUT: true; the input reads as it did. -/
def fnExactJoinRunSpec : ChangeSpec := { name := "fnExactJoinRun", fn := fun _ => fun
  | [d1, d2] => { results := [.lit (.bool true)], args := [d1, d2] }
  | _ => none }
def fnExactJoinRunRow : OpenClaim := { program := "ytdifjelniibmiaagreat", sum := "ff07383f484fda2c00823841e7ff6f48a9b8d40094d7f29891e7c50c58d6dadf", func := "loop.example/g00883/laws.FnExactJoinRun", spec := "fnExactJoinRun", unfollowed := true, recurses := true, apart := false }
def FnExactJoinRunSaid : Prop := fnExactJoinRunRow.holds Tryz.pinned (OpenSpec.ofChange fnExactJoinRunSpec)

/-- ITS FALSE NEIGHBOUR: 'it returns false'. Refute it at one input. -/
def fnExactJoinRunWrong : ChangeSpec := { name := "fnExactJoinRun", fn := fun _ => fun
  | [d1, d2] => { results := [.lit (.bool false)], args := [d1, d2] }
  | _ => none }
def FnExactJoinRunWrongFalsely : Prop := fnExactJoinRunRow.holds Tryz.pinned (OpenSpec.ofChange fnExactJoinRunWrong)

/-- 'laws.FnExactReachableGlyphs': WHATEVER THE INPUT: true; the input reads as it did. -/
def fnExactReachableGlyphsSpec : ChangeSpec := { name := "fnExactReachableGlyphs", fn := fun _ => fun
  | [d1, d2] => { results := [.lit (.bool true)], args := [d1, d2] }
  | _ => none }
def fnExactReachableGlyphsRow : OpenClaim := { program := "ytdifjelniibmiaagreat", sum := "ff07383f484fda2c00823841e7ff6f48a9b8d40094d7f29891e7c50c58d6dadf", func := "loop.example/g00883/laws.FnExactReachableGlyphs", spec := "fnExactReachableGlyphs", unfollowed := true, recurses := true, apart := false }
def FnExactReachableGlyphsSaid : Prop := fnExactReachableGlyphsRow.holds Tryz.pinned (OpenSpec.ofChange fnExactReachableGlyphsSpec)

/-- ITS FALSE NEIGHBOUR: 'it returns false'. Refute it at one input. -/
def fnExactReachableGlyphsWrong : ChangeSpec := { name := "fnExactReachableGlyphs", fn := fun _ => fun
  | [d1, d2] => { results := [.lit (.bool false)], args := [d1, d2] }
  | _ => none }
def FnExactReachableGlyphsWrongFalsely : Prop := fnExactReachableGlyphsRow.holds Tryz.pinned (OpenSpec.ofChange fnExactReachableGlyphsWrong)

/-- 'laws.FnExactApplyLookups': WHATEVER THE INPUT: true; the input reads as it did. -/
def fnExactApplyLookupsSpec : ChangeSpec := { name := "fnExactApplyLookups", fn := fun _ => fun
  | [d1, d2] => { results := [.lit (.bool true)], args := [d1, d2] }
  | _ => none }
def fnExactApplyLookupsRow : OpenClaim := { program := "ytdifjelniibmiaagreat", sum := "ff07383f484fda2c00823841e7ff6f48a9b8d40094d7f29891e7c50c58d6dadf", func := "loop.example/g00883/laws.FnExactApplyLookups", spec := "fnExactApplyLookups", unfollowed := true, recurses := true, apart := false }
def FnExactApplyLookupsSaid : Prop := fnExactApplyLookupsRow.holds Tryz.pinned (OpenSpec.ofChange fnExactApplyLookupsSpec)

/-- ITS FALSE NEIGHBOUR: 'it returns false'. Refute it at one input. -/
def fnExactApplyLookupsWrong : ChangeSpec := { name := "fnExactApplyLookups", fn := fun _ => fun
  | [d1, d2] => { results := [.lit (.bool false)], args := [d1, d2] }
  | _ => none }
def FnExactApplyLookupsWrongFalsely : Prop := fnExactApplyLookupsRow.holds Tryz.pinned (OpenSpec.ofChange fnExactApplyLookupsWrong)

/- THE SECOND FORM. 'bulk': how many values and letters a reading holds, each counted each time it is reached (what is shared counts as often as it is met; a slice's spare places count too). A statement '..UptoSaid' is the law's where the arguments, and the package variables that the reading takes, are together of bulk at most 1048576: NARROWER than '..Said'. Prove '..Said' where nothing that the law and all that it calls make is longer than what came in: it says more and counts as full. Else prove '..UptoSaid'. A law counts once. -/
mutual
def uptoBulk {H : Type} : DataW H → Nat
  | .lit (.string bytes) => bytes.length + 1
  | .lit _ => 1
  | .nil => 1
  | .ptr d => uptoBulk d + 1
  | .slice elems spare => uptoBulkAll elems + uptoBulkAll spare + 1
  | .agg parts => uptoBulkAll parts + 1
  | .iface _ d => uptoBulk d + 1
  | .map entries => uptoBulkEntries entries + 1
  | .held _ => 1
def uptoBulkAll {H : Type} : List (DataW H) → Nat
  | [] => 0
  | d :: r => uptoBulk d + uptoBulkAll r
def uptoBulkEntries {H : Type} : List (Lit × DataW H) → Nat
  | [] => 0
  | x :: r => uptoBulkEntry x + uptoBulkEntries r
def uptoBulkEntry {H : Type} : Lit × DataW H → Nat
  | (.string bytes, d) => bytes.length + uptoBulk d + 1
  | (_, d) => uptoBulk d + 1
 end
def uptoSmall : (H : Type) → List (DataW H) → Bool := fun _ ds => decide (uptoBulkAll ds ≤ 1048576)
def OpenSpec.upto (s : _root_.Go.ChangeSpec) : _root_.Go.OpenSpec := { _root_.Go.OpenSpec.ofChange s with cond := some uptoSmall }

/-- 'laws.FnExactFormsOf', WHERE WHAT IT READS IS OF BULK AT MOST 1048576: true; the input reads as it did. -/
def fnExactFormsOfUptoRow : OpenClaim := { program := "ytdifjelniibmiaagreat", sum := "ff07383f484fda2c00823841e7ff6f48a9b8d40094d7f29891e7c50c58d6dadf", func := "loop.example/g00883/laws.FnExactFormsOf", spec := "fnExactFormsOf", unfollowed := true, recurses := true, apart := false, narrowed := true }
def FnExactFormsOfUptoSaid : Prop := fnExactFormsOfUptoRow.holds Tryz.pinned (OpenSpec.upto fnExactFormsOfSpec)

/-- 'laws.FnExactJoinRun', WHERE WHAT IT READS IS OF BULK AT MOST 1048576: true; the input reads as it did. -/
def fnExactJoinRunUptoRow : OpenClaim := { program := "ytdifjelniibmiaagreat", sum := "ff07383f484fda2c00823841e7ff6f48a9b8d40094d7f29891e7c50c58d6dadf", func := "loop.example/g00883/laws.FnExactJoinRun", spec := "fnExactJoinRun", unfollowed := true, recurses := true, apart := false, narrowed := true }
def FnExactJoinRunUptoSaid : Prop := fnExactJoinRunUptoRow.holds Tryz.pinned (OpenSpec.upto fnExactJoinRunSpec)

/-- 'laws.FnExactReachableGlyphs', WHERE WHAT IT READS IS OF BULK AT MOST 1048576: true; the input reads as it did. -/
def fnExactReachableGlyphsUptoRow : OpenClaim := { program := "ytdifjelniibmiaagreat", sum := "ff07383f484fda2c00823841e7ff6f48a9b8d40094d7f29891e7c50c58d6dadf", func := "loop.example/g00883/laws.FnExactReachableGlyphs", spec := "fnExactReachableGlyphs", unfollowed := true, recurses := true, apart := false, narrowed := true }
def FnExactReachableGlyphsUptoSaid : Prop := fnExactReachableGlyphsUptoRow.holds Tryz.pinned (OpenSpec.upto fnExactReachableGlyphsSpec)

/-- 'laws.FnExactApplyLookups', WHERE WHAT IT READS IS OF BULK AT MOST 1048576: true; the input reads as it did. -/
def fnExactApplyLookupsUptoRow : OpenClaim := { program := "ytdifjelniibmiaagreat", sum := "ff07383f484fda2c00823841e7ff6f48a9b8d40094d7f29891e7c50c58d6dadf", func := "loop.example/g00883/laws.FnExactApplyLookups", spec := "fnExactApplyLookups", unfollowed := true, recurses := true, apart := false, narrowed := true }
def FnExactApplyLookupsUptoSaid : Prop := fnExactApplyLookupsUptoRow.holds Tryz.pinned (OpenSpec.upto fnExactApplyLookupsSpec)

end Rows
end Go.Proofs.YtdifjelniibmiaaGreat
