/- The data of the program as data of the machine, and how the laws' arguments read. Written by a program (wip/tools/gen_dt.py). -/
import Derived.Test.YtdeafbgnbgihgaaTT
import Derived.Test.YtdeafbgnbgihgaaVMLaw
import Derived.Test.YtdeafbgnbgihgaaTypes
import Derived.Test.YtdeafbgnbgihgaaRows
set_option linter.unusedSimpArgs false
set_option linter.unusedVariables false
namespace Go.Proofs.Ytdeafbgnbgihgaa
open Go.RowKit
/-- a list as a datum -/
abbrev lstD {α : Type} (f : α → D) (xs : List α) : D := .lst (xs.map f)
def TPeak.D (x : TPeak) : D := .st [.int .i64 x.fStart, .int .i64 x.fTop, .int .i64 x.fEnd]
theorem TPeak.sizeD (x : TPeak) : x.D.size = 3 := rfl
theorem TPeak.flatD (x : TPeak) : x.D.flat = true := rfl
def TCharRange.D (x : TCharRange) : D := .st [.int .i64 x.fFrom, .int .i64 x.fCount, .int .i64 x.fGlyph]
theorem TCharRange.sizeD (x : TCharRange) : x.D.size = 3 := rfl
theorem TCharRange.flatD (x : TCharRange) : x.D.flat = true := rfl
def TSlot.D (x : TSlot) : D := .st [.int .i64 x.fGlyph, .int .i64 x.fX, .int .i64 x.fY, .int .i64 x.fAdvance, .int .i64 x.fFrom, .int .i64 x.fLen]
theorem TSlot.sizeD (x : TSlot) : x.D.size = 6 := rfl
theorem TSlot.flatD (x : TSlot) : x.D.flat = true := rfl
def TTable.D (x : TTable) : D := .st [.str x.fTag, .str x.fData]
theorem TTable.sizeD (x : TTable) : x.D.size = 2 := rfl
theorem TTable.flatD (x : TTable) : x.D.flat = true := rfl
def TAxisPoint.D (x : TAxisPoint) : D := .st [.int .i64 x.fFrom, .int .i64 x.fTo]
theorem TAxisPoint.sizeD (x : TAxisPoint) : x.D.size = 2 := rfl
theorem TAxisPoint.flatD (x : TAxisPoint) : x.D.flat = true := rfl
def TAxis.D (x : TAxis) : D := .st [.str x.fName, .int .i64 x.fMin, .int .i64 x.fDefault, .int .i64 x.fMax, .lst (x.fMap.map TAxisPoint.D)]
theorem TAxis.sizeD (x : TAxis) : x.D.size = 5 := rfl
def TPt.D (x : TPt) : D := .st [.int .i64 x.fX, .int .i64 x.fY]
theorem TPt.sizeD (x : TPt) : x.D.size = 2 := rfl
theorem TPt.flatD (x : TPt) : x.D.flat = true := rfl
def TGlyphDelta.D (x : TGlyphDelta) : D := .st [.int .i64 x.fGlyph, .lst (x.fKnots.map (D.int .i64)), .lst (x.fMoves.map TPt.D), .int .i64 x.fAdvance]
theorem TGlyphDelta.sizeD (x : TGlyphDelta) : x.D.size = 4 := rfl
def TMaster.D (x : TMaster) : D := .st [.lst (x.fPeaks.map TPeak.D), .lst (x.fDeltas.map TGlyphDelta.D)]
theorem TMaster.sizeD (x : TMaster) : x.D.size = 2 := rfl
def TVariation.D (x : TVariation) : D := .st [.lst (x.fAxes.map TAxis.D), .lst (x.fMasters.map TMaster.D)]
theorem TVariation.sizeD (x : TVariation) : x.D.size = 2 := rfl
def TKnot.D (x : TKnot) : D := .st [x.fAt.D, .bool x.fOn]
theorem TKnot.sizeD (x : TKnot) : x.D.size = 3 := rfl
theorem TKnot.flatD (x : TKnot) : x.D.flat = true := rfl
def TLoop.D (x : TLoop) : D := .st [.lst (x.fKnots.map TKnot.D)]
theorem TLoop.sizeD (x : TLoop) : x.D.size = 1 := rfl
def TOutline.D (x : TOutline) : D := .st [.lst (x.fLoops.map TLoop.D)]
theorem TOutline.sizeD (x : TOutline) : x.D.size = 1 := rfl
def TPart.D (x : TPart) : D := .st [.int .i64 x.fGlyph, x.fMove.D]
theorem TPart.sizeD (x : TPart) : x.D.size = 3 := rfl
theorem TPart.flatD (x : TPart) : x.D.flat = true := rfl
def TAnchor.D (x : TAnchor) : D := .st [.str x.fName, x.fAt.D]
theorem TAnchor.sizeD (x : TAnchor) : x.D.size = 3 := rfl
theorem TAnchor.flatD (x : TAnchor) : x.D.flat = true := rfl
def TGlyph.D (x : TGlyph) : D := .st [.str x.fName, .int .i64 x.fCode, .int .i64 x.fAdvance, x.fOutline.D, .lst (x.fParts.map TPart.D), .lst (x.fAnchors.map TAnchor.D), .str x.fHints]
theorem TGlyph.sizeD (x : TGlyph) : x.D.size = 7 := rfl
def TGlyphSet.D (x : TGlyphSet) : D := .st [.int .i64 x.fUnit, .lst (x.fGlyphs.map TGlyph.D)]
theorem TGlyphSet.sizeD (x : TGlyphSet) : x.D.size = 2 := rfl
def TRule.D (x : TRule) : D := .st [.lst (x.fBefore.map (lstD (D.int .i64))), .lst (x.fInput.map (lstD (D.int .i64))), .lst (x.fAfter.map (lstD (D.int .i64))), .lst (x.fOutput.map (D.int .i64))]
theorem TRule.sizeD (x : TRule) : x.D.size = 4 := rfl
def TLookup.D (x : TLookup) : D := .st [.str x.fName, .lst (x.fRules.map TRule.D)]
theorem TLookup.sizeD (x : TLookup) : x.D.size = 2 := rfl
def TKern.D (x : TKern) : D := .st [.lst (x.fLeft.map (D.int .i64)), .lst (x.fRight.map (D.int .i64)), .int .i64 x.fValue]
theorem TKern.sizeD (x : TKern) : x.D.size = 3 := rfl
def TMarkRule.D (x : TMarkRule) : D := .st [.lst (x.fMarks.map (D.int .i64)), .lst (x.fBases.map (D.int .i64)), .str x.fAnchor]
theorem TMarkRule.sizeD (x : TMarkRule) : x.D.size = 3 := rfl
def TJoin.D (x : TJoin) : D := .st [.int .i64 x.fGlyph, .int .i64 x.fKind, .int .i64 x.fInit, .int .i64 x.fMedi, .int .i64 x.fFina]
theorem TJoin.sizeD (x : TJoin) : x.D.size = 5 := rfl
theorem TJoin.flatD (x : TJoin) : x.D.flat = true := rfl
def TFeatures.D (x : TFeatures) : D := .st [.lst (x.fLookups.map TLookup.D), .lst (x.fKerns.map TKern.D), .lst (x.fMarks.map TMarkRule.D), .lst (x.fJoins.map TJoin.D)]
theorem TFeatures.sizeD (x : TFeatures) : x.D.size = 4 := rfl
def TItem.D (x : TItem) : D := .st [.int .i64 x.fGlyph, .int .i64 x.fFrom, .int .i64 x.fLen]
theorem TItem.sizeD (x : TItem) : x.D.size = 3 := rfl
theorem TItem.flatD (x : TItem) : x.D.flat = true := rfl

theorem rd2_list {P : Program} {T E : TypeId} {n : Nat} {α : Type} {f : α → D} (hT : P.underlying T = some (.slice E)) (hc : P.cellsOf T = 1) (hn : 0 < n) (hE : RdD P E n fun d => ∃ x, d = f x) : RdD P T 1 fun d => ∃ xs : List α, d = .lst (xs.map f) :=
  rd2_imp (rd2_slice hT hc hn hE) fun d ⟨xs, e, h⟩ => by
    subst e
    have : ∀ xs : List D, (∀ x ∈ xs, ∃ y, x = f y) → ∃ ys : List α, xs = ys.map f := by
      intro xs
      induction xs with
      | nil => intro _; exact ⟨[], rfl⟩
      | cons x xs ih =>
        intro h
        obtain ⟨y, hy⟩ := h x (by simp)
        obtain ⟨ys, hys⟩ := ih fun z hz => h z (by simp [hz])
        exact ⟨y :: ys, by simp [hy, hys]⟩
    obtain ⟨ys, hys⟩ := this xs h
    exact ⟨ys, by rw [hys]⟩
theorem own : ownKnob Try.prog.godebug = none := by kernel_rfl
theorem laidOut : laidOutB Try.prog = true := by kernel_rfl
theorem rdt_int : RdD Try.prog 2 1 fun d => ∃ x : Int, d = .int .i64 x := rd2_int Try.underlying2 (by kernel_rfl)
theorem rdt_goint : RdD Try.prog 3 1 fun d => ∃ x : Int, d = .int .i64 x := rd2_int Try.underlying3 (by kernel_rfl)
theorem rdt_bool : RdD Try.prog 4 1 fun d => ∃ x : Bool, d = .bool x := rd2_bool Try.underlying4 (by kernel_rfl)
theorem rdt_str : RdD Try.prog 9 1 fun d => ∃ x : ByteArray, d = .str x := rd2_str Try.underlying9 (by kernel_rfl)
theorem rdt_Table : RdD Try.prog 32 2 fun d => ∃ x : TTable, d = x.D := rd2_imp (rd2_struct (ps := [⟨9, 1, _⟩, ⟨9, 1, _⟩]) Try.underlying32 (by kernel_rfl) ⟨rdt_str, rdt_str, trivial⟩ (by kernel_rfl) rfl)
  (by rintro d ⟨ds, rfl, h⟩; obtain ⟨_, _, rfl, ⟨x0, rfl⟩, ⟨_, _, rfl, ⟨x1, rfl⟩, rfl⟩⟩ := h; exact ⟨⟨x0, x1⟩, rfl⟩)
theorem rdt_TableS : RdD Try.prog 22 1 fun d => ∃ x : List TTable, d = .lst (x.map TTable.D) := rd2_list Try.underlying22 (by kernel_rfl) (by decide) rdt_Table

end Go.Proofs.Ytdeafbgnbgihgaa
