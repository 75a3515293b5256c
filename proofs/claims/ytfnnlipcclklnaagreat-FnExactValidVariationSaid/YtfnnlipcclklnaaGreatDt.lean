/- The data of the program as data of the machine, and how the laws' arguments read. Written by a program (wip/tools/gen_dt.py). -/
import Derived.Test.YtfnnlipcclklnaaGreatTT
import Derived.Test.YtfnnlipcclklnaaGreatVMLaw
import Derived.Test.YtfnnlipcclklnaaGreatTypes
import Derived.Test.YtfnnlipcclklnaaGreatRows
set_option linter.unusedSimpArgs false
set_option linter.unusedVariables false
namespace Go.Proofs.YtfnnlipcclklnaaGreat
open Go.RowKit
/-- a list as a datum -/
abbrev lstD {α : Type} (f : α → D) (xs : List α) : D := .lst (xs.map f)
def TPeak.D (x : TPeak) : D := .st [.int .i64 x.fStart, .int .i64 x.fTop, .int .i64 x.fEnd]
theorem TPeak.sizeD (x : TPeak) : x.D.size = 3 := rfl
theorem TPeak.flatD (x : TPeak) : x.D.flat = true := rfl
def TCharRange.D (x : TCharRange) : D := .st [.int .i64 x.fFrom, .int .i64 x.fCount, .int .i64 x.fGlyph]
theorem TCharRange.sizeD (x : TCharRange) : x.D.size = 3 := rfl
theorem TCharRange.flatD (x : TCharRange) : x.D.flat = true := rfl
def TSlot.D (x : TSlot) : D := .st [.int .i64 x.fGlyph, .int .i64 x.fX, .int .i64 x.fY, .int .i64 x.fAdvance, .int .i64 x.fFrom, .int .i64 x.fLen]
theorem TSlot.sizeD (x : TSlot) : x.D.size = 6 := rfl
theorem TSlot.flatD (x : TSlot) : x.D.flat = true := rfl
def TTable.D (x : TTable) : D := .st [.str x.fTag, .str x.fData]
theorem TTable.sizeD (x : TTable) : x.D.size = 2 := rfl
theorem TTable.flatD (x : TTable) : x.D.flat = true := rfl
def TAxisPoint.D (x : TAxisPoint) : D := .st [.int .i64 x.fFrom, .int .i64 x.fTo]
theorem TAxisPoint.sizeD (x : TAxisPoint) : x.D.size = 2 := rfl
theorem TAxisPoint.flatD (x : TAxisPoint) : x.D.flat = true := rfl
def TAxis.D (x : TAxis) : D := .st [.str x.fName, .int .i64 x.fMin, .int .i64 x.fDefault, .int .i64 x.fMax, .lst (x.fMap.map TAxisPoint.D)]
theorem TAxis.sizeD (x : TAxis) : x.D.size = 5 := rfl
def TPt.D (x : TPt) : D := .st [.int .i64 x.fX, .int .i64 x.fY]
theorem TPt.sizeD (x : TPt) : x.D.size = 2 := rfl
theorem TPt.flatD (x : TPt) : x.D.flat = true := rfl
def TGlyphDelta.D (x : TGlyphDelta) : D := .st [.int .i64 x.fGlyph, .lst (x.fKnots.map (D.int .i64)), .lst (x.fMoves.map TPt.D), .int .i64 x.fAdvance]
theorem TGlyphDelta.sizeD (x : TGlyphDelta) : x.D.size = 4 := rfl
def TMaster.D (x : TMaster) : D := .st [.lst (x.fPeaks.map TPeak.D), .lst (x.fDeltas.map TGlyphDelta.D)]
theorem TMaster.sizeD (x : TMaster) : x.D.size = 2 := rfl
def TVariation.D (x : TVariation) : D := .st [.lst (x.fAxes.map TAxis.D), .lst (x.fMasters.map TMaster.D)]
theorem TVariation.sizeD (x : TVariation) : x.D.size = 2 := rfl
def TKnot.D (x : TKnot) : D := .st [x.fAt.D, .bool x.fOn]
theorem TKnot.sizeD (x : TKnot) : x.D.size = 3 := rfl
theorem TKnot.flatD (x : TKnot) : x.D.flat = true := rfl
def TLoop.D (x : TLoop) : D := .st [.lst (x.fKnots.map TKnot.D)]
theorem TLoop.sizeD (x : TLoop) : x.D.size = 1 := rfl
def TOutline.D (x : TOutline) : D := .st [.lst (x.fLoops.map TLoop.D)]
theorem TOutline.sizeD (x : TOutline) : x.D.size = 1 := rfl
def TPart.D (x : TPart) : D := .st [.int .i64 x.fGlyph, x.fMove.D]
theorem TPart.sizeD (x : TPart) : x.D.size = 3 := rfl
theorem TPart.flatD (x : TPart) : x.D.flat = true := rfl
def TAnchor.D (x : TAnchor) : D := .st [.str x.fName, x.fAt.D]
theorem TAnchor.sizeD (x : TAnchor) : x.D.size = 3 := rfl
theorem TAnchor.flatD (x : TAnchor) : x.D.flat = true := rfl
def TGlyph.D (x : TGlyph) : D := .st [.str x.fName, .int .i64 x.fCode, .int .i64 x.fAdvance, x.fOutline.D, .lst (x.fParts.map TPart.D), .lst (x.fAnchors.map TAnchor.D), .str x.fHints]
theorem TGlyph.sizeD (x : TGlyph) : x.D.size = 7 := rfl
def TGlyphSet.D (x : TGlyphSet) : D := .st [.int .i64 x.fUnit, .lst (x.fGlyphs.map TGlyph.D)]
theorem TGlyphSet.sizeD (x : TGlyphSet) : x.D.size = 2 := rfl
def TRule.D (x : TRule) : D := .st [.lst (x.fBefore.map (lstD (D.int .i64))), .lst (x.fInput.map (lstD (D.int .i64))), .lst (x.fAfter.map (lstD (D.int .i64))), .lst (x.fOutput.map (D.int .i64))]
theorem TRule.sizeD (x : TRule) : x.D.size = 4 := rfl
def TLookup.D (x : TLookup) : D := .st [.str x.fName, .lst (x.fRules.map TRule.D)]
theorem TLookup.sizeD (x : TLookup) : x.D.size = 2 := rfl
def TKern.D (x : TKern) : D := .st [.lst (x.fLeft.map (D.int .i64)), .lst (x.fRight.map (D.int .i64)), .int .i64 x.fValue]
theorem TKern.sizeD (x : TKern) : x.D.size = 3 := rfl
def TMarkRule.D (x : TMarkRule) : D := .st [.lst (x.fMarks.map (D.int .i64)), .lst (x.fBases.map (D.int .i64)), .str x.fAnchor]
theorem TMarkRule.sizeD (x : TMarkRule) : x.D.size = 3 := rfl
def TJoin.D (x : TJoin) : D := .st [.int .i64 x.fGlyph, .int .i64 x.fKind, .int .i64 x.fInit, .int .i64 x.fMedi, .int .i64 x.fFina]
theorem TJoin.sizeD (x : TJoin) : x.D.size = 5 := rfl
theorem TJoin.flatD (x : TJoin) : x.D.flat = true := rfl
def TFeatures.D (x : TFeatures) : D := .st [.lst (x.fLookups.map TLookup.D), .lst (x.fKerns.map TKern.D), .lst (x.fMarks.map TMarkRule.D), .lst (x.fJoins.map TJoin.D)]
theorem TFeatures.sizeD (x : TFeatures) : x.D.size = 4 := rfl
def TItem.D (x : TItem) : D := .st [.int .i64 x.fGlyph, .int .i64 x.fFrom, .int .i64 x.fLen]
theorem TItem.sizeD (x : TItem) : x.D.size = 3 := rfl
theorem TItem.flatD (x : TItem) : x.D.flat = true := rfl

theorem rd2_list {P : Program} {T E : TypeId} {n : Nat} {α : Type} {f : α → D} (hT : P.underlying T = some (.slice E)) (hc : P.cellsOf T = 1) (hn : 0 < n) (hE : RdD P E n fun d => ∃ x, d = f x) : RdD P T 1 fun d => ∃ xs : List α, d = .lst (xs.map f) :=
  rd2_imp (rd2_slice hT hc hn hE) fun d ⟨xs, e, h⟩ => by
    subst e
    have : ∀ xs : List D, (∀ x ∈ xs, ∃ y, x = f y) → ∃ ys : List α, xs = ys.map f := by
      intro xs
      induction xs with
      | nil => intro _; exact ⟨[], rfl⟩
      | cons x xs ih =>
        intro h
        obtain ⟨y, hy⟩ := h x (by simp)
        obtain ⟨ys, hys⟩ := ih fun z hz => h z (by simp [hz])
        exact ⟨y :: ys, by simp [hy, hys]⟩
    obtain ⟨ys, hys⟩ := this xs h
    exact ⟨ys, by rw [hys]⟩
theorem own : ownKnob Tryz.prog.godebug = none := by kernel_rfl
theorem laidOut : laidOutB Tryz.prog = true := by kernel_rfl
theorem rdt_int : RdD Tryz.prog 2 1 fun d => ∃ x : Int, d = .int .i64 x := rd2_int Tryz.underlying2 (by kernel_rfl)
theorem rdt_goint : RdD Tryz.prog 3 1 fun d => ∃ x : Int, d = .int .i64 x := rd2_int Tryz.underlying3 (by kernel_rfl)
theorem rdt_bool : RdD Tryz.prog 4 1 fun d => ∃ x : Bool, d = .bool x := rd2_bool Tryz.underlying4 (by kernel_rfl)
theorem rdt_str : RdD Tryz.prog 9 1 fun d => ∃ x : ByteArray, d = .str x := rd2_str Tryz.underlying9 (by kernel_rfl)
theorem rdt_intS : RdD Tryz.prog 44 1 fun d => ∃ x : List Int, d = .lst (x.map (D.int .i64)) := rd2_list Tryz.underlying44 (by kernel_rfl) (by decide) rdt_int
theorem rdt_Peak : RdD Tryz.prog 259 3 fun d => ∃ x : TPeak, d = x.D := rd2_imp (rd2_struct (ps := [⟨2, 1, _⟩, ⟨2, 1, _⟩, ⟨2, 1, _⟩]) Tryz.underlying259 (by kernel_rfl) ⟨rdt_int, rdt_int, rdt_int, trivial⟩ (by kernel_rfl) rfl)
  (by rintro d ⟨ds, rfl, h⟩; obtain ⟨_, _, rfl, ⟨x0, rfl⟩, ⟨_, _, rfl, ⟨x1, rfl⟩, ⟨_, _, rfl, ⟨x2, rfl⟩, rfl⟩⟩⟩ := h; exact ⟨⟨x0, x1, x2⟩, rfl⟩)
theorem rdt_PeakS : RdD Tryz.prog 121 1 fun d => ∃ x : List TPeak, d = .lst (x.map TPeak.D) := rd2_list Tryz.underlying121 (by kernel_rfl) (by decide) rdt_Peak
theorem rdt_AxisPoint : RdD Tryz.prog 257 2 fun d => ∃ x : TAxisPoint, d = x.D := rd2_imp (rd2_struct (ps := [⟨2, 1, _⟩, ⟨2, 1, _⟩]) Tryz.underlying257 (by kernel_rfl) ⟨rdt_int, rdt_int, trivial⟩ (by kernel_rfl) rfl)
  (by rintro d ⟨ds, rfl, h⟩; obtain ⟨_, _, rfl, ⟨x0, rfl⟩, ⟨_, _, rfl, ⟨x1, rfl⟩, rfl⟩⟩ := h; exact ⟨⟨x0, x1⟩, rfl⟩)
theorem rdt_AxisPointS : RdD Tryz.prog 117 1 fun d => ∃ x : List TAxisPoint, d = .lst (x.map TAxisPoint.D) := rd2_list Tryz.underlying117 (by kernel_rfl) (by decide) rdt_AxisPoint
theorem rdt_Axis : RdD Tryz.prog 119 5 fun d => ∃ x : TAxis, d = x.D := rd2_imp (rd2_struct (ps := [⟨9, 1, _⟩, ⟨2, 1, _⟩, ⟨2, 1, _⟩, ⟨2, 1, _⟩, ⟨117, 1, _⟩]) Tryz.underlying119 (by kernel_rfl) ⟨rdt_str, rdt_int, rdt_int, rdt_int, rdt_AxisPointS, trivial⟩ (by kernel_rfl) rfl)
  (by rintro d ⟨ds, rfl, h⟩; obtain ⟨_, _, rfl, ⟨x0, rfl⟩, ⟨_, _, rfl, ⟨x1, rfl⟩, ⟨_, _, rfl, ⟨x2, rfl⟩, ⟨_, _, rfl, ⟨x3, rfl⟩, ⟨_, _, rfl, ⟨x4, rfl⟩, rfl⟩⟩⟩⟩⟩ := h; exact ⟨⟨x0, x1, x2, x3, x4⟩, rfl⟩)
theorem rdt_AxisS : RdD Tryz.prog 22 1 fun d => ∃ x : List TAxis, d = .lst (x.map TAxis.D) := rd2_list Tryz.underlying22 (by kernel_rfl) (by decide) rdt_Axis
theorem rdt_Pt : RdD Tryz.prog 253 2 fun d => ∃ x : TPt, d = x.D := rd2_imp (rd2_struct (ps := [⟨2, 1, _⟩, ⟨2, 1, _⟩]) Tryz.underlying253 (by kernel_rfl) ⟨rdt_int, rdt_int, trivial⟩ (by kernel_rfl) rfl)
  (by rintro d ⟨ds, rfl, h⟩; obtain ⟨_, _, rfl, ⟨x0, rfl⟩, ⟨_, _, rfl, ⟨x1, rfl⟩, rfl⟩⟩ := h; exact ⟨⟨x0, x1⟩, rfl⟩)
theorem rdt_PtS : RdD Tryz.prog 248 1 fun d => ∃ x : List TPt, d = .lst (x.map TPt.D) := rd2_list Tryz.underlying248 (by kernel_rfl) (by decide) rdt_Pt
theorem rdt_GlyphDelta : RdD Tryz.prog 250 4 fun d => ∃ x : TGlyphDelta, d = x.D := rd2_imp (rd2_struct (ps := [⟨2, 1, _⟩, ⟨44, 1, _⟩, ⟨248, 1, _⟩, ⟨2, 1, _⟩]) Tryz.underlying250 (by kernel_rfl) ⟨rdt_int, rdt_intS, rdt_PtS, rdt_int, trivial⟩ (by kernel_rfl) rfl)
  (by rintro d ⟨ds, rfl, h⟩; obtain ⟨_, _, rfl, ⟨x0, rfl⟩, ⟨_, _, rfl, ⟨x1, rfl⟩, ⟨_, _, rfl, ⟨x2, rfl⟩, ⟨_, _, rfl, ⟨x3, rfl⟩, rfl⟩⟩⟩⟩ := h; exact ⟨⟨x0, x1, x2, x3⟩, rfl⟩)
theorem rdt_GlyphDeltaS : RdD Tryz.prog 122 1 fun d => ∃ x : List TGlyphDelta, d = .lst (x.map TGlyphDelta.D) := rd2_list Tryz.underlying122 (by kernel_rfl) (by decide) rdt_GlyphDelta
theorem rdt_Master : RdD Tryz.prog 124 2 fun d => ∃ x : TMaster, d = x.D := rd2_imp (rd2_struct (ps := [⟨121, 1, _⟩, ⟨122, 1, _⟩]) Tryz.underlying124 (by kernel_rfl) ⟨rdt_PeakS, rdt_GlyphDeltaS, trivial⟩ (by kernel_rfl) rfl)
  (by rintro d ⟨ds, rfl, h⟩; obtain ⟨_, _, rfl, ⟨x0, rfl⟩, ⟨_, _, rfl, ⟨x1, rfl⟩, rfl⟩⟩ := h; exact ⟨⟨x0, x1⟩, rfl⟩)
theorem rdt_MasterS : RdD Tryz.prog 23 1 fun d => ∃ x : List TMaster, d = .lst (x.map TMaster.D) := rd2_list Tryz.underlying23 (by kernel_rfl) (by decide) rdt_Master
theorem rdt_Variation : RdD Tryz.prog 25 2 fun d => ∃ x : TVariation, d = x.D := rd2_imp (rd2_struct (ps := [⟨22, 1, _⟩, ⟨23, 1, _⟩]) Tryz.underlying25 (by kernel_rfl) ⟨rdt_AxisS, rdt_MasterS, trivial⟩ (by kernel_rfl) rfl)
  (by rintro d ⟨ds, rfl, h⟩; obtain ⟨_, _, rfl, ⟨x0, rfl⟩, ⟨_, _, rfl, ⟨x1, rfl⟩, rfl⟩⟩ := h; exact ⟨⟨x0, x1⟩, rfl⟩)
theorem rdt_Knot : RdD Tryz.prog 321 3 fun d => ∃ x : TKnot, d = x.D := rd2_imp (rd2_struct (ps := [⟨253, 2, _⟩, ⟨4, 1, _⟩]) Tryz.underlying321 (by kernel_rfl) ⟨rdt_Pt, rdt_bool, trivial⟩ (by kernel_rfl) rfl)
  (by rintro d ⟨ds, rfl, h⟩; obtain ⟨_, _, rfl, ⟨x0, rfl⟩, ⟨_, _, rfl, ⟨x1, rfl⟩, rfl⟩⟩ := h; exact ⟨⟨x0, x1⟩, rfl⟩)
theorem rdt_KnotS : RdD Tryz.prog 294 1 fun d => ∃ x : List TKnot, d = .lst (x.map TKnot.D) := rd2_list Tryz.underlying294 (by kernel_rfl) (by decide) rdt_Knot
theorem rdt_Loop : RdD Tryz.prog 296 1 fun d => ∃ x : TLoop, d = x.D := rd2_imp (rd2_struct (ps := [⟨294, 1, _⟩]) Tryz.underlying296 (by kernel_rfl) ⟨rdt_KnotS, trivial⟩ (by kernel_rfl) rfl)
  (by rintro d ⟨ds, rfl, h⟩; obtain ⟨_, _, rfl, ⟨x0, rfl⟩, rfl⟩ := h; exact ⟨⟨x0⟩, rfl⟩)
theorem rdt_LoopS : RdD Tryz.prog 126 1 fun d => ∃ x : List TLoop, d = .lst (x.map TLoop.D) := rd2_list Tryz.underlying126 (by kernel_rfl) (by decide) rdt_Loop
theorem rdt_Outline : RdD Tryz.prog 128 1 fun d => ∃ x : TOutline, d = x.D := rd2_imp (rd2_struct (ps := [⟨126, 1, _⟩]) Tryz.underlying128 (by kernel_rfl) ⟨rdt_LoopS, trivial⟩ (by kernel_rfl) rfl)
  (by rintro d ⟨ds, rfl, h⟩; obtain ⟨_, _, rfl, ⟨x0, rfl⟩, rfl⟩ := h; exact ⟨⟨x0⟩, rfl⟩)
theorem rdt_Part : RdD Tryz.prog 264 3 fun d => ∃ x : TPart, d = x.D := rd2_imp (rd2_struct (ps := [⟨2, 1, _⟩, ⟨253, 2, _⟩]) Tryz.underlying264 (by kernel_rfl) ⟨rdt_int, rdt_Pt, trivial⟩ (by kernel_rfl) rfl)
  (by rintro d ⟨ds, rfl, h⟩; obtain ⟨_, _, rfl, ⟨x0, rfl⟩, ⟨_, _, rfl, ⟨x1, rfl⟩, rfl⟩⟩ := h; exact ⟨⟨x0, x1⟩, rfl⟩)
theorem rdt_PartS : RdD Tryz.prog 129 1 fun d => ∃ x : List TPart, d = .lst (x.map TPart.D) := rd2_list Tryz.underlying129 (by kernel_rfl) (by decide) rdt_Part
theorem rdt_Anchor : RdD Tryz.prog 255 3 fun d => ∃ x : TAnchor, d = x.D := rd2_imp (rd2_struct (ps := [⟨9, 1, _⟩, ⟨253, 2, _⟩]) Tryz.underlying255 (by kernel_rfl) ⟨rdt_str, rdt_Pt, trivial⟩ (by kernel_rfl) rfl)
  (by rintro d ⟨ds, rfl, h⟩; obtain ⟨_, _, rfl, ⟨x0, rfl⟩, ⟨_, _, rfl, ⟨x1, rfl⟩, rfl⟩⟩ := h; exact ⟨⟨x0, x1⟩, rfl⟩)
theorem rdt_AnchorS : RdD Tryz.prog 130 1 fun d => ∃ x : List TAnchor, d = .lst (x.map TAnchor.D) := rd2_list Tryz.underlying130 (by kernel_rfl) (by decide) rdt_Anchor
theorem rdt_Glyph : RdD Tryz.prog 132 7 fun d => ∃ x : TGlyph, d = x.D := rd2_imp (rd2_struct (ps := [⟨9, 1, _⟩, ⟨2, 1, _⟩, ⟨2, 1, _⟩, ⟨128, 1, _⟩, ⟨129, 1, _⟩, ⟨130, 1, _⟩, ⟨9, 1, _⟩]) Tryz.underlying132 (by kernel_rfl) ⟨rdt_str, rdt_int, rdt_int, rdt_Outline, rdt_PartS, rdt_AnchorS, rdt_str, trivial⟩ (by kernel_rfl) rfl)
  (by rintro d ⟨ds, rfl, h⟩; obtain ⟨_, _, rfl, ⟨x0, rfl⟩, ⟨_, _, rfl, ⟨x1, rfl⟩, ⟨_, _, rfl, ⟨x2, rfl⟩, ⟨_, _, rfl, ⟨x3, rfl⟩, ⟨_, _, rfl, ⟨x4, rfl⟩, ⟨_, _, rfl, ⟨x5, rfl⟩, ⟨_, _, rfl, ⟨x6, rfl⟩, rfl⟩⟩⟩⟩⟩⟩⟩ := h; exact ⟨⟨x0, x1, x2, x3, x4, x5, x6⟩, rfl⟩)
theorem rdt_GlyphS : RdD Tryz.prog 26 1 fun d => ∃ x : List TGlyph, d = .lst (x.map TGlyph.D) := rd2_list Tryz.underlying26 (by kernel_rfl) (by decide) rdt_Glyph
theorem rdt_GlyphSet : RdD Tryz.prog 28 2 fun d => ∃ x : TGlyphSet, d = x.D := rd2_imp (rd2_struct (ps := [⟨2, 1, _⟩, ⟨26, 1, _⟩]) Tryz.underlying28 (by kernel_rfl) ⟨rdt_int, rdt_GlyphS, trivial⟩ (by kernel_rfl) rfl)
  (by rintro d ⟨ds, rfl, h⟩; obtain ⟨_, _, rfl, ⟨x0, rfl⟩, ⟨_, _, rfl, ⟨x1, rfl⟩, rfl⟩⟩ := h; exact ⟨⟨x0, x1⟩, rfl⟩)

end Go.Proofs.YtfnnlipcclklnaaGreat
