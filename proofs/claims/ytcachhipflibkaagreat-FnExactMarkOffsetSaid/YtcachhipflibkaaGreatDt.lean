/- The data of the program as data of the machine, and how the laws' arguments read. Written by a program (wip/tools/gen_dt.py). -/
import Derived.Test.YtcachhipflibkaaGreatTT
import Derived.Test.YtcachhipflibkaaGreatVMLaw
import Derived.Test.YtcachhipflibkaaGreatTypes
import Derived.Test.YtcachhipflibkaaGreatRows
set_option linter.unusedSimpArgs false
set_option linter.unusedVariables false
namespace Go.Proofs.YtcachhipflibkaaGreat
open Go.RowKit
/-- a list as a datum -/
abbrev lstD {α : Type} (f : α → D) (xs : List α) : D := .lst (xs.map f)
def TPeak.D (x : TPeak) : D := .st [.int .i64 x.fStart, .int .i64 x.fTop, .int .i64 x.fEnd]
theorem TPeak.sizeD (x : TPeak) : x.D.size = 3 := rfl
theorem TPeak.flatD (x : TPeak) : x.D.flat = true := rfl
def TCharRange.D (x : TCharRange) : D := .st [.int .i64 x.fFrom, .int .i64 x.fCount, .int .i64 x.fGlyph]
theorem TCharRange.sizeD (x : TCharRange) : x.D.size = 3 := rfl
theorem TCharRange.flatD (x : TCharRange) : x.D.flat = true := rfl
def TSlot.D (x : TSlot) : D := .st [.int .i64 x.fGlyph, .int .i64 x.fX, .int .i64 x.fY, .int .i64 x.fAdvance, .int .i64 x.fFrom, .int .i64 x.fLen]
theorem TSlot.sizeD (x : TSlot) : x.D.size = 6 := rfl
theorem TSlot.flatD (x : TSlot) : x.D.flat = true := rfl
def TTable.D (x : TTable) : D := .st [.str x.fTag, .str x.fData]
theorem TTable.sizeD (x : TTable) : x.D.size = 2 := rfl
theorem TTable.flatD (x : TTable) : x.D.flat = true := rfl
def TAxisPoint.D (x : TAxisPoint) : D := .st [.int .i64 x.fFrom, .int .i64 x.fTo]
theorem TAxisPoint.sizeD (x : TAxisPoint) : x.D.size = 2 := rfl
theorem TAxisPoint.flatD (x : TAxisPoint) : x.D.flat = true := rfl
def TAxis.D (x : TAxis) : D := .st [.str x.fName, .int .i64 x.fMin, .int .i64 x.fDefault, .int .i64 x.fMax, .lst (x.fMap.map TAxisPoint.D)]
theorem TAxis.sizeD (x : TAxis) : x.D.size = 5 := rfl
def TPt.D (x : TPt) : D := .st [.int .i64 x.fX, .int .i64 x.fY]
theorem TPt.sizeD (x : TPt) : x.D.size = 2 := rfl
theorem TPt.flatD (x : TPt) : x.D.flat = true := rfl
def TGlyphDelta.D (x : TGlyphDelta) : D := .st [.int .i64 x.fGlyph, .lst (x.fKnots.map (D.int .i64)), .lst (x.fMoves.map TPt.D), .int .i64 x.fAdvance]
theorem TGlyphDelta.sizeD (x : TGlyphDelta) : x.D.size = 4 := rfl
def TMaster.D (x : TMaster) : D := .st [.lst (x.fPeaks.map TPeak.D), .lst (x.fDeltas.map TGlyphDelta.D)]
theorem TMaster.sizeD (x : TMaster) : x.D.size = 2 := rfl
def TVariation.D (x : TVariation) : D := .st [.lst (x.fAxes.map TAxis.D), .lst (x.fMasters.map TMaster.D)]
theorem TVariation.sizeD (x : TVariation) : x.D.size = 2 := rfl
def TKnot.D (x : TKnot) : D := .st [x.fAt.D, .bool x.fOn]
theorem TKnot.sizeD (x : TKnot) : x.D.size = 3 := rfl
theorem TKnot.flatD (x : TKnot) : x.D.flat = true := rfl
def TLoop.D (x : TLoop) : D := .st [.lst (x.fKnots.map TKnot.D)]
theorem TLoop.sizeD (x : TLoop) : x.D.size = 1 := rfl
def TOutline.D (x : TOutline) : D := .st [.lst (x.fLoops.map TLoop.D)]
theorem TOutline.sizeD (x : TOutline) : x.D.size = 1 := rfl
def TPart.D (x : TPart) : D := .st [.int .i64 x.fGlyph, x.fMove.D]
theorem TPart.sizeD (x : TPart) : x.D.size = 3 := rfl
theorem TPart.flatD (x : TPart) : x.D.flat = true := rfl
def TAnchor.D (x : TAnchor) : D := .st [.str x.fName, x.fAt.D]
theorem TAnchor.sizeD (x : TAnchor) : x.D.size = 3 := rfl
theorem TAnchor.flatD (x : TAnchor) : x.D.flat = true := rfl
def TGlyph.D (x : TGlyph) : D := .st [.str x.fName, .int .i64 x.fCode, .int .i64 x.fAdvance, x.fOutline.D, .lst (x.fParts.map TPart.D), .lst (x.fAnchors.map TAnchor.D), .str x.fHints]
theorem TGlyph.sizeD (x : TGlyph) : x.D.size = 7 := rfl
def TGlyphSet.D (x : TGlyphSet) : D := .st [.int .i64 x.fUnit, .lst (x.fGlyphs.map TGlyph.D)]
theorem TGlyphSet.sizeD (x : TGlyphSet) : x.D.size = 2 := rfl
def TRule.D (x : TRule) : D := .st [.lst (x.fBefore.map (lstD (D.int .i64))), .lst (x.fInput.map (lstD (D.int .i64))), .lst (x.fAfter.map (lstD (D.int .i64))), .lst (x.fOutput.map (D.int .i64))]
theorem TRule.sizeD (x : TRule) : x.D.size = 4 := rfl
def TLookup.D (x : TLookup) : D := .st [.str x.fName, .lst (x.fRules.map TRule.D)]
theorem TLookup.sizeD (x : TLookup) : x.D.size = 2 := rfl
def TKern.D (x : TKern) : D := .st [.lst (x.fLeft.map (D.int .i64)), .lst (x.fRight.map (D.int .i64)), .int .i64 x.fValue]
theorem TKern.sizeD (x : TKern) : x.D.size = 3 := rfl
def TMarkRule.D (x : TMarkRule) : D := .st [.lst (x.fMarks.map (D.int .i64)), .lst (x.fBases.map (D.int .i64)), .str x.fAnchor]
theorem TMarkRule.sizeD (x : TMarkRule) : x.D.size = 3 := rfl
def TJoin.D (x : TJoin) : D := .st [.int .i64 x.fGlyph, .int .i64 x.fKind, .int .i64 x.fInit, .int .i64 x.fMedi, .int .i64 x.fFina]
theorem TJoin.sizeD (x : TJoin) : x.D.size = 5 := rfl
theorem TJoin.flatD (x : TJoin) : x.D.flat = true := rfl
def TFeatures.D (x : TFeatures) : D := .st [.lst (x.fLookups.map TLookup.D), .lst (x.fKerns.map TKern.D), .lst (x.fMarks.map TMarkRule.D), .lst (x.fJoins.map TJoin.D)]
theorem TFeatures.sizeD (x : TFeatures) : x.D.size = 4 := rfl
def TItem.D (x : TItem) : D := .st [.int .i64 x.fGlyph, .int .i64 x.fFrom, .int .i64 x.fLen]
theorem TItem.sizeD (x : TItem) : x.D.size = 3 := rfl
theorem TItem.flatD (x : TItem) : x.D.flat = true := rfl

theorem rd2_list {P : Program} {T E : TypeId} {n : Nat} {α : Type} {f : α → D} (hT : P.underlying T = some (.slice E)) (hc : P.cellsOf T = 1) (hn : 0 < n) (hE : RdD P E n fun d => ∃ x, d = f x) : RdD P T 1 fun d => ∃ xs : List α, d = .lst (xs.map f) :=
  rd2_imp (rd2_slice hT hc hn hE) fun d ⟨xs, e, h⟩ => by
    subst e
    have : ∀ xs : List D, (∀ x ∈ xs, ∃ y, x = f y) → ∃ ys : List α, xs = ys.map f := by
      intro xs
      induction xs with
      | nil => intro _; exact ⟨[], rfl⟩
      | cons x xs ih =>
        intro h
        obtain ⟨y, hy⟩ := h x (by simp)
        obtain ⟨ys, hys⟩ := ih fun z hz => h z (by simp [hz])
        exact ⟨y :: ys, by simp [hy, hys]⟩
    obtain ⟨ys, hys⟩ := this xs h
    exact ⟨ys, by rw [hys]⟩
theorem own : ownKnob Tryz.prog.godebug = none := by kernel_rfl
theorem laidOut : laidOutB Tryz.prog = true := by kernel_rfl
theorem rdt_int : RdD Tryz.prog 2 1 fun d => ∃ x : Int, d = .int .i64 x := rd2_int Tryz.underlying2 (by kernel_rfl)
theorem rdt_goint : RdD Tryz.prog 3 1 fun d => ∃ x : Int, d = .int .i64 x := rd2_int Tryz.underlying3 (by kernel_rfl)
theorem rdt_bool : RdD Tryz.prog 4 1 fun d => ∃ x : Bool, d = .bool x := rd2_bool Tryz.underlying4 (by kernel_rfl)
theorem rdt_str : RdD Tryz.prog 9 1 fun d => ∃ x : ByteArray, d = .str x := rd2_str Tryz.underlying9 (by kernel_rfl)
theorem rdt_intS : RdD Tryz.prog 28 1 fun d => ∃ x : List Int, d = .lst (x.map (D.int .i64)) := rd2_list Tryz.underlying28 (by kernel_rfl) (by decide) rdt_int
theorem rdt_intSS : RdD Tryz.prog 86 1 fun d => ∃ x : List (List Int), d = .lst (x.map (lstD (D.int .i64))) := rd2_list Tryz.underlying86 (by kernel_rfl) (by decide) rdt_intS
theorem rdt_Pt : RdD Tryz.prog 289 2 fun d => ∃ x : TPt, d = x.D := rd2_imp (rd2_struct (ps := [⟨2, 1, _⟩, ⟨2, 1, _⟩]) Tryz.underlying289 (by kernel_rfl) ⟨rdt_int, rdt_int, trivial⟩ (by kernel_rfl) rfl)
  (by rintro d ⟨ds, rfl, h⟩; obtain ⟨_, _, rfl, ⟨x0, rfl⟩, ⟨_, _, rfl, ⟨x1, rfl⟩, rfl⟩⟩ := h; exact ⟨⟨x0, x1⟩, rfl⟩)
theorem rdt_Knot : RdD Tryz.prog 362 3 fun d => ∃ x : TKnot, d = x.D := rd2_imp (rd2_struct (ps := [⟨289, 2, _⟩, ⟨4, 1, _⟩]) Tryz.underlying362 (by kernel_rfl) ⟨rdt_Pt, rdt_bool, trivial⟩ (by kernel_rfl) rfl)
  (by rintro d ⟨ds, rfl, h⟩; obtain ⟨_, _, rfl, ⟨x0, rfl⟩, ⟨_, _, rfl, ⟨x1, rfl⟩, rfl⟩⟩ := h; exact ⟨⟨x0, x1⟩, rfl⟩)
theorem rdt_KnotS : RdD Tryz.prog 323 1 fun d => ∃ x : List TKnot, d = .lst (x.map TKnot.D) := rd2_list Tryz.underlying323 (by kernel_rfl) (by decide) rdt_Knot
theorem rdt_Loop : RdD Tryz.prog 325 1 fun d => ∃ x : TLoop, d = x.D := rd2_imp (rd2_struct (ps := [⟨323, 1, _⟩]) Tryz.underlying325 (by kernel_rfl) ⟨rdt_KnotS, trivial⟩ (by kernel_rfl) rfl)
  (by rintro d ⟨ds, rfl, h⟩; obtain ⟨_, _, rfl, ⟨x0, rfl⟩, rfl⟩ := h; exact ⟨⟨x0⟩, rfl⟩)
theorem rdt_LoopS : RdD Tryz.prog 178 1 fun d => ∃ x : List TLoop, d = .lst (x.map TLoop.D) := rd2_list Tryz.underlying178 (by kernel_rfl) (by decide) rdt_Loop
theorem rdt_Outline : RdD Tryz.prog 180 1 fun d => ∃ x : TOutline, d = x.D := rd2_imp (rd2_struct (ps := [⟨178, 1, _⟩]) Tryz.underlying180 (by kernel_rfl) ⟨rdt_LoopS, trivial⟩ (by kernel_rfl) rfl)
  (by rintro d ⟨ds, rfl, h⟩; obtain ⟨_, _, rfl, ⟨x0, rfl⟩, rfl⟩ := h; exact ⟨⟨x0⟩, rfl⟩)
theorem rdt_Part : RdD Tryz.prog 297 3 fun d => ∃ x : TPart, d = x.D := rd2_imp (rd2_struct (ps := [⟨2, 1, _⟩, ⟨289, 2, _⟩]) Tryz.underlying297 (by kernel_rfl) ⟨rdt_int, rdt_Pt, trivial⟩ (by kernel_rfl) rfl)
  (by rintro d ⟨ds, rfl, h⟩; obtain ⟨_, _, rfl, ⟨x0, rfl⟩, ⟨_, _, rfl, ⟨x1, rfl⟩, rfl⟩⟩ := h; exact ⟨⟨x0, x1⟩, rfl⟩)
theorem rdt_PartS : RdD Tryz.prog 181 1 fun d => ∃ x : List TPart, d = .lst (x.map TPart.D) := rd2_list Tryz.underlying181 (by kernel_rfl) (by decide) rdt_Part
theorem rdt_Anchor : RdD Tryz.prog 291 3 fun d => ∃ x : TAnchor, d = x.D := rd2_imp (rd2_struct (ps := [⟨9, 1, _⟩, ⟨289, 2, _⟩]) Tryz.underlying291 (by kernel_rfl) ⟨rdt_str, rdt_Pt, trivial⟩ (by kernel_rfl) rfl)
  (by rintro d ⟨ds, rfl, h⟩; obtain ⟨_, _, rfl, ⟨x0, rfl⟩, ⟨_, _, rfl, ⟨x1, rfl⟩, rfl⟩⟩ := h; exact ⟨⟨x0, x1⟩, rfl⟩)
theorem rdt_AnchorS : RdD Tryz.prog 182 1 fun d => ∃ x : List TAnchor, d = .lst (x.map TAnchor.D) := rd2_list Tryz.underlying182 (by kernel_rfl) (by decide) rdt_Anchor
theorem rdt_Glyph : RdD Tryz.prog 184 7 fun d => ∃ x : TGlyph, d = x.D := rd2_imp (rd2_struct (ps := [⟨9, 1, _⟩, ⟨2, 1, _⟩, ⟨2, 1, _⟩, ⟨180, 1, _⟩, ⟨181, 1, _⟩, ⟨182, 1, _⟩, ⟨9, 1, _⟩]) Tryz.underlying184 (by kernel_rfl) ⟨rdt_str, rdt_int, rdt_int, rdt_Outline, rdt_PartS, rdt_AnchorS, rdt_str, trivial⟩ (by kernel_rfl) rfl)
  (by rintro d ⟨ds, rfl, h⟩; obtain ⟨_, _, rfl, ⟨x0, rfl⟩, ⟨_, _, rfl, ⟨x1, rfl⟩, ⟨_, _, rfl, ⟨x2, rfl⟩, ⟨_, _, rfl, ⟨x3, rfl⟩, ⟨_, _, rfl, ⟨x4, rfl⟩, ⟨_, _, rfl, ⟨x5, rfl⟩, ⟨_, _, rfl, ⟨x6, rfl⟩, rfl⟩⟩⟩⟩⟩⟩⟩ := h; exact ⟨⟨x0, x1, x2, x3, x4, x5, x6⟩, rfl⟩)
theorem rdt_GlyphS : RdD Tryz.prog 45 1 fun d => ∃ x : List TGlyph, d = .lst (x.map TGlyph.D) := rd2_list Tryz.underlying45 (by kernel_rfl) (by decide) rdt_Glyph
theorem rdt_GlyphSet : RdD Tryz.prog 47 2 fun d => ∃ x : TGlyphSet, d = x.D := rd2_imp (rd2_struct (ps := [⟨2, 1, _⟩, ⟨45, 1, _⟩]) Tryz.underlying47 (by kernel_rfl) ⟨rdt_int, rdt_GlyphS, trivial⟩ (by kernel_rfl) rfl)
  (by rintro d ⟨ds, rfl, h⟩; obtain ⟨_, _, rfl, ⟨x0, rfl⟩, ⟨_, _, rfl, ⟨x1, rfl⟩, rfl⟩⟩ := h; exact ⟨⟨x0, x1⟩, rfl⟩)
theorem rdt_Rule : RdD Tryz.prog 277 4 fun d => ∃ x : TRule, d = x.D := rd2_imp (rd2_struct (ps := [⟨86, 1, _⟩, ⟨86, 1, _⟩, ⟨86, 1, _⟩, ⟨28, 1, _⟩]) Tryz.underlying277 (by kernel_rfl) ⟨rdt_intSS, rdt_intSS, rdt_intSS, rdt_intS, trivial⟩ (by kernel_rfl) rfl)
  (by rintro d ⟨ds, rfl, h⟩; obtain ⟨_, _, rfl, ⟨x0, rfl⟩, ⟨_, _, rfl, ⟨x1, rfl⟩, ⟨_, _, rfl, ⟨x2, rfl⟩, ⟨_, _, rfl, ⟨x3, rfl⟩, rfl⟩⟩⟩⟩ := h; exact ⟨⟨x0, x1, x2, x3⟩, rfl⟩)
theorem rdt_RuleS : RdD Tryz.prog 143 1 fun d => ∃ x : List TRule, d = .lst (x.map TRule.D) := rd2_list Tryz.underlying143 (by kernel_rfl) (by decide) rdt_Rule
theorem rdt_Lookup : RdD Tryz.prog 145 2 fun d => ∃ x : TLookup, d = x.D := rd2_imp (rd2_struct (ps := [⟨9, 1, _⟩, ⟨143, 1, _⟩]) Tryz.underlying145 (by kernel_rfl) ⟨rdt_str, rdt_RuleS, trivial⟩ (by kernel_rfl) rfl)
  (by rintro d ⟨ds, rfl, h⟩; obtain ⟨_, _, rfl, ⟨x0, rfl⟩, ⟨_, _, rfl, ⟨x1, rfl⟩, rfl⟩⟩ := h; exact ⟨⟨x0, x1⟩, rfl⟩)
theorem rdt_LookupS : RdD Tryz.prog 22 1 fun d => ∃ x : List TLookup, d = .lst (x.map TLookup.D) := rd2_list Tryz.underlying22 (by kernel_rfl) (by decide) rdt_Lookup
theorem rdt_Kern : RdD Tryz.prog 148 3 fun d => ∃ x : TKern, d = x.D := rd2_imp (rd2_struct (ps := [⟨28, 1, _⟩, ⟨28, 1, _⟩, ⟨2, 1, _⟩]) Tryz.underlying148 (by kernel_rfl) ⟨rdt_intS, rdt_intS, rdt_int, trivial⟩ (by kernel_rfl) rfl)
  (by rintro d ⟨ds, rfl, h⟩; obtain ⟨_, _, rfl, ⟨x0, rfl⟩, ⟨_, _, rfl, ⟨x1, rfl⟩, ⟨_, _, rfl, ⟨x2, rfl⟩, rfl⟩⟩⟩ := h; exact ⟨⟨x0, x1, x2⟩, rfl⟩)
theorem rdt_KernS : RdD Tryz.prog 23 1 fun d => ∃ x : List TKern, d = .lst (x.map TKern.D) := rd2_list Tryz.underlying23 (by kernel_rfl) (by decide) rdt_Kern
theorem rdt_MarkRule : RdD Tryz.prog 151 3 fun d => ∃ x : TMarkRule, d = x.D := rd2_imp (rd2_struct (ps := [⟨28, 1, _⟩, ⟨28, 1, _⟩, ⟨9, 1, _⟩]) Tryz.underlying151 (by kernel_rfl) ⟨rdt_intS, rdt_intS, rdt_str, trivial⟩ (by kernel_rfl) rfl)
  (by rintro d ⟨ds, rfl, h⟩; obtain ⟨_, _, rfl, ⟨x0, rfl⟩, ⟨_, _, rfl, ⟨x1, rfl⟩, ⟨_, _, rfl, ⟨x2, rfl⟩, rfl⟩⟩⟩ := h; exact ⟨⟨x0, x1, x2⟩, rfl⟩)
theorem rdt_MarkRuleS : RdD Tryz.prog 24 1 fun d => ∃ x : List TMarkRule, d = .lst (x.map TMarkRule.D) := rd2_list Tryz.underlying24 (by kernel_rfl) (by decide) rdt_MarkRule
theorem rdt_Join : RdD Tryz.prog 164 5 fun d => ∃ x : TJoin, d = x.D := rd2_imp (rd2_struct (ps := [⟨2, 1, _⟩, ⟨2, 1, _⟩, ⟨2, 1, _⟩, ⟨2, 1, _⟩, ⟨2, 1, _⟩]) Tryz.underlying164 (by kernel_rfl) ⟨rdt_int, rdt_int, rdt_int, rdt_int, rdt_int, trivial⟩ (by kernel_rfl) rfl)
  (by rintro d ⟨ds, rfl, h⟩; obtain ⟨_, _, rfl, ⟨x0, rfl⟩, ⟨_, _, rfl, ⟨x1, rfl⟩, ⟨_, _, rfl, ⟨x2, rfl⟩, ⟨_, _, rfl, ⟨x3, rfl⟩, ⟨_, _, rfl, ⟨x4, rfl⟩, rfl⟩⟩⟩⟩⟩ := h; exact ⟨⟨x0, x1, x2, x3, x4⟩, rfl⟩)
theorem rdt_JoinS : RdD Tryz.prog 25 1 fun d => ∃ x : List TJoin, d = .lst (x.map TJoin.D) := rd2_list Tryz.underlying25 (by kernel_rfl) (by decide) rdt_Join
theorem rdt_Features : RdD Tryz.prog 27 4 fun d => ∃ x : TFeatures, d = x.D := rd2_imp (rd2_struct (ps := [⟨22, 1, _⟩, ⟨23, 1, _⟩, ⟨24, 1, _⟩, ⟨25, 1, _⟩]) Tryz.underlying27 (by kernel_rfl) ⟨rdt_LookupS, rdt_KernS, rdt_MarkRuleS, rdt_JoinS, trivial⟩ (by kernel_rfl) rfl)
  (by rintro d ⟨ds, rfl, h⟩; obtain ⟨_, _, rfl, ⟨x0, rfl⟩, ⟨_, _, rfl, ⟨x1, rfl⟩, ⟨_, _, rfl, ⟨x2, rfl⟩, ⟨_, _, rfl, ⟨x3, rfl⟩, rfl⟩⟩⟩⟩ := h; exact ⟨⟨x0, x1, x2, x3⟩, rfl⟩)
theorem rdt_Item : RdD Tryz.prog 128 3 fun d => ∃ x : TItem, d = x.D := rd2_imp (rd2_struct (ps := [⟨2, 1, _⟩, ⟨2, 1, _⟩, ⟨2, 1, _⟩]) Tryz.underlying128 (by kernel_rfl) ⟨rdt_int, rdt_int, rdt_int, trivial⟩ (by kernel_rfl) rfl)
  (by rintro d ⟨ds, rfl, h⟩; obtain ⟨_, _, rfl, ⟨x0, rfl⟩, ⟨_, _, rfl, ⟨x1, rfl⟩, ⟨_, _, rfl, ⟨x2, rfl⟩, rfl⟩⟩⟩ := h; exact ⟨⟨x0, x1, x2⟩, rfl⟩)
theorem rdt_ItemS : RdD Tryz.prog 60 1 fun d => ∃ x : List TItem, d = .lst (x.map TItem.D) := rd2_list Tryz.underlying60 (by kernel_rfl) (by decide) rdt_Item

end Go.Proofs.YtcachhipflibkaaGreat
