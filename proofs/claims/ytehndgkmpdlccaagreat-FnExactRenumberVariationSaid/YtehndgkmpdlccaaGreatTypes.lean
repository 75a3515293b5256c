/- The data of the program, as Lean structures, and how each lies in memory. Written by a program (wip/tools/gen_types.py). -/
import Derived.Test.YtehndgkmpdlccaaGreatBase
set_option linter.unusedSimpArgs false
set_option linter.unusedVariables false
namespace Go.Proofs.YtehndgkmpdlccaaGreat
open Go.RowKit

structure TPeak where
  fStart : Int
  fTop : Int
  fEnd : Int
structure TCharRange where
  fFrom : Int
  fCount : Int
  fGlyph : Int
structure TSlot where
  fGlyph : Int
  fX : Int
  fY : Int
  fAdvance : Int
  fFrom : Int
  fLen : Int
structure TTable where
  fTag : ByteArray
  fData : ByteArray
structure TAxisPoint where
  fFrom : Int
  fTo : Int
structure TAxis where
  fName : ByteArray
  fMin : Int
  fDefault : Int
  fMax : Int
  fMap : List TAxisPoint
structure TPt where
  fX : Int
  fY : Int
structure TGlyphDelta where
  fGlyph : Int
  fKnots : List Int
  fMoves : List TPt
  fAdvance : Int
structure TMaster where
  fPeaks : List TPeak
  fDeltas : List TGlyphDelta
structure TVariation where
  fAxes : List TAxis
  fMasters : List TMaster
structure TKnot where
  fAt : TPt
  fOn : Bool
structure TLoop where
  fKnots : List TKnot
structure TOutline where
  fLoops : List TLoop
structure TPart where
  fGlyph : Int
  fMove : TPt
structure TAnchor where
  fName : ByteArray
  fAt : TPt
structure TGlyph where
  fName : ByteArray
  fCode : Int
  fAdvance : Int
  fOutline : TOutline
  fParts : List TPart
  fAnchors : List TAnchor
  fHints : ByteArray
structure TGlyphSet where
  fUnit : Int
  fGlyphs : List TGlyph
structure TRule where
  fBefore : List (List Int)
  fInput : List (List Int)
  fAfter : List (List Int)
  fOutput : List Int
structure TLookup where
  fName : ByteArray
  fRules : List TRule
structure TKern where
  fLeft : List Int
  fRight : List Int
  fValue : Int
structure TMarkRule where
  fMarks : List Int
  fBases : List Int
  fAnchor : ByteArray
structure TJoin where
  fGlyph : Int
  fKind : Int
  fInit : Int
  fMedi : Int
  fFina : Int
structure TFeatures where
  fLookups : List TLookup
  fKerns : List TKern
  fMarks : List TMarkRule
  fJoins : List TJoin
structure TItem where
  fGlyph : Int
  fFrom : Int
  fLen : Int
end Go.Proofs.YtehndgkmpdlccaaGreat
