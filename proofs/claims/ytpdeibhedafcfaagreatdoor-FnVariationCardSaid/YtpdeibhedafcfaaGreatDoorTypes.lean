/- The data of the program, as Lean structures, and how each lies in memory. Written by a program (wip/tools/gen_types.py). -/
import Derived.Test.YtpdeibhedafcfaaGreatDoorLawL
set_option linter.unusedSimpArgs false
set_option linter.unusedVariables false
namespace Go.Proofs.YtpdeibhedafcfaaGreatDoor
open Go.RowKit

structure TPeak where
 fStart : Int
 fTop : Int
 fEnd : Int
structure TAxisPoint where
 fFrom : Int
 fTo : Int
structure TAxis where
 fName : ByteArray
 fMin : Int
 fDefault : Int
 fMax : Int
 fMap : List TAxisPoint
structure TPt where
 fX : Int
 fY : Int
structure TGlyphDelta where
 fGlyph : Int
 fKnots : List Int
 fMoves : List TPt
 fAdvance : Int
structure TMaster where
 fPeaks : List TPeak
 fDeltas : List TGlyphDelta
structure TVariation where
 fAxes : List TAxis
 fMasters : List TMaster
structure TKnot where
 fAt : TPt
 fOn : Bool
structure TLoop where
 fKnots : List TKnot
structure TOutline where
 fLoops : List TLoop
structure TPart where
 fGlyph : Int
 fMove : TPt
structure TAnchor where
 fName : ByteArray
 fAt : TPt
structure TGlyph where
 fName : ByteArray
 fCode : Int
 fAdvance : Int
 fOutline : TOutline
 fParts : List TPart
 fAnchors : List TAnchor
 fHints : ByteArray
structure TGlyphSet where
 fUnit : Int
 fGlyphs : List TGlyph
end Go.Proofs.YtpdeibhedafcfaaGreatDoor
