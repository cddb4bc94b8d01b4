/- The engine (10): a cut behind which blocks bear other ids. -/
import Derived.Test.YtbeeaekepmnfhaaGreatDoorML25aPR
namespace Go.Eng
open Go Go.RowKit Cr
end Go.Eng
