/- The engine (10): a cut behind which blocks bear other ids. -/
import Derived.Test.YteldhmehjkhanaaDoorML26PP
namespace Go.Eng
open Go Go.RowKit Cr
end Go.Eng
