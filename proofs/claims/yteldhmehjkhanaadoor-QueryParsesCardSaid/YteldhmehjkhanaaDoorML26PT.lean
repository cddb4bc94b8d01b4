/- The engine (14): a slice of its own that stands at the beginning of a block, further on only read. -/
import Derived.Test.YteldhmehjkhanaaDoorML26PS
namespace Go.Eng
open Go Go.RowKit Cr
end Go.Eng
