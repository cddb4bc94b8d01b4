/- The engine (12): results of two, the first of which is only read further on. -/
import Derived.Test.YteldhmehjkhanaaDoorML26PT
namespace Go.Eng
open Go Go.RowKit Cr
end Go.Eng
