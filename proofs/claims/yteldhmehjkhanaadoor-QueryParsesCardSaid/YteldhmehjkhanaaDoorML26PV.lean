/- The engine (13): readings of a slice that stands at the beginning of a block. -/
import Derived.Test.YteldhmehjkhanaaDoorML26PU
namespace Go.Eng
end Go.Eng
