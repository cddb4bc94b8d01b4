/- The engine (12): results of two, the first of which is only read further on. -/
import Derived.Test.YtbfimfdhmggieaaDoorML24aPX
namespace Go.Eng
open Go Go.RowKit Cr
end Go.Eng
