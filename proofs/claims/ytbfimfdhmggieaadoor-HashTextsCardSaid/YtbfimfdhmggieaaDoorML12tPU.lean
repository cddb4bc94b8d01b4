/- The engine (12): bools at joins. -/
import Derived.Test.YtbfimfdhmggieaaDoorML12tPT
namespace Go.Eng
open Go Go.RowKit Cr
end Go.Eng
