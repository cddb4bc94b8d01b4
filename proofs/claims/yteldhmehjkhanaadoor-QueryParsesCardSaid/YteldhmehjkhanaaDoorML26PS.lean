/- The engine (11): results that are only read further on; nil slices among slices that are read. -/
import Derived.Test.YteldhmehjkhanaaDoorML26PR
namespace Go.Eng
open Go Go.RowKit Cr
/-- The mark that results of append are from the first only read. -/
def mark : Spec := fun _ _ _ _ => none
end Go.Eng
