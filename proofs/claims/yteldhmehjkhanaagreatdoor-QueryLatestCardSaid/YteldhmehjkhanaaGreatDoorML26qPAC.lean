import Derived.Test.YteldhmehjkhanaaGreatDoorML26qPAB
set_option maxRecDepth 100000
namespace Go.Eng
open Go Go.RowKit Cr
end Go.Eng
