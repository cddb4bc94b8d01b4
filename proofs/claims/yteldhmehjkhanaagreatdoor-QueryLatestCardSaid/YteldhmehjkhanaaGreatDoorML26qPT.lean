import Derived.Test.YteldhmehjkhanaaGreatDoorML26qPS
set_option maxRecDepth 100000
namespace Go.Eng
open Go Go.RowKit Cr
end Go.Eng
