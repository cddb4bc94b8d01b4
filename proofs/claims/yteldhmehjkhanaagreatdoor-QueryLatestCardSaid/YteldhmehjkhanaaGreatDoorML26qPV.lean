import Derived.Test.YteldhmehjkhanaaGreatDoorML26qPU
set_option maxRecDepth 100000
namespace Go.Eng
end Go.Eng
