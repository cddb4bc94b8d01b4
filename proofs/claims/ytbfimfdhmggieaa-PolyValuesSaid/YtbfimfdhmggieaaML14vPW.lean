/- The engine (11): contracts of functions that take a pointer to a datum of the caller's and may change it. -/
import Derived.Test.YtbfimfdhmggieaaML14vPV
namespace Go.Eng
open Go Go.RowKit Cr

section
variable {P : Program}

section
variable {w0 : Base} {n : Nat} {S : Slots} {B : Blks} {ρ : Rho} {a : Act} {w' : World}

end

end
end Go.Eng
