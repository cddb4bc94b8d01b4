/- The engine (8): loops that count. -/
import Derived.Test.YteldhmehjkhanaaDoorML26PM
namespace Go.Eng
open Go Go.RowKit Cr

section
variable {E : Env} {N : Nat} {n r : St → Prop} {x : Nat → St → Prop}

end

theorem wrap_i64' {a : Int} (h0 : -9223372036854775808 ≤ a) (h1 : a < 9223372036854775808) : IntKind.i64.wrap a = a := by
  have e : IntKind.i64.wrap a = if (9223372036854775808 : Int) ≤ a % 18446744073709551616 then a % 18446744073709551616 - 18446744073709551616 else a % 18446744073709551616 := by
    simp [IntKind.wrap, IntKind.signed, IntKind.bits]
  rw [e]
  split <;> omega

end Go.Eng
