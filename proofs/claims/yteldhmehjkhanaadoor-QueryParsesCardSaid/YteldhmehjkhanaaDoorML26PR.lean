/- The engine (11): contracts of functions that take a pointer to a datum of the caller's and may change it. -/
import Derived.Test.YteldhmehjkhanaaDoorML26PQ
namespace Go.Eng
open Go Go.RowKit Cr

/-- How a first argument names its block: a pointer to it, or a slice of it (n elements of width c). -/
inductive Hd where
  | ptr
  | sl (n c : Nat)

def Hd.cell (i : Nat) : Hd → Cell
  | .ptr => .ptr i 0
  | .sl n c => .sl i 0 0 n c

def Hd.val (b N : Nat) : Hd → Value → Prop
  | .ptr, u => u = .pointer (some ⟨b, 0, none⟩)
  | .sl n c, u => ∃ cap, n ≤ cap ∧ cap * c ≤ N ∧ u = .slice (some ⟨b, 0, none⟩) n cap

section
variable {P : Program}

section
variable {w0 : Base} {n : Nat} {S : Slots} {B : Blks} {ρ : Rho} {a : Act} {w' : World}

end

end
end Go.Eng
