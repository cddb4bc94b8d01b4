/- The engine (13): readings of a slice that stands at the beginning of a block. -/
import Derived.Test.YtbeeaekepmnfhaaGreatDoorML25aPW
namespace Go.Eng
/-- Is it nil? -/
def rdZo (id : Nat) (σ : St) : Option Bool := match σ.B id with
  | some (.v (.slice none 0 0) :: _) => some true
  | some (.ro _ _ :: _) => some false
  | some (.sl _ _ _ _ _ :: _) => some false
  | _ => none
def rdZ (id : Nat) (σ : St) : Bool := orD false (rdZo id σ)
/-- Its length. -/
def rdHo (id : Nat) (σ : St) : Option Nat := match σ.B id with
  | some (.v (.slice none 0 0) :: _) => some 0
  | some (.sl _ _ _ n _ :: _) => some n
  | _ => none
def rdH (id : Nat) (σ : St) : Nat := orD 0 (rdHo id σ)
/-- The id of its block. -/
def rdHI (d id : Nat) (σ : St) : Nat := match σ.B id with
  | some (.sl i _ _ _ _ :: _) => i
  | _ => d
end Go.Eng
