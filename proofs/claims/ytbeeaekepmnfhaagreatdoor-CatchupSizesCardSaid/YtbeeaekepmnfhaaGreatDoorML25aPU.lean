/- The engine (11): results that are only read further on; nil slices among slices that are read. -/
import Derived.Test.YtbeeaekepmnfhaaGreatDoorML25aPT
namespace Go.Eng
open Go Go.RowKit Cr
/-- The mark that results of append are from the first only read. -/
def mark : Spec := fun _ _ _ _ => none
/-- The id of the block in which a slot's slice lies; d if it is no such slice. -/
def rdJ (d t : Nat) (σ : St) : Nat := match σ.S t with
  | .is (.one (.sl i _ _ _ _)) => i
  | _ => d
end Go.Eng
