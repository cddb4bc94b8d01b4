import Derived.Test.YtbeeaekepmnfhaaGreatDoorML24oPAE
set_option maxRecDepth 100000
namespace Go.Eng
def af1 (id:Nat) (σ:St):Option Nat:=match σ.B id with
 | some cs=>match cs.getLast? with
  | some (.sl _ _ _ n _)=>some n
  | some (.v (.slice none 0 0))=>some 0
  | _=>none
 | _=>none
def rdT (id:Nat) (σ:St):Nat:=Cs 0 (af1 id σ)
def af0 (d id:Nat) (σ:St):Nat:=match σ.B id with
 | some cs=>match cs.getLast? with
  | some (.sl i _ _ _ _)=>i
  | _=>d
 | _=>d
end Go.Eng
