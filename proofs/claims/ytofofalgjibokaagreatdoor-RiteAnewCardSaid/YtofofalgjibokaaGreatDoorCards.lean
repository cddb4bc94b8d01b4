/-
  DERIVED. GIVEN WITH THE SEED: THE CARDS: each row of YtofofalgjibokaaGreatDoorRows.lean that lists a variable, with what it lists TIED to the program's text (the seventh form; the later family's looks); each row that meets fmt, with fmt's text TOLD by the authors' own Lean function (tested against real Go, not proved from fmt's source: count such statements apart). THE CARD IS WHAT COUNTS. Prove the row's statement (the work); the ties are given (YtofofalgjibokaaGreatDoorTie.lean); close each card by the builder's one call (the guide's Derived/Test/ToyasCard.lean, 'card_holds'). Laid BY PROGRAM, IN A SANDBOX (cutbox-door.mjs). By AI agents, Wed Nov 11 2026. No macro, syntax, notation, axiom, sorry.
-/
import Derived.Test.YtofofalgjibokaaGreatDoorRows
import GoSem.ClaimSeven
namespace Go.Proofs.YtofofalgjibokaaGreatDoor
namespace Rows

/-- THE TIED CARD OF 'cressetlaw23.RiteJumps'. -/
def riteJumpsCard : Claim7 := { stood := { row := riteJumpsRow, standIns := [], harness := (true, "e7a40eb53d92cb3c266063043ce66fa30e8ea5a6c0b7d852d1f2e01ab6e3d7e0"), looks := false }, kinds := [], alts := [], laidByText := true, laidKinds := [.data, .data], laidTests := true, laidLooks := .later }
def RiteJumpsCardSaid : Prop := Claim7.holds Tryz.pinned (.plain (OpenSpec.ofChange riteJumpsSpec)) riteJumpsCard

/-- THE TIED CARD OF 'cressetlaw23.RiteAnew'. -/
def riteAnewCard : Claim7 := { stood := { row := riteAnewRow, standIns := [], harness := (true, "e7a40eb53d92cb3c266063043ce66fa30e8ea5a6c0b7d852d1f2e01ab6e3d7e0"), looks := false }, kinds := [], alts := [], laidByText := true, laidKinds := [.data, .data], laidTests := true, laidLooks := .later }
def RiteAnewCardSaid : Prop := Claim7.holds Tryz.pinned (.plain (OpenSpec.ofChange riteAnewSpec)) riteAnewCard

/-- THE TIED CARD OF 'cressetlaw23.RiteRefuses'. -/
def riteRefusesCard : Claim7 := { stood := { row := riteRefusesRow, standIns := [], harness := (true, "e7a40eb53d92cb3c266063043ce66fa30e8ea5a6c0b7d852d1f2e01ab6e3d7e0"), looks := false }, kinds := [], alts := [], laidByText := true, laidKinds := [.data, .data], laidTests := true, laidLooks := .later }
def RiteRefusesCardSaid : Prop := Claim7.holds Tryz.pinned (.plain (OpenSpec.ofChange riteRefusesSpec)) riteRefusesCard

/-- THE SECOND FORM's CARD OF 'cressetlaw23.RiteJumps'. -/
def riteJumpsUptoCard : Claim7 := { stood := { row := riteJumpsUptoRow, standIns := [], harness := (true, "e7a40eb53d92cb3c266063043ce66fa30e8ea5a6c0b7d852d1f2e01ab6e3d7e0"), looks := false }, kinds := [], alts := [], laidByText := true, laidKinds := [.data, .data], laidTests := true, laidLooks := .later }
def RiteJumpsUptoCardSaid : Prop := Claim7.holds Tryz.pinned (.plain (OpenSpec.upto riteJumpsSpec)) riteJumpsUptoCard

/-- THE SECOND FORM's CARD OF 'cressetlaw23.RiteAnew'. -/
def riteAnewUptoCard : Claim7 := { stood := { row := riteAnewUptoRow, standIns := [], harness := (true, "e7a40eb53d92cb3c266063043ce66fa30e8ea5a6c0b7d852d1f2e01ab6e3d7e0"), looks := false }, kinds := [], alts := [], laidByText := true, laidKinds := [.data, .data], laidTests := true, laidLooks := .later }
def RiteAnewUptoCardSaid : Prop := Claim7.holds Tryz.pinned (.plain (OpenSpec.upto riteAnewSpec)) riteAnewUptoCard

/-- THE SECOND FORM's CARD OF 'cressetlaw23.RiteRefuses'. -/
def riteRefusesUptoCard : Claim7 := { stood := { row := riteRefusesUptoRow, standIns := [], harness := (true, "e7a40eb53d92cb3c266063043ce66fa30e8ea5a6c0b7d852d1f2e01ab6e3d7e0"), looks := false }, kinds := [], alts := [], laidByText := true, laidKinds := [.data, .data], laidTests := true, laidLooks := .later }
def RiteRefusesUptoCardSaid : Prop := Claim7.holds Tryz.pinned (.plain (OpenSpec.upto riteRefusesSpec)) riteRefusesUptoCard
end Rows
end Go.Proofs.YtofofalgjibokaaGreatDoor
