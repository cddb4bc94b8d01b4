/-
  DERIVED. GIVEN WITH THE SEED: THE CARDS: each row of YteldhmehjkhanaaGreatDoorRows.lean that lists a variable, with what it lists TIED to the program's text (the seventh form; the later family's looks); each row that meets fmt, with fmt's text TOLD by the authors' own Lean function (tested against real Go, not proved from fmt's source: count such statements apart). THE CARD IS WHAT COUNTS. Prove the row's statement (the work); the ties are given (YteldhmehjkhanaaGreatDoorTie.lean); close each card by the builder's one call (the guide's Derived/Test/ToyasCard.lean, 'card_holds'). Laid BY PROGRAM, IN A SANDBOX (cutbox-door.mjs). By AI agents, Wed Nov 11 2026. No macro, syntax, notation, axiom, sorry.
-/
import Derived.Test.YteldhmehjkhanaaGreatDoorRows
import GoSem.ClaimSeven
namespace Go.Proofs.YteldhmehjkhanaaGreatDoor
namespace Rows

/-- THE TIED CARD OF 'cressetlaw26.QueryLatest'. -/
def queryLatestCard : Claim7 := { stood := { row := queryLatestRow, standIns := [], harness := (true, "7e3bb37a4df574adb7a6ecc18766812f759422445b29ac047bf2cdf58049d687"), looks := false }, kinds := [], alts := [], laidByText := true, laidKinds := [.data, .data, .data, .data, .data, .data, .pinned], laidTests := true, laidLooks := .later }
def QueryLatestCardSaid : Prop := Claim7.holds Tryz.pinned (.plain (OpenSpec.ofChange queryLatestSpec)) queryLatestCard

/-- THE SECOND FORM's CARD OF 'cressetlaw26.QueryLatest'. -/
def queryLatestUptoCard : Claim7 := { stood := { row := queryLatestUptoRow, standIns := [], harness := (true, "7e3bb37a4df574adb7a6ecc18766812f759422445b29ac047bf2cdf58049d687"), looks := false }, kinds := [], alts := [], laidByText := true, laidKinds := [.data, .data, .data, .data, .data, .data, .pinned], laidTests := true, laidLooks := .later }
def QueryLatestUptoCardSaid : Prop := Claim7.holds Tryz.pinned (.plain (OpenSpec.upto queryLatestSpec)) queryLatestUptoCard
end Rows
end Go.Proofs.YteldhmehjkhanaaGreatDoor
