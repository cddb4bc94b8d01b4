/-
  DERIVED. GIVEN WITH THE SEED: THE CARDS: each row of YtbeeaekepmnfhaaGreatDoorRows.lean that lists a variable, with what it lists TIED to the program's text (the seventh form; the later family's looks); each row that meets fmt, with fmt's text TOLD by the authors' own Lean function (tested against real Go, not proved from fmt's source: count such statements apart). THE CARD IS WHAT COUNTS. Prove the row's statement (the work); the ties are given (YtbeeaekepmnfhaaGreatDoorTie.lean); close each card by the builder's one call (the guide's Derived/Test/ToyasCard.lean, 'card_holds'). Laid BY PROGRAM, IN A SANDBOX (cutbox-door.mjs). By AI agents, Wed Nov 11 2026. No macro, syntax, notation, axiom, sorry.
-/
import Derived.Test.YtbeeaekepmnfhaaGreatDoorRows
import GoSem.ClaimSeven
namespace Go.Proofs.YtbeeaekepmnfhaaGreatDoor
namespace Rows

/-- THE TIED CARD OF 'cressetlaw25.CatchupSizes'. -/
def catchupSizesCard : Claim7 := { stood := { row := catchupSizesRow, standIns := [], harness := (true, "cf2e951b99f3f2b23b04da4c4894839ac980a495d785b014e0b6a3403a28d2a0"), looks := false }, kinds := [], alts := [], laidByText := true, laidKinds := [.data, .data], laidTests := true, laidLooks := .later }
def CatchupSizesCardSaid : Prop := Claim7.holds Tryz.pinned (.plain (OpenSpec.ofChange catchupSizesSpec)) catchupSizesCard

/-- THE TIED CARD OF 'cressetlaw15.PartJoins'. -/
def partJoinsCard : Claim7 := { stood := { row := partJoinsRow, standIns := [], harness := (true, "cf2e951b99f3f2b23b04da4c4894839ac980a495d785b014e0b6a3403a28d2a0"), looks := false }, kinds := [], alts := [], laidByText := true, laidKinds := [.data, .data], laidTests := true, laidLooks := .later }
def PartJoinsCardSaid : Prop := Claim7.holds Tryz.pinned (.plain (OpenSpec.ofChange partJoinsSpec)) partJoinsCard

/-- THE TIED CARD OF 'cressetlaw15.PartVerifies'. -/
def partVerifiesCard : Claim7 := { stood := { row := partVerifiesRow, standIns := [], harness := (true, "cf2e951b99f3f2b23b04da4c4894839ac980a495d785b014e0b6a3403a28d2a0"), looks := false }, kinds := [], alts := [], laidByText := true, laidKinds := [.data, .data], laidTests := true, laidLooks := .later }
def PartVerifiesCardSaid : Prop := Claim7.holds Tryz.pinned (.plain (OpenSpec.ofChange partVerifiesSpec)) partVerifiesCard

/-- THE TIED CARD OF 'cressetlaw15.PartChecks'. -/
def partChecksCard : Claim7 := { stood := { row := partChecksRow, standIns := [], harness := (true, "cf2e951b99f3f2b23b04da4c4894839ac980a495d785b014e0b6a3403a28d2a0"), looks := false }, kinds := [], alts := [], laidByText := true, laidKinds := [.data, .data], laidTests := true, laidLooks := .later }
def PartChecksCardSaid : Prop := Claim7.holds Tryz.pinned (.plain (OpenSpec.ofChange partChecksSpec)) partChecksCard

/-- THE TIED CARD OF 'cressetlaw24.BeaconOrders'. -/
def beaconOrdersCard : Claim7 := { stood := { row := beaconOrdersRow, standIns := [], harness := (true, "cf2e951b99f3f2b23b04da4c4894839ac980a495d785b014e0b6a3403a28d2a0"), looks := false }, kinds := [], alts := [], laidByText := true, laidKinds := [.data, .data], laidTests := true, laidLooks := .later }
def BeaconOrdersCardSaid : Prop := Claim7.holds Tryz.pinned (.plain (OpenSpec.ofChange beaconOrdersSpec)) beaconOrdersCard

/-- THE SECOND FORM's CARD OF 'cressetlaw25.CatchupSizes'. -/
def catchupSizesUptoCard : Claim7 := { stood := { row := catchupSizesUptoRow, standIns := [], harness := (true, "cf2e951b99f3f2b23b04da4c4894839ac980a495d785b014e0b6a3403a28d2a0"), looks := false }, kinds := [], alts := [], laidByText := true, laidKinds := [.data, .data], laidTests := true, laidLooks := .later }
def CatchupSizesUptoCardSaid : Prop := Claim7.holds Tryz.pinned (.plain (OpenSpec.upto catchupSizesSpec)) catchupSizesUptoCard

/-- THE SECOND FORM's CARD OF 'cressetlaw15.PartJoins'. -/
def partJoinsUptoCard : Claim7 := { stood := { row := partJoinsUptoRow, standIns := [], harness := (true, "cf2e951b99f3f2b23b04da4c4894839ac980a495d785b014e0b6a3403a28d2a0"), looks := false }, kinds := [], alts := [], laidByText := true, laidKinds := [.data, .data], laidTests := true, laidLooks := .later }
def PartJoinsUptoCardSaid : Prop := Claim7.holds Tryz.pinned (.plain (OpenSpec.upto partJoinsSpec)) partJoinsUptoCard

/-- THE SECOND FORM's CARD OF 'cressetlaw15.PartVerifies'. -/
def partVerifiesUptoCard : Claim7 := { stood := { row := partVerifiesUptoRow, standIns := [], harness := (true, "cf2e951b99f3f2b23b04da4c4894839ac980a495d785b014e0b6a3403a28d2a0"), looks := false }, kinds := [], alts := [], laidByText := true, laidKinds := [.data, .data], laidTests := true, laidLooks := .later }
def PartVerifiesUptoCardSaid : Prop := Claim7.holds Tryz.pinned (.plain (OpenSpec.upto partVerifiesSpec)) partVerifiesUptoCard

/-- THE SECOND FORM's CARD OF 'cressetlaw15.PartChecks'. -/
def partChecksUptoCard : Claim7 := { stood := { row := partChecksUptoRow, standIns := [], harness := (true, "cf2e951b99f3f2b23b04da4c4894839ac980a495d785b014e0b6a3403a28d2a0"), looks := false }, kinds := [], alts := [], laidByText := true, laidKinds := [.data, .data], laidTests := true, laidLooks := .later }
def PartChecksUptoCardSaid : Prop := Claim7.holds Tryz.pinned (.plain (OpenSpec.upto partChecksSpec)) partChecksUptoCard

/-- THE SECOND FORM's CARD OF 'cressetlaw24.BeaconOrders'. -/
def beaconOrdersUptoCard : Claim7 := { stood := { row := beaconOrdersUptoRow, standIns := [], harness := (true, "cf2e951b99f3f2b23b04da4c4894839ac980a495d785b014e0b6a3403a28d2a0"), looks := false }, kinds := [], alts := [], laidByText := true, laidKinds := [.data, .data], laidTests := true, laidLooks := .later }
def BeaconOrdersUptoCardSaid : Prop := Claim7.holds Tryz.pinned (.plain (OpenSpec.upto beaconOrdersSpec)) beaconOrdersUptoCard
end Rows
end Go.Proofs.YtbeeaekepmnfhaaGreatDoor
