/-
  DERIVED. GIVEN WITH THE SEED: THE CARDS: each row of YtbfimfdhmggieaaDoorRows.lean that lists a variable, with what it lists TIED to the program's text (the seventh form; the later family's looks); each row that meets fmt, with fmt's text TOLD by the authors' own Lean function (tested against real Go, not proved from fmt's source: count such statements apart). THE CARD IS WHAT COUNTS. Prove the row's statement (the work); the ties are given (YtbfimfdhmggieaaDoorTie.lean); close each card by the builder's one call (the guide's Derived/Test/ToyasCard.lean, 'card_holds'). Laid BY PROGRAM, IN A SANDBOX (cutbox-door.mjs). By AI agents, Wed Nov 11 2026. No macro, syntax, notation, axiom, sorry.
-/
import Derived.Test.YtbfimfdhmggieaaDoorRows
import GoSem.ClaimSeven
namespace Go.Proofs.YtbfimfdhmggieaaDoor
namespace Rows

/-- THE TIED CARD OF 'cressetlaw11.XmdExpands'. -/
def xmdExpandsCard : Claim7 := { stood := { row := xmdExpandsRow, standIns := [], harness := (true, "30c18024f5400744120caf5eb37e15b2bb597e6febcf776de2208ae38104d59e"), looks := false }, kinds := [], alts := [], laidByText := true, laidKinds := [.data, .data], laidTests := true, laidLooks := .later }
def XmdExpandsCardSaid : Prop := Claim7.holds Tryd.pinned (.plain (OpenSpec.ofChange xmdExpandsSpec)) xmdExpandsCard

/-- THE TIED CARD OF 'cressetlaw11.XmdNumbers'. -/
def xmdNumbersCard : Claim7 := { stood := { row := xmdNumbersRow, standIns := [], harness := (true, "30c18024f5400744120caf5eb37e15b2bb597e6febcf776de2208ae38104d59e"), looks := false }, kinds := [], alts := [], laidByText := true, laidKinds := [.data, .data], laidTests := true, laidLooks := .later }
def XmdNumbersCardSaid : Prop := Claim7.holds Tryd.pinned (.plain (OpenSpec.ofChange xmdNumbersSpec)) xmdNumbersCard

/-- THE TIED CARD OF 'cressetlaw12.HashMaps'. -/
def hashMapsCard : Claim7 := { stood := { row := hashMapsRow, standIns := [], harness := (true, "30c18024f5400744120caf5eb37e15b2bb597e6febcf776de2208ae38104d59e"), looks := false }, kinds := [], alts := [], laidByText := true, laidKinds := [.data, .data], laidTests := true, laidLooks := .later }
def HashMapsCardSaid : Prop := Claim7.holds Tryd.pinned (.plain (OpenSpec.ofChange hashMapsSpec)) hashMapsCard

/-- THE TIED CARD OF 'cressetlaw24.BeaconKeys'. -/
def beaconKeysCard : Claim7 := { stood := { row := beaconKeysRow, standIns := [], harness := (true, "30c18024f5400744120caf5eb37e15b2bb597e6febcf776de2208ae38104d59e"), looks := false }, kinds := [], alts := [], laidByText := true, laidKinds := [.data, .data], laidTests := true, laidLooks := .later }
def BeaconKeysCardSaid : Prop := Claim7.holds Tryd.pinned (.plain (OpenSpec.ofChange beaconKeysSpec)) beaconKeysCard

/-- THE TIED CARD OF 'cressetlaw12.HashClears'. -/
def hashClearsCard : Claim7 := { stood := { row := hashClearsRow, standIns := [], harness := (true, "30c18024f5400744120caf5eb37e15b2bb597e6febcf776de2208ae38104d59e"), looks := false }, kinds := [], alts := [], laidByText := true, laidKinds := [.data, .data], laidTests := true, laidLooks := .later }
def HashClearsCardSaid : Prop := Claim7.holds Tryd.pinned (.plain (OpenSpec.ofChange hashClearsSpec)) hashClearsCard

/-- THE TIED CARD OF 'cressetlaw12.HashTexts'. -/
def hashTextsCard : Claim7 := { stood := { row := hashTextsRow, standIns := [], harness := (true, "30c18024f5400744120caf5eb37e15b2bb597e6febcf776de2208ae38104d59e"), looks := false }, kinds := [], alts := [], laidByText := true, laidKinds := [.data, .data], laidTests := true, laidLooks := .later }
def HashTextsCardSaid : Prop := Claim7.holds Tryd.pinned (.plain (OpenSpec.ofChange hashTextsSpec)) hashTextsCard

/-- THE TIED CARD OF 'cressetlaw12.HashSums'. -/
def hashSumsCard : Claim7 := { stood := { row := hashSumsRow, standIns := [], harness := (true, "30c18024f5400744120caf5eb37e15b2bb597e6febcf776de2208ae38104d59e"), looks := false }, kinds := [], alts := [], laidByText := true, laidKinds := [.data, .data], laidTests := true, laidLooks := .later }
def HashSumsCardSaid : Prop := Claim7.holds Tryd.pinned (.plain (OpenSpec.ofChange hashSumsSpec)) hashSumsCard

/-- THE SECOND FORM's CARD OF 'cressetlaw11.XmdExpands'. -/
def xmdExpandsUptoCard : Claim7 := { stood := { row := xmdExpandsUptoRow, standIns := [], harness := (true, "30c18024f5400744120caf5eb37e15b2bb597e6febcf776de2208ae38104d59e"), looks := false }, kinds := [], alts := [], laidByText := true, laidKinds := [.data, .data], laidTests := true, laidLooks := .later }
def XmdExpandsUptoCardSaid : Prop := Claim7.holds Tryd.pinned (.plain (OpenSpec.upto xmdExpandsSpec)) xmdExpandsUptoCard

/-- THE SECOND FORM's CARD OF 'cressetlaw11.XmdNumbers'. -/
def xmdNumbersUptoCard : Claim7 := { stood := { row := xmdNumbersUptoRow, standIns := [], harness := (true, "30c18024f5400744120caf5eb37e15b2bb597e6febcf776de2208ae38104d59e"), looks := false }, kinds := [], alts := [], laidByText := true, laidKinds := [.data, .data], laidTests := true, laidLooks := .later }
def XmdNumbersUptoCardSaid : Prop := Claim7.holds Tryd.pinned (.plain (OpenSpec.upto xmdNumbersSpec)) xmdNumbersUptoCard

/-- THE SECOND FORM's CARD OF 'cressetlaw12.HashMaps'. -/
def hashMapsUptoCard : Claim7 := { stood := { row := hashMapsUptoRow, standIns := [], harness := (true, "30c18024f5400744120caf5eb37e15b2bb597e6febcf776de2208ae38104d59e"), looks := false }, kinds := [], alts := [], laidByText := true, laidKinds := [.data, .data], laidTests := true, laidLooks := .later }
def HashMapsUptoCardSaid : Prop := Claim7.holds Tryd.pinned (.plain (OpenSpec.upto hashMapsSpec)) hashMapsUptoCard

/-- THE SECOND FORM's CARD OF 'cressetlaw24.BeaconKeys'. -/
def beaconKeysUptoCard : Claim7 := { stood := { row := beaconKeysUptoRow, standIns := [], harness := (true, "30c18024f5400744120caf5eb37e15b2bb597e6febcf776de2208ae38104d59e"), looks := false }, kinds := [], alts := [], laidByText := true, laidKinds := [.data, .data], laidTests := true, laidLooks := .later }
def BeaconKeysUptoCardSaid : Prop := Claim7.holds Tryd.pinned (.plain (OpenSpec.upto beaconKeysSpec)) beaconKeysUptoCard

/-- THE SECOND FORM's CARD OF 'cressetlaw12.HashClears'. -/
def hashClearsUptoCard : Claim7 := { stood := { row := hashClearsUptoRow, standIns := [], harness := (true, "30c18024f5400744120caf5eb37e15b2bb597e6febcf776de2208ae38104d59e"), looks := false }, kinds := [], alts := [], laidByText := true, laidKinds := [.data, .data], laidTests := true, laidLooks := .later }
def HashClearsUptoCardSaid : Prop := Claim7.holds Tryd.pinned (.plain (OpenSpec.upto hashClearsSpec)) hashClearsUptoCard

/-- THE SECOND FORM's CARD OF 'cressetlaw12.HashTexts'. -/
def hashTextsUptoCard : Claim7 := { stood := { row := hashTextsUptoRow, standIns := [], harness := (true, "30c18024f5400744120caf5eb37e15b2bb597e6febcf776de2208ae38104d59e"), looks := false }, kinds := [], alts := [], laidByText := true, laidKinds := [.data, .data], laidTests := true, laidLooks := .later }
def HashTextsUptoCardSaid : Prop := Claim7.holds Tryd.pinned (.plain (OpenSpec.upto hashTextsSpec)) hashTextsUptoCard

/-- THE SECOND FORM's CARD OF 'cressetlaw12.HashSums'. -/
def hashSumsUptoCard : Claim7 := { stood := { row := hashSumsUptoRow, standIns := [], harness := (true, "30c18024f5400744120caf5eb37e15b2bb597e6febcf776de2208ae38104d59e"), looks := false }, kinds := [], alts := [], laidByText := true, laidKinds := [.data, .data], laidTests := true, laidLooks := .later }
def HashSumsUptoCardSaid : Prop := Claim7.holds Tryd.pinned (.plain (OpenSpec.upto hashSumsSpec)) hashSumsUptoCard
end Rows
end Go.Proofs.YtbfimfdhmggieaaDoor
