/-
  No cell of these rows narrows 'for every input' (looked for: loops, veiled, ifaces, maps, wideKeys, modest, calm, conditions, laid).
  DERIVED. THE GIVEN ROWS OF THIS SEAT. 12 by the template 'for every input the law returns true; each argument reads behind the call as it read before'; 0 by the template 'total and deterministic' (their statements: YtndjibcccdnfdaaTotals.lean).
  GIVEN WITH THE SEED: the statements are not yours to turn. If you find one false, say at which input.
  Laid BY PROGRAM, IN A SANDBOX (cutbox-rows.mjs): the forced cells as the released guide's own fill.sh prints them over the translation 0da91e67f6cbf60b… (all of the seat's roots in one cut). By AI agents, Wed Nov 11 2026. No macro, syntax, notation, axiom, sorry.
-/
import Derived.Test.YtndjibcccdnfdaaChecked
import GoSem.Claim
import GoSem.ClaimJoined
import GoSem.ClaimMapViews
import Derived.JoinedTies
import Derived.KernelRfl
namespace Go.Proofs.Ytndjibcccdnfdaa
/- THE CELL 'sum', in the pinned program and in every row, IS THE sha256 OF THE DUMP (.gsa) THAT YtndjibcccdnfdaaProg.lean LOADS. Nothing in Lean hashes anything: it is a label: what it is worth is what the hold of that sum in a sandbox is worth. -/
noncomputable def Try.pinned : Pinned := { name := "ytndjibcccdnfdaa", sum := "0da91e67f6cbf60bcd2fdea91f2e67d52f68db8681eb5139c54bdaa5ee3c5ac3", checked := Try.checked }
namespace Rows
def none {H : Type} : Left H := { results := [], args := [] }

/-- 'cressetlaw08.G2Scalars': WHATEVER THE INPUT: true; the input reads as it did. -/
def g2ScalarsSpec : ChangeSpec := { name := "g2Scalars", fn := fun _ => fun
  | [d1, d2, d3] => { results := [.lit (.bool true)], args := [d1, d2, d3] }
  | _ => none }
def g2ScalarsRow : OpenClaim := { program := "ytndjibcccdnfdaa", sum := "0da91e67f6cbf60bcd2fdea91f2e67d52f68db8681eb5139c54bdaa5ee3c5ac3", func := "cresset/cressetlaw08.G2Scalars", spec := "g2Scalars", inPlace := ["math/bits.Sub64", "math/bits.Add64"], apart := false }
def G2ScalarsSaid : Prop := g2ScalarsRow.holds Try.pinned (OpenSpec.ofChange g2ScalarsSpec)

/-- ITS FALSE NEIGHBOUR: 'it returns false'. Refute it at one input. -/
def g2ScalarsWrong : ChangeSpec := { name := "g2Scalars", fn := fun _ => fun
  | [d1, d2, d3] => { results := [.lit (.bool false)], args := [d1, d2, d3] }
  | _ => none }
def G2ScalarsWrongFalsely : Prop := g2ScalarsRow.holds Try.pinned (OpenSpec.ofChange g2ScalarsWrong)

/-- 'cressetlaw08.G2Adds': WHATEVER THE INPUT: true; the input reads as it did. -/
def g2AddsSpec : ChangeSpec := { name := "g2Adds", fn := fun _ => fun
  | [d1, d2, d3, d4, d5] => { results := [.lit (.bool true)], args := [d1, d2, d3, d4, d5] }
  | _ => none }
def g2AddsRow : OpenClaim := { program := "ytndjibcccdnfdaa", sum := "0da91e67f6cbf60bcd2fdea91f2e67d52f68db8681eb5139c54bdaa5ee3c5ac3", func := "cresset/cressetlaw08.G2Adds", spec := "g2Adds", inPlace := ["math/bits.Sub64", "math/bits.Add64"], apart := false }
def G2AddsSaid : Prop := g2AddsRow.holds Try.pinned (OpenSpec.ofChange g2AddsSpec)

/-- ITS FALSE NEIGHBOUR: 'it returns false'. Refute it at one input. -/
def g2AddsWrong : ChangeSpec := { name := "g2Adds", fn := fun _ => fun
  | [d1, d2, d3, d4, d5] => { results := [.lit (.bool false)], args := [d1, d2, d3, d4, d5] }
  | _ => none }
def G2AddsWrongFalsely : Prop := g2AddsRow.holds Try.pinned (OpenSpec.ofChange g2AddsWrong)

/-- 'cressetlaw08.G2Counts': WHATEVER THE INPUT: true; the input reads as it did. -/
def g2CountsSpec : ChangeSpec := { name := "g2Counts", fn := fun _ => fun
  | [d1, d2, d3] => { results := [.lit (.bool true)], args := [d1, d2, d3] }
  | _ => none }
def g2CountsRow : OpenClaim := { program := "ytndjibcccdnfdaa", sum := "0da91e67f6cbf60bcd2fdea91f2e67d52f68db8681eb5139c54bdaa5ee3c5ac3", func := "cresset/cressetlaw08.G2Counts", spec := "g2Counts", inPlace := ["math/bits.Sub64", "math/bits.Add64"], apart := false }
def G2CountsSaid : Prop := g2CountsRow.holds Try.pinned (OpenSpec.ofChange g2CountsSpec)

/-- ITS FALSE NEIGHBOUR: 'it returns false'. Refute it at one input. -/
def g2CountsWrong : ChangeSpec := { name := "g2Counts", fn := fun _ => fun
  | [d1, d2, d3] => { results := [.lit (.bool false)], args := [d1, d2, d3] }
  | _ => none }
def G2CountsWrongFalsely : Prop := g2CountsRow.holds Try.pinned (OpenSpec.ofChange g2CountsWrong)

/-- 'cressetlaw08.G2Groups': WHATEVER THE INPUT: true; the input reads as it did. -/
def g2GroupsSpec : ChangeSpec := { name := "g2Groups", fn := fun _ => fun
  | [d1, d2] => { results := [.lit (.bool true)], args := [d1, d2] }
  | _ => none }
def g2GroupsRow : OpenClaim := { program := "ytndjibcccdnfdaa", sum := "0da91e67f6cbf60bcd2fdea91f2e67d52f68db8681eb5139c54bdaa5ee3c5ac3", func := "cresset/cressetlaw08.G2Groups", spec := "g2Groups", inPlace := ["math/bits.Sub64", "math/bits.Add64"], apart := false }
def G2GroupsSaid : Prop := g2GroupsRow.holds Try.pinned (OpenSpec.ofChange g2GroupsSpec)

/-- ITS FALSE NEIGHBOUR: 'it returns false'. Refute it at one input. -/
def g2GroupsWrong : ChangeSpec := { name := "g2Groups", fn := fun _ => fun
  | [d1, d2] => { results := [.lit (.bool false)], args := [d1, d2] }
  | _ => none }
def G2GroupsWrongFalsely : Prop := g2GroupsRow.holds Try.pinned (OpenSpec.ofChange g2GroupsWrong)

/-- 'cressetlaw14.PolyWeights': WHATEVER THE INPUT: true; the input reads as it did. -/
def polyWeightsSpec : ChangeSpec := { name := "polyWeights", fn := fun _ => fun
  | [d] => { results := [.lit (.bool true)], args := [d] }
  | _ => none }
def polyWeightsRow : OpenClaim := { program := "ytndjibcccdnfdaa", sum := "0da91e67f6cbf60bcd2fdea91f2e67d52f68db8681eb5139c54bdaa5ee3c5ac3", func := "cresset/cressetlaw14.PolyWeights", spec := "polyWeights", inPlace := ["math/bits.Add64", "math/bits.Sub64"], unfollowed := true, recurses := true, apart := false }
def PolyWeightsSaid : Prop := polyWeightsRow.holds Try.pinned (OpenSpec.ofChange polyWeightsSpec)

/-- ITS FALSE NEIGHBOUR: 'it returns false'. Refute it at one input. -/
def polyWeightsWrong : ChangeSpec := { name := "polyWeights", fn := fun _ => fun
  | [d] => { results := [.lit (.bool false)], args := [d] }
  | _ => none }
def PolyWeightsWrongFalsely : Prop := polyWeightsRow.holds Try.pinned (OpenSpec.ofChange polyWeightsWrong)

/-- 'cressetlaw14.PolyOnes': WHATEVER THE INPUT: true; the input reads as it did. -/
def polyOnesSpec : ChangeSpec := { name := "polyOnes", fn := fun _ => fun
  | [d] => { results := [.lit (.bool true)], args := [d] }
  | _ => none }
def polyOnesRow : OpenClaim := { program := "ytndjibcccdnfdaa", sum := "0da91e67f6cbf60bcd2fdea91f2e67d52f68db8681eb5139c54bdaa5ee3c5ac3", func := "cresset/cressetlaw14.PolyOnes", spec := "polyOnes", inPlace := ["math/bits.Add64", "math/bits.Sub64"], unfollowed := true, recurses := true, apart := false }
def PolyOnesSaid : Prop := polyOnesRow.holds Try.pinned (OpenSpec.ofChange polyOnesSpec)

/-- ITS FALSE NEIGHBOUR: 'it returns false'. Refute it at one input. -/
def polyOnesWrong : ChangeSpec := { name := "polyOnes", fn := fun _ => fun
  | [d] => { results := [.lit (.bool false)], args := [d] }
  | _ => none }
def PolyOnesWrongFalsely : Prop := polyOnesRow.holds Try.pinned (OpenSpec.ofChange polyOnesWrong)

/-- 'cressetlaw09.CodecReads1': WHATEVER THE INPUT: true; the input reads as it did. -/
def codecReads1Spec : ChangeSpec := { name := "codecReads1", fn := fun _ => fun
  | [d] => { results := [.lit (.bool true)], args := [d] }
  | _ => none }
def codecReads1Row : OpenClaim := { program := "ytndjibcccdnfdaa", sum := "0da91e67f6cbf60bcd2fdea91f2e67d52f68db8681eb5139c54bdaa5ee3c5ac3", func := "cresset/cressetlaw09.CodecReads1", spec := "codecReads1", inPlace := ["math/bits.Add64", "math/bits.Sub64"], apart := false }
def CodecReads1Said : Prop := codecReads1Row.holds Try.pinned (OpenSpec.ofChange codecReads1Spec)

/-- ITS FALSE NEIGHBOUR: 'it returns false'. Refute it at one input. -/
def codecReads1Wrong : ChangeSpec := { name := "codecReads1", fn := fun _ => fun
  | [d] => { results := [.lit (.bool false)], args := [d] }
  | _ => none }
def CodecReads1WrongFalsely : Prop := codecReads1Row.holds Try.pinned (OpenSpec.ofChange codecReads1Wrong)

/-- 'cressetlaw14.PolyValues': WHATEVER THE INPUT: true; the input reads as it did. -/
def polyValuesSpec : ChangeSpec := { name := "polyValues", fn := fun _ => fun
  | [d1, d2] => { results := [.lit (.bool true)], args := [d1, d2] }
  | _ => none }
def polyValuesRow : OpenClaim := { program := "ytndjibcccdnfdaa", sum := "0da91e67f6cbf60bcd2fdea91f2e67d52f68db8681eb5139c54bdaa5ee3c5ac3", func := "cresset/cressetlaw14.PolyValues", spec := "polyValues", inPlace := ["math/bits.Add64", "math/bits.Sub64"], unfollowed := true, recurses := true, apart := false }
def PolyValuesSaid : Prop := polyValuesRow.holds Try.pinned (OpenSpec.ofChange polyValuesSpec)

/-- ITS FALSE NEIGHBOUR: 'it returns false'. Refute it at one input. -/
def polyValuesWrong : ChangeSpec := { name := "polyValues", fn := fun _ => fun
  | [d1, d2] => { results := [.lit (.bool false)], args := [d1, d2] }
  | _ => none }
def PolyValuesWrongFalsely : Prop := polyValuesRow.holds Try.pinned (OpenSpec.ofChange polyValuesWrong)

/-- 'cressetlaw14.PolyHides': WHATEVER THE INPUT: true; the input reads as it did. -/
def polyHidesSpec : ChangeSpec := { name := "polyHides", fn := fun _ => fun
  | [d1, d2, d3] => { results := [.lit (.bool true)], args := [d1, d2, d3] }
  | _ => none }
def polyHidesRow : OpenClaim := { program := "ytndjibcccdnfdaa", sum := "0da91e67f6cbf60bcd2fdea91f2e67d52f68db8681eb5139c54bdaa5ee3c5ac3", func := "cresset/cressetlaw14.PolyHides", spec := "polyHides", inPlace := ["math/bits.Add64", "math/bits.Sub64"], unfollowed := true, recurses := true, apart := false }
def PolyHidesSaid : Prop := polyHidesRow.holds Try.pinned (OpenSpec.ofChange polyHidesSpec)

/-- ITS FALSE NEIGHBOUR: 'it returns false'. Refute it at one input. -/
def polyHidesWrong : ChangeSpec := { name := "polyHides", fn := fun _ => fun
  | [d1, d2, d3] => { results := [.lit (.bool false)], args := [d1, d2, d3] }
  | _ => none }
def PolyHidesWrongFalsely : Prop := polyHidesRow.holds Try.pinned (OpenSpec.ofChange polyHidesWrong)

/-- 'cressetlaw14.PolyPublic': WHATEVER THE INPUT: true; the input reads as it did. -/
def polyPublicSpec : ChangeSpec := { name := "polyPublic", fn := fun _ => fun
  | [d1, d2, d3] => { results := [.lit (.bool true)], args := [d1, d2, d3] }
  | _ => none }
def polyPublicRow : OpenClaim := { program := "ytndjibcccdnfdaa", sum := "0da91e67f6cbf60bcd2fdea91f2e67d52f68db8681eb5139c54bdaa5ee3c5ac3", func := "cresset/cressetlaw14.PolyPublic", spec := "polyPublic", inPlace := ["math/bits.Add64", "math/bits.Sub64"], unfollowed := true, recurses := true, apart := false }
def PolyPublicSaid : Prop := polyPublicRow.holds Try.pinned (OpenSpec.ofChange polyPublicSpec)

/-- ITS FALSE NEIGHBOUR: 'it returns false'. Refute it at one input. -/
def polyPublicWrong : ChangeSpec := { name := "polyPublic", fn := fun _ => fun
  | [d1, d2, d3] => { results := [.lit (.bool false)], args := [d1, d2, d3] }
  | _ => none }
def PolyPublicWrongFalsely : Prop := polyPublicRow.holds Try.pinned (OpenSpec.ofChange polyPublicWrong)

/-- 'cressetlaw09.CodecReads2': WHATEVER THE INPUT: true; the input reads as it did. -/
def codecReads2Spec : ChangeSpec := { name := "codecReads2", fn := fun _ => fun
  | [d] => { results := [.lit (.bool true)], args := [d] }
  | _ => none }
def codecReads2Row : OpenClaim := { program := "ytndjibcccdnfdaa", sum := "0da91e67f6cbf60bcd2fdea91f2e67d52f68db8681eb5139c54bdaa5ee3c5ac3", func := "cresset/cressetlaw09.CodecReads2", spec := "codecReads2", inPlace := ["math/bits.Add64", "math/bits.Sub64"], apart := false }
def CodecReads2Said : Prop := codecReads2Row.holds Try.pinned (OpenSpec.ofChange codecReads2Spec)

/-- ITS FALSE NEIGHBOUR: 'it returns false'. Refute it at one input. -/
def codecReads2Wrong : ChangeSpec := { name := "codecReads2", fn := fun _ => fun
  | [d] => { results := [.lit (.bool false)], args := [d] }
  | _ => none }
def CodecReads2WrongFalsely : Prop := codecReads2Row.holds Try.pinned (OpenSpec.ofChange codecReads2Wrong)

/-- 'cressetlaw14.PolyShares': WHATEVER THE INPUT: true; the input reads as it did. -/
def polySharesSpec : ChangeSpec := { name := "polyShares", fn := fun _ => fun
  | [d1, d2] => { results := [.lit (.bool true)], args := [d1, d2] }
  | _ => none }
def polySharesRow : OpenClaim := { program := "ytndjibcccdnfdaa", sum := "0da91e67f6cbf60bcd2fdea91f2e67d52f68db8681eb5139c54bdaa5ee3c5ac3", func := "cresset/cressetlaw14.PolyShares", spec := "polyShares", inPlace := ["math/bits.Add64", "math/bits.Sub64"], unfollowed := true, recurses := true, apart := false }
def PolySharesSaid : Prop := polySharesRow.holds Try.pinned (OpenSpec.ofChange polySharesSpec)

/-- ITS FALSE NEIGHBOUR: 'it returns false'. Refute it at one input. -/
def polySharesWrong : ChangeSpec := { name := "polyShares", fn := fun _ => fun
  | [d1, d2] => { results := [.lit (.bool false)], args := [d1, d2] }
  | _ => none }
def PolySharesWrongFalsely : Prop := polySharesRow.holds Try.pinned (OpenSpec.ofChange polySharesWrong)

/- THE SECOND FORM. 'bulk': how many values and letters a reading holds, each counted each time it is reached (what is shared counts as often as it is met; a slice's spare places count too). A statement '..UptoSaid' is the law's where the arguments, and the package variables that the reading takes, are together of bulk at most 1048576: NARROWER than '..Said'. Prove '..Said' where nothing that the law and all that it calls make is longer than what came in: it says more and counts as full. Else prove '..UptoSaid'. A law counts once. -/
mutual
def uptoBulk {H : Type} : DataW H → Nat
  | .lit (.string bytes) => bytes.length + 1
  | .lit _ => 1
  | .nil => 1
  | .ptr d => uptoBulk d + 1
  | .slice elems spare => uptoBulkAll elems + uptoBulkAll spare + 1
  | .agg parts => uptoBulkAll parts + 1
  | .iface _ d => uptoBulk d + 1
  | .map entries => uptoBulkEntries entries + 1
  | .held _ => 1
def uptoBulkAll {H : Type} : List (DataW H) → Nat
  | [] => 0
  | d :: r => uptoBulk d + uptoBulkAll r
def uptoBulkEntries {H : Type} : List (Lit × DataW H) → Nat
  | [] => 0
  | x :: r => uptoBulkEntry x + uptoBulkEntries r
def uptoBulkEntry {H : Type} : Lit × DataW H → Nat
  | (.string bytes, d) => bytes.length + uptoBulk d + 1
  | (_, d) => uptoBulk d + 1
 end
def uptoSmall : (H : Type) → List (DataW H) → Bool := fun _ ds => decide (uptoBulkAll ds ≤ 1048576)
def OpenSpec.upto (s : _root_.Go.ChangeSpec) : _root_.Go.OpenSpec := { _root_.Go.OpenSpec.ofChange s with cond := some uptoSmall }

/-- 'cressetlaw08.G2Scalars', WHERE WHAT IT READS IS OF BULK AT MOST 1048576: true; the input reads as it did. -/
def g2ScalarsUptoRow : OpenClaim := { program := "ytndjibcccdnfdaa", sum := "0da91e67f6cbf60bcd2fdea91f2e67d52f68db8681eb5139c54bdaa5ee3c5ac3", func := "cresset/cressetlaw08.G2Scalars", spec := "g2Scalars", inPlace := ["math/bits.Sub64", "math/bits.Add64"], apart := false, narrowed := true }
def G2ScalarsUptoSaid : Prop := g2ScalarsUptoRow.holds Try.pinned (OpenSpec.upto g2ScalarsSpec)

/-- 'cressetlaw08.G2Adds', WHERE WHAT IT READS IS OF BULK AT MOST 1048576: true; the input reads as it did. -/
def g2AddsUptoRow : OpenClaim := { program := "ytndjibcccdnfdaa", sum := "0da91e67f6cbf60bcd2fdea91f2e67d52f68db8681eb5139c54bdaa5ee3c5ac3", func := "cresset/cressetlaw08.G2Adds", spec := "g2Adds", inPlace := ["math/bits.Sub64", "math/bits.Add64"], apart := false, narrowed := true }
def G2AddsUptoSaid : Prop := g2AddsUptoRow.holds Try.pinned (OpenSpec.upto g2AddsSpec)

/-- 'cressetlaw08.G2Counts', WHERE WHAT IT READS IS OF BULK AT MOST 1048576: true; the input reads as it did. -/
def g2CountsUptoRow : OpenClaim := { program := "ytndjibcccdnfdaa", sum := "0da91e67f6cbf60bcd2fdea91f2e67d52f68db8681eb5139c54bdaa5ee3c5ac3", func := "cresset/cressetlaw08.G2Counts", spec := "g2Counts", inPlace := ["math/bits.Sub64", "math/bits.Add64"], apart := false, narrowed := true }
def G2CountsUptoSaid : Prop := g2CountsUptoRow.holds Try.pinned (OpenSpec.upto g2CountsSpec)

/-- 'cressetlaw08.G2Groups', WHERE WHAT IT READS IS OF BULK AT MOST 1048576: true; the input reads as it did. -/
def g2GroupsUptoRow : OpenClaim := { program := "ytndjibcccdnfdaa", sum := "0da91e67f6cbf60bcd2fdea91f2e67d52f68db8681eb5139c54bdaa5ee3c5ac3", func := "cresset/cressetlaw08.G2Groups", spec := "g2Groups", inPlace := ["math/bits.Sub64", "math/bits.Add64"], apart := false, narrowed := true }
def G2GroupsUptoSaid : Prop := g2GroupsUptoRow.holds Try.pinned (OpenSpec.upto g2GroupsSpec)

/-- 'cressetlaw14.PolyWeights', WHERE WHAT IT READS IS OF BULK AT MOST 1048576: true; the input reads as it did. -/
def polyWeightsUptoRow : OpenClaim := { program := "ytndjibcccdnfdaa", sum := "0da91e67f6cbf60bcd2fdea91f2e67d52f68db8681eb5139c54bdaa5ee3c5ac3", func := "cresset/cressetlaw14.PolyWeights", spec := "polyWeights", inPlace := ["math/bits.Add64", "math/bits.Sub64"], unfollowed := true, recurses := true, apart := false, narrowed := true }
def PolyWeightsUptoSaid : Prop := polyWeightsUptoRow.holds Try.pinned (OpenSpec.upto polyWeightsSpec)

/-- 'cressetlaw14.PolyOnes', WHERE WHAT IT READS IS OF BULK AT MOST 1048576: true; the input reads as it did. -/
def polyOnesUptoRow : OpenClaim := { program := "ytndjibcccdnfdaa", sum := "0da91e67f6cbf60bcd2fdea91f2e67d52f68db8681eb5139c54bdaa5ee3c5ac3", func := "cresset/cressetlaw14.PolyOnes", spec := "polyOnes", inPlace := ["math/bits.Add64", "math/bits.Sub64"], unfollowed := true, recurses := true, apart := false, narrowed := true }
def PolyOnesUptoSaid : Prop := polyOnesUptoRow.holds Try.pinned (OpenSpec.upto polyOnesSpec)

/-- 'cressetlaw09.CodecReads1', WHERE WHAT IT READS IS OF BULK AT MOST 1048576: true; the input reads as it did. -/
def codecReads1UptoRow : OpenClaim := { program := "ytndjibcccdnfdaa", sum := "0da91e67f6cbf60bcd2fdea91f2e67d52f68db8681eb5139c54bdaa5ee3c5ac3", func := "cresset/cressetlaw09.CodecReads1", spec := "codecReads1", inPlace := ["math/bits.Add64", "math/bits.Sub64"], apart := false, narrowed := true }
def CodecReads1UptoSaid : Prop := codecReads1UptoRow.holds Try.pinned (OpenSpec.upto codecReads1Spec)

/-- 'cressetlaw14.PolyValues', WHERE WHAT IT READS IS OF BULK AT MOST 1048576: true; the input reads as it did. -/
def polyValuesUptoRow : OpenClaim := { program := "ytndjibcccdnfdaa", sum := "0da91e67f6cbf60bcd2fdea91f2e67d52f68db8681eb5139c54bdaa5ee3c5ac3", func := "cresset/cressetlaw14.PolyValues", spec := "polyValues", inPlace := ["math/bits.Add64", "math/bits.Sub64"], unfollowed := true, recurses := true, apart := false, narrowed := true }
def PolyValuesUptoSaid : Prop := polyValuesUptoRow.holds Try.pinned (OpenSpec.upto polyValuesSpec)

/-- 'cressetlaw14.PolyHides', WHERE WHAT IT READS IS OF BULK AT MOST 1048576: true; the input reads as it did. -/
def polyHidesUptoRow : OpenClaim := { program := "ytndjibcccdnfdaa", sum := "0da91e67f6cbf60bcd2fdea91f2e67d52f68db8681eb5139c54bdaa5ee3c5ac3", func := "cresset/cressetlaw14.PolyHides", spec := "polyHides", inPlace := ["math/bits.Add64", "math/bits.Sub64"], unfollowed := true, recurses := true, apart := false, narrowed := true }
def PolyHidesUptoSaid : Prop := polyHidesUptoRow.holds Try.pinned (OpenSpec.upto polyHidesSpec)

/-- 'cressetlaw14.PolyPublic', WHERE WHAT IT READS IS OF BULK AT MOST 1048576: true; the input reads as it did. -/
def polyPublicUptoRow : OpenClaim := { program := "ytndjibcccdnfdaa", sum := "0da91e67f6cbf60bcd2fdea91f2e67d52f68db8681eb5139c54bdaa5ee3c5ac3", func := "cresset/cressetlaw14.PolyPublic", spec := "polyPublic", inPlace := ["math/bits.Add64", "math/bits.Sub64"], unfollowed := true, recurses := true, apart := false, narrowed := true }
def PolyPublicUptoSaid : Prop := polyPublicUptoRow.holds Try.pinned (OpenSpec.upto polyPublicSpec)

/-- 'cressetlaw09.CodecReads2', WHERE WHAT IT READS IS OF BULK AT MOST 1048576: true; the input reads as it did. -/
def codecReads2UptoRow : OpenClaim := { program := "ytndjibcccdnfdaa", sum := "0da91e67f6cbf60bcd2fdea91f2e67d52f68db8681eb5139c54bdaa5ee3c5ac3", func := "cresset/cressetlaw09.CodecReads2", spec := "codecReads2", inPlace := ["math/bits.Add64", "math/bits.Sub64"], apart := false, narrowed := true }
def CodecReads2UptoSaid : Prop := codecReads2UptoRow.holds Try.pinned (OpenSpec.upto codecReads2Spec)

/-- 'cressetlaw14.PolyShares', WHERE WHAT IT READS IS OF BULK AT MOST 1048576: true; the input reads as it did. -/
def polySharesUptoRow : OpenClaim := { program := "ytndjibcccdnfdaa", sum := "0da91e67f6cbf60bcd2fdea91f2e67d52f68db8681eb5139c54bdaa5ee3c5ac3", func := "cresset/cressetlaw14.PolyShares", spec := "polyShares", inPlace := ["math/bits.Add64", "math/bits.Sub64"], unfollowed := true, recurses := true, apart := false, narrowed := true }
def PolySharesUptoSaid : Prop := polySharesUptoRow.holds Try.pinned (OpenSpec.upto polySharesSpec)

end Rows
end Go.Proofs.Ytndjibcccdnfdaa
