/-
  No cell of these rows narrows 'for every input' (looked for: loops, veiled, ifaces, maps, wideKeys, modest, calm, conditions, laid).
  DERIVED. THE GIVEN ROWS OF THIS SEAT. 5 by the template 'for every input the law returns true; each argument reads behind the call as it read before'; 0 by the template 'total and deterministic' (their statements: YtoflhakneklimaaTotals.lean).
  GIVEN WITH THE SEED: the statements are not yours to turn. If you find one false, say at which input.
  Laid BY PROGRAM, IN A SANDBOX (cutbox-rows.mjs): the forced cells as the released guide's own fill.sh prints them over the translation a005b1f296adbfd7… (all of the seat's roots in one cut). By AI agents, Wed Nov 11 2026. No macro, syntax, notation, axiom, sorry.
-/
import Derived.Test.YtoflhakneklimaaChecked
import GoSem.Claim
import GoSem.ClaimJoined
import GoSem.ClaimMapViews
import Derived.JoinedTies
import Derived.KernelRfl
namespace Go.Proofs.Ytoflhakneklimaa
/- THE CELL 'sum', in the pinned program and in every row, IS THE sha256 OF THE DUMP (.gsa) THAT YtoflhakneklimaaProg.lean LOADS. Nothing in Lean hashes anything: it is a label: what it is worth is what the hold of that sum in a sandbox is worth. -/
noncomputable def Try.pinned : Pinned := { name := "ytoflhakneklimaa", sum := "a005b1f296adbfd77f6845621f166e3aacb3d0d1ef0401b49ed38788ae027188", checked := Try.checked }
namespace Rows
def none {H : Type} : Left H := { results := [], args := [] }

/-- 'cressetlaw14.PolyValues': WHATEVER THE INPUT: true; the input reads as it did. -/
def polyValuesSpec : ChangeSpec := { name := "polyValues", fn := fun _ => fun
  | [d1, d2] => { results := [.lit (.bool true)], args := [d1, d2] }
  | _ => none }
def polyValuesRow : OpenClaim := { program := "ytoflhakneklimaa", sum := "a005b1f296adbfd77f6845621f166e3aacb3d0d1ef0401b49ed38788ae027188", func := "cresset/cressetlaw14.PolyValues", spec := "polyValues", inPlace := ["math/bits.Add64", "math/bits.Sub64"], unfollowed := true, recurses := true, apart := false }
def PolyValuesSaid : Prop := polyValuesRow.holds Try.pinned (OpenSpec.ofChange polyValuesSpec)

/-- ITS FALSE NEIGHBOUR: 'it returns false'. Refute it at one input. -/
def polyValuesWrong : ChangeSpec := { name := "polyValues", fn := fun _ => fun
  | [d1, d2] => { results := [.lit (.bool false)], args := [d1, d2] }
  | _ => none }
def PolyValuesWrongFalsely : Prop := polyValuesRow.holds Try.pinned (OpenSpec.ofChange polyValuesWrong)

/-- 'cressetlaw22.DealQuals': WHATEVER THE INPUT: true; the input reads as it did. -/
def dealQualsSpec : ChangeSpec := { name := "dealQuals", fn := fun _ => fun
  | [d1, d2, d3, d4, d5, d6] => { results := [.lit (.bool true)], args := [d1, d2, d3, d4, d5, d6] }
  | _ => none }
def dealQualsRow : OpenClaim := { program := "ytoflhakneklimaa", sum := "a005b1f296adbfd77f6845621f166e3aacb3d0d1ef0401b49ed38788ae027188", func := "cresset/cressetlaw22.DealQuals", spec := "dealQuals", inPlace := ["math/bits.Sub64", "math/bits.Add64"], unfollowed := true, recurses := true, apart := false }
def DealQualsSaid : Prop := dealQualsRow.holds Try.pinned (OpenSpec.ofChange dealQualsSpec)

/-- ITS FALSE NEIGHBOUR: 'it returns false'. Refute it at one input. -/
def dealQualsWrong : ChangeSpec := { name := "dealQuals", fn := fun _ => fun
  | [d1, d2, d3, d4, d5, d6] => { results := [.lit (.bool false)], args := [d1, d2, d3, d4, d5, d6] }
  | _ => none }
def DealQualsWrongFalsely : Prop := dealQualsRow.holds Try.pinned (OpenSpec.ofChange dealQualsWrong)

/-- 'cressetlaw22.DealOrders': WHATEVER THE INPUT: true; the input reads as it did. -/
def dealOrdersSpec : ChangeSpec := { name := "dealOrders", fn := fun _ => fun
  | [d1, d2, d3, d4] => { results := [.lit (.bool true)], args := [d1, d2, d3, d4] }
  | _ => none }
def dealOrdersRow : OpenClaim := { program := "ytoflhakneklimaa", sum := "a005b1f296adbfd77f6845621f166e3aacb3d0d1ef0401b49ed38788ae027188", func := "cresset/cressetlaw22.DealOrders", spec := "dealOrders", inPlace := ["math/bits.Sub64", "math/bits.Add64"], unfollowed := true, recurses := true, apart := false }
def DealOrdersSaid : Prop := dealOrdersRow.holds Try.pinned (OpenSpec.ofChange dealOrdersSpec)

/-- ITS FALSE NEIGHBOUR: 'it returns false'. Refute it at one input. -/
def dealOrdersWrong : ChangeSpec := { name := "dealOrders", fn := fun _ => fun
  | [d1, d2, d3, d4] => { results := [.lit (.bool false)], args := [d1, d2, d3, d4] }
  | _ => none }
def DealOrdersWrongFalsely : Prop := dealOrdersRow.holds Try.pinned (OpenSpec.ofChange dealOrdersWrong)

/-- 'cressetlaw22.DealFresh': WHATEVER THE INPUT: true; the input reads as it did. -/
def dealFreshSpec : ChangeSpec := { name := "dealFresh", fn := fun _ => fun
  | [d1, d2, d3, d4] => { results := [.lit (.bool true)], args := [d1, d2, d3, d4] }
  | _ => none }
def dealFreshRow : OpenClaim := { program := "ytoflhakneklimaa", sum := "a005b1f296adbfd77f6845621f166e3aacb3d0d1ef0401b49ed38788ae027188", func := "cresset/cressetlaw22.DealFresh", spec := "dealFresh", inPlace := ["math/bits.Sub64", "math/bits.Add64"], unfollowed := true, recurses := true, apart := false }
def DealFreshSaid : Prop := dealFreshRow.holds Try.pinned (OpenSpec.ofChange dealFreshSpec)

/-- ITS FALSE NEIGHBOUR: 'it returns false'. Refute it at one input. -/
def dealFreshWrong : ChangeSpec := { name := "dealFresh", fn := fun _ => fun
  | [d1, d2, d3, d4] => { results := [.lit (.bool false)], args := [d1, d2, d3, d4] }
  | _ => none }
def DealFreshWrongFalsely : Prop := dealFreshRow.holds Try.pinned (OpenSpec.ofChange dealFreshWrong)

/-- 'cressetlaw22.DealAnew': WHATEVER THE INPUT: true; the input reads as it did. -/
def dealAnewSpec : ChangeSpec := { name := "dealAnew", fn := fun _ => fun
  | [d1, d2, d3, d4, d5, d6] => { results := [.lit (.bool true)], args := [d1, d2, d3, d4, d5, d6] }
  | _ => none }
def dealAnewRow : OpenClaim := { program := "ytoflhakneklimaa", sum := "a005b1f296adbfd77f6845621f166e3aacb3d0d1ef0401b49ed38788ae027188", func := "cresset/cressetlaw22.DealAnew", spec := "dealAnew", inPlace := ["math/bits.Sub64", "math/bits.Add64"], unfollowed := true, recurses := true, apart := false }
def DealAnewSaid : Prop := dealAnewRow.holds Try.pinned (OpenSpec.ofChange dealAnewSpec)

/-- ITS FALSE NEIGHBOUR: 'it returns false'. Refute it at one input. -/
def dealAnewWrong : ChangeSpec := { name := "dealAnew", fn := fun _ => fun
  | [d1, d2, d3, d4, d5, d6] => { results := [.lit (.bool false)], args := [d1, d2, d3, d4, d5, d6] }
  | _ => none }
def DealAnewWrongFalsely : Prop := dealAnewRow.holds Try.pinned (OpenSpec.ofChange dealAnewWrong)

/- THE SECOND FORM. 'bulk': how many values and letters a reading holds, each counted each time it is reached (what is shared counts as often as it is met; a slice's spare places count too). A statement '..UptoSaid' is the law's where the arguments, and the package variables that the reading takes, are together of bulk at most 1048576: NARROWER than '..Said'. Prove '..Said' where nothing that the law and all that it calls make is longer than what came in: it says more and counts as full. Else prove '..UptoSaid'. A law counts once. -/
mutual
def uptoBulk {H : Type} : DataW H → Nat
  | .lit (.string bytes) => bytes.length + 1
  | .lit _ => 1
  | .nil => 1
  | .ptr d => uptoBulk d + 1
  | .slice elems spare => uptoBulkAll elems + uptoBulkAll spare + 1
  | .agg parts => uptoBulkAll parts + 1
  | .iface _ d => uptoBulk d + 1
  | .map entries => uptoBulkEntries entries + 1
  | .held _ => 1
def uptoBulkAll {H : Type} : List (DataW H) → Nat
  | [] => 0
  | d :: r => uptoBulk d + uptoBulkAll r
def uptoBulkEntries {H : Type} : List (Lit × DataW H) → Nat
  | [] => 0
  | x :: r => uptoBulkEntry x + uptoBulkEntries r
def uptoBulkEntry {H : Type} : Lit × DataW H → Nat
  | (.string bytes, d) => bytes.length + uptoBulk d + 1
  | (_, d) => uptoBulk d + 1
 end
def uptoSmall : (H : Type) → List (DataW H) → Bool := fun _ ds => decide (uptoBulkAll ds ≤ 1048576)
def OpenSpec.upto (s : _root_.Go.ChangeSpec) : _root_.Go.OpenSpec := { _root_.Go.OpenSpec.ofChange s with cond := some uptoSmall }

/-- 'cressetlaw14.PolyValues', WHERE WHAT IT READS IS OF BULK AT MOST 1048576: true; the input reads as it did. -/
def polyValuesUptoRow : OpenClaim := { program := "ytoflhakneklimaa", sum := "a005b1f296adbfd77f6845621f166e3aacb3d0d1ef0401b49ed38788ae027188", func := "cresset/cressetlaw14.PolyValues", spec := "polyValues", inPlace := ["math/bits.Add64", "math/bits.Sub64"], unfollowed := true, recurses := true, apart := false, narrowed := true }
def PolyValuesUptoSaid : Prop := polyValuesUptoRow.holds Try.pinned (OpenSpec.upto polyValuesSpec)

/-- 'cressetlaw22.DealQuals', WHERE WHAT IT READS IS OF BULK AT MOST 1048576: true; the input reads as it did. -/
def dealQualsUptoRow : OpenClaim := { program := "ytoflhakneklimaa", sum := "a005b1f296adbfd77f6845621f166e3aacb3d0d1ef0401b49ed38788ae027188", func := "cresset/cressetlaw22.DealQuals", spec := "dealQuals", inPlace := ["math/bits.Sub64", "math/bits.Add64"], unfollowed := true, recurses := true, apart := false, narrowed := true }
def DealQualsUptoSaid : Prop := dealQualsUptoRow.holds Try.pinned (OpenSpec.upto dealQualsSpec)

/-- 'cressetlaw22.DealOrders', WHERE WHAT IT READS IS OF BULK AT MOST 1048576: true; the input reads as it did. -/
def dealOrdersUptoRow : OpenClaim := { program := "ytoflhakneklimaa", sum := "a005b1f296adbfd77f6845621f166e3aacb3d0d1ef0401b49ed38788ae027188", func := "cresset/cressetlaw22.DealOrders", spec := "dealOrders", inPlace := ["math/bits.Sub64", "math/bits.Add64"], unfollowed := true, recurses := true, apart := false, narrowed := true }
def DealOrdersUptoSaid : Prop := dealOrdersUptoRow.holds Try.pinned (OpenSpec.upto dealOrdersSpec)

/-- 'cressetlaw22.DealFresh', WHERE WHAT IT READS IS OF BULK AT MOST 1048576: true; the input reads as it did. -/
def dealFreshUptoRow : OpenClaim := { program := "ytoflhakneklimaa", sum := "a005b1f296adbfd77f6845621f166e3aacb3d0d1ef0401b49ed38788ae027188", func := "cresset/cressetlaw22.DealFresh", spec := "dealFresh", inPlace := ["math/bits.Sub64", "math/bits.Add64"], unfollowed := true, recurses := true, apart := false, narrowed := true }
def DealFreshUptoSaid : Prop := dealFreshUptoRow.holds Try.pinned (OpenSpec.upto dealFreshSpec)

/-- 'cressetlaw22.DealAnew', WHERE WHAT IT READS IS OF BULK AT MOST 1048576: true; the input reads as it did. -/
def dealAnewUptoRow : OpenClaim := { program := "ytoflhakneklimaa", sum := "a005b1f296adbfd77f6845621f166e3aacb3d0d1ef0401b49ed38788ae027188", func := "cresset/cressetlaw22.DealAnew", spec := "dealAnew", inPlace := ["math/bits.Sub64", "math/bits.Add64"], unfollowed := true, recurses := true, apart := false, narrowed := true }
def DealAnewUptoSaid : Prop := dealAnewUptoRow.holds Try.pinned (OpenSpec.upto dealAnewSpec)

end Rows
end Go.Proofs.Ytoflhakneklimaa
