/-
  No cell of these rows narrows 'for every input' (looked for: loops, veiled, ifaces, maps, wideKeys, modest, calm, conditions, laid).
  DERIVED. THE GIVEN ROWS OF THIS SEAT. 9 by the template 'for every input the law returns true; each argument reads behind the call as it read before'; 0 by the template 'total and deterministic' (their statements: YtkfghpniaahjjaaTotals.lean).
  GIVEN WITH THE SEED: the statements are not yours to turn. If you find one false, say at which input.
  Laid BY PROGRAM, IN A SANDBOX (cutbox-rows.mjs): the forced cells as the released guide's own fill.sh prints them over the translation 74f7184c2ca68aa7… (all of the seat's roots in one cut). By AI agents, Wed Nov 11 2026. No macro, syntax, notation, axiom, sorry.
-/
import Derived.Test.YtkfghpniaahjjaaChecked
import GoSem.Claim
import GoSem.ClaimJoined
import GoSem.ClaimMapViews
import Derived.JoinedTies
import Derived.KernelRfl
namespace Go.Proofs.Ytkfghpniaahjjaa
/- THE CELL 'sum', in the pinned program and in every row, IS THE sha256 OF THE DUMP (.gsa) THAT YtkfghpniaahjjaaProg.lean LOADS. Nothing in Lean hashes anything: it is a label: what it is worth is what the hold of that sum in a sandbox is worth. -/
noncomputable def Try.pinned : Pinned := { name := "ytkfghpniaahjjaa", sum := "74f7184c2ca68aa76696a1d75c0155da1f34314d8faed1812259f919a76e2a28", checked := Try.checked }
namespace Rows
def none {H : Type} : Left H := { results := [], args := [] }

/-- 'cressetlaw22.DealSetups': WHATEVER THE INPUT: true; the input reads as it did. -/
def dealSetupsSpec : ChangeSpec := { name := "dealSetups", fn := fun _ => fun
  | [d1, d2, d3, d4] => { results := [.lit (.bool true)], args := [d1, d2, d3, d4] }
  | _ => none }
def dealSetupsRow : OpenClaim := { program := "ytkfghpniaahjjaa", sum := "74f7184c2ca68aa76696a1d75c0155da1f34314d8faed1812259f919a76e2a28", func := "cresset/cressetlaw22.DealSetups", spec := "dealSetups", inPlace := ["math/bits.Sub64", "math/bits.Add64"], apart := false }
def DealSetupsSaid : Prop := dealSetupsRow.holds Try.pinned (OpenSpec.ofChange dealSetupsSpec)

/-- ITS FALSE NEIGHBOUR: 'it returns false'. Refute it at one input. -/
def dealSetupsWrong : ChangeSpec := { name := "dealSetups", fn := fun _ => fun
  | [d1, d2, d3, d4] => { results := [.lit (.bool false)], args := [d1, d2, d3, d4] }
  | _ => none }
def DealSetupsWrongFalsely : Prop := dealSetupsRow.holds Try.pinned (OpenSpec.ofChange dealSetupsWrong)

/-- 'cressetlaw07.G1Rules': WHATEVER THE INPUT: true; the input reads as it did. -/
def g1RulesSpec : ChangeSpec := { name := "g1Rules", fn := fun _ => fun
  | [d1, d2, d3] => { results := [.lit (.bool true)], args := [d1, d2, d3] }
  | _ => none }
def g1RulesRow : OpenClaim := { program := "ytkfghpniaahjjaa", sum := "74f7184c2ca68aa76696a1d75c0155da1f34314d8faed1812259f919a76e2a28", func := "cresset/cressetlaw07.G1Rules", spec := "g1Rules", inPlace := ["math/bits.Sub64", "math/bits.Add64"], apart := false }
def G1RulesSaid : Prop := g1RulesRow.holds Try.pinned (OpenSpec.ofChange g1RulesSpec)

/-- ITS FALSE NEIGHBOUR: 'it returns false'. Refute it at one input. -/
def g1RulesWrong : ChangeSpec := { name := "g1Rules", fn := fun _ => fun
  | [d1, d2, d3] => { results := [.lit (.bool false)], args := [d1, d2, d3] }
  | _ => none }
def G1RulesWrongFalsely : Prop := g1RulesRow.holds Try.pinned (OpenSpec.ofChange g1RulesWrong)

/-- 'cressetlaw07.G1Lists': WHATEVER THE INPUT: true; the input reads as it did. -/
def g1ListsSpec : ChangeSpec := { name := "g1Lists", fn := fun _ => fun
  | [d1, d2] => { results := [.lit (.bool true)], args := [d1, d2] }
  | _ => none }
def g1ListsRow : OpenClaim := { program := "ytkfghpniaahjjaa", sum := "74f7184c2ca68aa76696a1d75c0155da1f34314d8faed1812259f919a76e2a28", func := "cresset/cressetlaw07.G1Lists", spec := "g1Lists", inPlace := ["math/bits.Sub64", "math/bits.Add64"], apart := false }
def G1ListsSaid : Prop := g1ListsRow.holds Try.pinned (OpenSpec.ofChange g1ListsSpec)

/-- ITS FALSE NEIGHBOUR: 'it returns false'. Refute it at one input. -/
def g1ListsWrong : ChangeSpec := { name := "g1Lists", fn := fun _ => fun
  | [d1, d2] => { results := [.lit (.bool false)], args := [d1, d2] }
  | _ => none }
def G1ListsWrongFalsely : Prop := g1ListsRow.holds Try.pinned (OpenSpec.ofChange g1ListsWrong)

/-- 'cressetlaw07.G1Scalars': WHATEVER THE INPUT: true; the input reads as it did. -/
def g1ScalarsSpec : ChangeSpec := { name := "g1Scalars", fn := fun _ => fun
  | [d1, d2, d3] => { results := [.lit (.bool true)], args := [d1, d2, d3] }
  | _ => none }
def g1ScalarsRow : OpenClaim := { program := "ytkfghpniaahjjaa", sum := "74f7184c2ca68aa76696a1d75c0155da1f34314d8faed1812259f919a76e2a28", func := "cresset/cressetlaw07.G1Scalars", spec := "g1Scalars", inPlace := ["math/bits.Sub64", "math/bits.Add64"], apart := false }
def G1ScalarsSaid : Prop := g1ScalarsRow.holds Try.pinned (OpenSpec.ofChange g1ScalarsSpec)

/-- ITS FALSE NEIGHBOUR: 'it returns false'. Refute it at one input. -/
def g1ScalarsWrong : ChangeSpec := { name := "g1Scalars", fn := fun _ => fun
  | [d1, d2, d3] => { results := [.lit (.bool false)], args := [d1, d2, d3] }
  | _ => none }
def G1ScalarsWrongFalsely : Prop := g1ScalarsRow.holds Try.pinned (OpenSpec.ofChange g1ScalarsWrong)

/-- 'cressetlaw07.G1Adds': WHATEVER THE INPUT: true; the input reads as it did. -/
def g1AddsSpec : ChangeSpec := { name := "g1Adds", fn := fun _ => fun
  | [d1, d2, d3, d4, d5] => { results := [.lit (.bool true)], args := [d1, d2, d3, d4, d5] }
  | _ => none }
def g1AddsRow : OpenClaim := { program := "ytkfghpniaahjjaa", sum := "74f7184c2ca68aa76696a1d75c0155da1f34314d8faed1812259f919a76e2a28", func := "cresset/cressetlaw07.G1Adds", spec := "g1Adds", inPlace := ["math/bits.Sub64", "math/bits.Add64"], apart := false }
def G1AddsSaid : Prop := g1AddsRow.holds Try.pinned (OpenSpec.ofChange g1AddsSpec)

/-- ITS FALSE NEIGHBOUR: 'it returns false'. Refute it at one input. -/
def g1AddsWrong : ChangeSpec := { name := "g1Adds", fn := fun _ => fun
  | [d1, d2, d3, d4, d5] => { results := [.lit (.bool false)], args := [d1, d2, d3, d4, d5] }
  | _ => none }
def G1AddsWrongFalsely : Prop := g1AddsRow.holds Try.pinned (OpenSpec.ofChange g1AddsWrong)

/-- 'cressetlaw07.G1Counts': WHATEVER THE INPUT: true; the input reads as it did. -/
def g1CountsSpec : ChangeSpec := { name := "g1Counts", fn := fun _ => fun
  | [d1, d2, d3] => { results := [.lit (.bool true)], args := [d1, d2, d3] }
  | _ => none }
def g1CountsRow : OpenClaim := { program := "ytkfghpniaahjjaa", sum := "74f7184c2ca68aa76696a1d75c0155da1f34314d8faed1812259f919a76e2a28", func := "cresset/cressetlaw07.G1Counts", spec := "g1Counts", inPlace := ["math/bits.Sub64", "math/bits.Add64"], apart := false }
def G1CountsSaid : Prop := g1CountsRow.holds Try.pinned (OpenSpec.ofChange g1CountsSpec)

/-- ITS FALSE NEIGHBOUR: 'it returns false'. Refute it at one input. -/
def g1CountsWrong : ChangeSpec := { name := "g1Counts", fn := fun _ => fun
  | [d1, d2, d3] => { results := [.lit (.bool false)], args := [d1, d2, d3] }
  | _ => none }
def G1CountsWrongFalsely : Prop := g1CountsRow.holds Try.pinned (OpenSpec.ofChange g1CountsWrong)

/-- 'cressetlaw07.G1Groups': WHATEVER THE INPUT: true; the input reads as it did. -/
def g1GroupsSpec : ChangeSpec := { name := "g1Groups", fn := fun _ => fun
  | [d1, d2] => { results := [.lit (.bool true)], args := [d1, d2] }
  | _ => none }
def g1GroupsRow : OpenClaim := { program := "ytkfghpniaahjjaa", sum := "74f7184c2ca68aa76696a1d75c0155da1f34314d8faed1812259f919a76e2a28", func := "cresset/cressetlaw07.G1Groups", spec := "g1Groups", inPlace := ["math/bits.Sub64", "math/bits.Add64"], apart := false }
def G1GroupsSaid : Prop := g1GroupsRow.holds Try.pinned (OpenSpec.ofChange g1GroupsSpec)

/-- ITS FALSE NEIGHBOUR: 'it returns false'. Refute it at one input. -/
def g1GroupsWrong : ChangeSpec := { name := "g1Groups", fn := fun _ => fun
  | [d1, d2] => { results := [.lit (.bool false)], args := [d1, d2] }
  | _ => none }
def G1GroupsWrongFalsely : Prop := g1GroupsRow.holds Try.pinned (OpenSpec.ofChange g1GroupsWrong)

/-- 'cressetlaw08.G2Rules': WHATEVER THE INPUT: true; the input reads as it did. -/
def g2RulesSpec : ChangeSpec := { name := "g2Rules", fn := fun _ => fun
  | [d1, d2, d3] => { results := [.lit (.bool true)], args := [d1, d2, d3] }
  | _ => none }
def g2RulesRow : OpenClaim := { program := "ytkfghpniaahjjaa", sum := "74f7184c2ca68aa76696a1d75c0155da1f34314d8faed1812259f919a76e2a28", func := "cresset/cressetlaw08.G2Rules", spec := "g2Rules", inPlace := ["math/bits.Sub64", "math/bits.Add64"], apart := false }
def G2RulesSaid : Prop := g2RulesRow.holds Try.pinned (OpenSpec.ofChange g2RulesSpec)

/-- ITS FALSE NEIGHBOUR: 'it returns false'. Refute it at one input. -/
def g2RulesWrong : ChangeSpec := { name := "g2Rules", fn := fun _ => fun
  | [d1, d2, d3] => { results := [.lit (.bool false)], args := [d1, d2, d3] }
  | _ => none }
def G2RulesWrongFalsely : Prop := g2RulesRow.holds Try.pinned (OpenSpec.ofChange g2RulesWrong)

/-- 'cressetlaw08.G2Lists': WHATEVER THE INPUT: true; the input reads as it did. -/
def g2ListsSpec : ChangeSpec := { name := "g2Lists", fn := fun _ => fun
  | [d1, d2] => { results := [.lit (.bool true)], args := [d1, d2] }
  | _ => none }
def g2ListsRow : OpenClaim := { program := "ytkfghpniaahjjaa", sum := "74f7184c2ca68aa76696a1d75c0155da1f34314d8faed1812259f919a76e2a28", func := "cresset/cressetlaw08.G2Lists", spec := "g2Lists", inPlace := ["math/bits.Sub64", "math/bits.Add64"], apart := false }
def G2ListsSaid : Prop := g2ListsRow.holds Try.pinned (OpenSpec.ofChange g2ListsSpec)

/-- ITS FALSE NEIGHBOUR: 'it returns false'. Refute it at one input. -/
def g2ListsWrong : ChangeSpec := { name := "g2Lists", fn := fun _ => fun
  | [d1, d2] => { results := [.lit (.bool false)], args := [d1, d2] }
  | _ => none }
def G2ListsWrongFalsely : Prop := g2ListsRow.holds Try.pinned (OpenSpec.ofChange g2ListsWrong)

/- THE SECOND FORM. 'bulk': how many values and letters a reading holds, each counted each time it is reached (what is shared counts as often as it is met; a slice's spare places count too). A statement '..UptoSaid' is the law's where the arguments, and the package variables that the reading takes, are together of bulk at most 1048576: NARROWER than '..Said'. Prove '..Said' where nothing that the law and all that it calls make is longer than what came in: it says more and counts as full. Else prove '..UptoSaid'. A law counts once. -/
mutual
def uptoBulk {H : Type} : DataW H → Nat
  | .lit (.string bytes) => bytes.length + 1
  | .lit _ => 1
  | .nil => 1
  | .ptr d => uptoBulk d + 1
  | .slice elems spare => uptoBulkAll elems + uptoBulkAll spare + 1
  | .agg parts => uptoBulkAll parts + 1
  | .iface _ d => uptoBulk d + 1
  | .map entries => uptoBulkEntries entries + 1
  | .held _ => 1
def uptoBulkAll {H : Type} : List (DataW H) → Nat
  | [] => 0
  | d :: r => uptoBulk d + uptoBulkAll r
def uptoBulkEntries {H : Type} : List (Lit × DataW H) → Nat
  | [] => 0
  | x :: r => uptoBulkEntry x + uptoBulkEntries r
def uptoBulkEntry {H : Type} : Lit × DataW H → Nat
  | (.string bytes, d) => bytes.length + uptoBulk d + 1
  | (_, d) => uptoBulk d + 1
 end
def uptoSmall : (H : Type) → List (DataW H) → Bool := fun _ ds => decide (uptoBulkAll ds ≤ 1048576)
def OpenSpec.upto (s : _root_.Go.ChangeSpec) : _root_.Go.OpenSpec := { _root_.Go.OpenSpec.ofChange s with cond := some uptoSmall }

/-- 'cressetlaw22.DealSetups', WHERE WHAT IT READS IS OF BULK AT MOST 1048576: true; the input reads as it did. -/
def dealSetupsUptoRow : OpenClaim := { program := "ytkfghpniaahjjaa", sum := "74f7184c2ca68aa76696a1d75c0155da1f34314d8faed1812259f919a76e2a28", func := "cresset/cressetlaw22.DealSetups", spec := "dealSetups", inPlace := ["math/bits.Sub64", "math/bits.Add64"], apart := false, narrowed := true }
def DealSetupsUptoSaid : Prop := dealSetupsUptoRow.holds Try.pinned (OpenSpec.upto dealSetupsSpec)

/-- 'cressetlaw07.G1Rules', WHERE WHAT IT READS IS OF BULK AT MOST 1048576: true; the input reads as it did. -/
def g1RulesUptoRow : OpenClaim := { program := "ytkfghpniaahjjaa", sum := "74f7184c2ca68aa76696a1d75c0155da1f34314d8faed1812259f919a76e2a28", func := "cresset/cressetlaw07.G1Rules", spec := "g1Rules", inPlace := ["math/bits.Sub64", "math/bits.Add64"], apart := false, narrowed := true }
def G1RulesUptoSaid : Prop := g1RulesUptoRow.holds Try.pinned (OpenSpec.upto g1RulesSpec)

/-- 'cressetlaw07.G1Lists', WHERE WHAT IT READS IS OF BULK AT MOST 1048576: true; the input reads as it did. -/
def g1ListsUptoRow : OpenClaim := { program := "ytkfghpniaahjjaa", sum := "74f7184c2ca68aa76696a1d75c0155da1f34314d8faed1812259f919a76e2a28", func := "cresset/cressetlaw07.G1Lists", spec := "g1Lists", inPlace := ["math/bits.Sub64", "math/bits.Add64"], apart := false, narrowed := true }
def G1ListsUptoSaid : Prop := g1ListsUptoRow.holds Try.pinned (OpenSpec.upto g1ListsSpec)

/-- 'cressetlaw07.G1Scalars', WHERE WHAT IT READS IS OF BULK AT MOST 1048576: true; the input reads as it did. -/
def g1ScalarsUptoRow : OpenClaim := { program := "ytkfghpniaahjjaa", sum := "74f7184c2ca68aa76696a1d75c0155da1f34314d8faed1812259f919a76e2a28", func := "cresset/cressetlaw07.G1Scalars", spec := "g1Scalars", inPlace := ["math/bits.Sub64", "math/bits.Add64"], apart := false, narrowed := true }
def G1ScalarsUptoSaid : Prop := g1ScalarsUptoRow.holds Try.pinned (OpenSpec.upto g1ScalarsSpec)

/-- 'cressetlaw07.G1Adds', WHERE WHAT IT READS IS OF BULK AT MOST 1048576: true; the input reads as it did. -/
def g1AddsUptoRow : OpenClaim := { program := "ytkfghpniaahjjaa", sum := "74f7184c2ca68aa76696a1d75c0155da1f34314d8faed1812259f919a76e2a28", func := "cresset/cressetlaw07.G1Adds", spec := "g1Adds", inPlace := ["math/bits.Sub64", "math/bits.Add64"], apart := false, narrowed := true }
def G1AddsUptoSaid : Prop := g1AddsUptoRow.holds Try.pinned (OpenSpec.upto g1AddsSpec)

/-- 'cressetlaw07.G1Counts', WHERE WHAT IT READS IS OF BULK AT MOST 1048576: true; the input reads as it did. -/
def g1CountsUptoRow : OpenClaim := { program := "ytkfghpniaahjjaa", sum := "74f7184c2ca68aa76696a1d75c0155da1f34314d8faed1812259f919a76e2a28", func := "cresset/cressetlaw07.G1Counts", spec := "g1Counts", inPlace := ["math/bits.Sub64", "math/bits.Add64"], apart := false, narrowed := true }
def G1CountsUptoSaid : Prop := g1CountsUptoRow.holds Try.pinned (OpenSpec.upto g1CountsSpec)

/-- 'cressetlaw07.G1Groups', WHERE WHAT IT READS IS OF BULK AT MOST 1048576: true; the input reads as it did. -/
def g1GroupsUptoRow : OpenClaim := { program := "ytkfghpniaahjjaa", sum := "74f7184c2ca68aa76696a1d75c0155da1f34314d8faed1812259f919a76e2a28", func := "cresset/cressetlaw07.G1Groups", spec := "g1Groups", inPlace := ["math/bits.Sub64", "math/bits.Add64"], apart := false, narrowed := true }
def G1GroupsUptoSaid : Prop := g1GroupsUptoRow.holds Try.pinned (OpenSpec.upto g1GroupsSpec)

/-- 'cressetlaw08.G2Rules', WHERE WHAT IT READS IS OF BULK AT MOST 1048576: true; the input reads as it did. -/
def g2RulesUptoRow : OpenClaim := { program := "ytkfghpniaahjjaa", sum := "74f7184c2ca68aa76696a1d75c0155da1f34314d8faed1812259f919a76e2a28", func := "cresset/cressetlaw08.G2Rules", spec := "g2Rules", inPlace := ["math/bits.Sub64", "math/bits.Add64"], apart := false, narrowed := true }
def G2RulesUptoSaid : Prop := g2RulesUptoRow.holds Try.pinned (OpenSpec.upto g2RulesSpec)

/-- 'cressetlaw08.G2Lists', WHERE WHAT IT READS IS OF BULK AT MOST 1048576: true; the input reads as it did. -/
def g2ListsUptoRow : OpenClaim := { program := "ytkfghpniaahjjaa", sum := "74f7184c2ca68aa76696a1d75c0155da1f34314d8faed1812259f919a76e2a28", func := "cresset/cressetlaw08.G2Lists", spec := "g2Lists", inPlace := ["math/bits.Sub64", "math/bits.Add64"], apart := false, narrowed := true }
def G2ListsUptoSaid : Prop := g2ListsUptoRow.holds Try.pinned (OpenSpec.upto g2ListsSpec)

end Rows
end Go.Proofs.Ytkfghpniaahjjaa
