/-
  NARROWER THAN 'FOR EVERY INPUT', by the rows' own cells (each row's printed sentence says how): XmdExpands: laid · XmdNumbers: laid · HashMaps: laid · BeaconKeys: laid · HashClears: laid · HashTexts: laid · HashSums: laid.
  DERIVED. THE GIVEN ROWS OF THIS SEAT. 7 by the template 'for every input the law returns true; each argument reads behind the call as it read before'; 0 by the template 'total and deterministic' (their statements: YtbfimfdhmggieaaDoorTotals.lean).
  GIVEN WITH THE SEED: the statements are not yours to turn. If you find one false, say at which input.
  Laid BY PROGRAM, IN A SANDBOX (cutbox-rows.mjs): the forced cells as the released guide's own fill.sh prints them over the translation 81b1983343f72154… (all of the seat's roots in one cut). By AI agents, Wed Nov 11 2026. No macro, syntax, notation, axiom, sorry.
-/
import Derived.Test.YtbfimfdhmggieaaDoorChecked
import GoSem.Claim
import GoSem.ClaimJoined
import GoSem.ClaimMapViews
import Derived.JoinedTies
import Derived.KernelRfl
namespace Go.Proofs.YtbfimfdhmggieaaDoor
/- THE CELL 'sum', in the pinned program and in every row, IS THE sha256 OF THE DUMP (.gsa) THAT YtbfimfdhmggieaaDoorProg.lean LOADS. Nothing in Lean hashes anything: it is a label: what it is worth is what the hold of that sum in a sandbox is worth. -/
noncomputable def Tryd.pinned : Pinned := { name := "ytbfimfdhmggieaadoor", sum := "81b1983343f72154f7971c071dce1cd90eb4ea172c175a22e4d7c509e0868a59", checked := Tryd.checked }
namespace Rows
def none {H : Type} : Left H := { results := [], args := [] }

/- WHAT THE LISTED PACKAGE-LEVEL VARIABLES READ AS WHEN THE CALL BEGINS. Each datum BY PROGRAM (the guide's laid-datum.mjs) off the statement by which the dump's own 'gosem.cut.vars' lays the variable. In a bare row this is a premise. The card (YtbfimfdhmggieaaDoorCards.lean) ties it to the program's text. -/
def laid_cresset_sha_first {H : Type} : DataW H := .agg [.lit (.int .u32 1779033703), .lit (.int .u32 3144134277), .lit (.int .u32 1013904242), .lit (.int .u32 2773480762), .lit (.int .u32 1359893119), .lit (.int .u32 2600822924), .lit (.int .u32 528734635), .lit (.int .u32 1541459225)]
def laid_cresset_sha_roots {H : Type} : DataW H := .agg [.lit (.int .u32 1116352408), .lit (.int .u32 1899447441), .lit (.int .u32 3049323471), .lit (.int .u32 3921009573), .lit (.int .u32 961987163), .lit (.int .u32 1508970993), .lit (.int .u32 2453635748), .lit (.int .u32 2870763221), .lit (.int .u32 3624381080), .lit (.int .u32 310598401), .lit (.int .u32 607225278), .lit (.int .u32 1426881987), .lit (.int .u32 1925078388), .lit (.int .u32 2162078206), .lit (.int .u32 2614888103), .lit (.int .u32 3248222580), .lit (.int .u32 3835390401), .lit (.int .u32 4022224774), .lit (.int .u32 264347078), .lit (.int .u32 604807628), .lit (.int .u32 770255983), .lit (.int .u32 1249150122), .lit (.int .u32 1555081692), .lit (.int .u32 1996064986), .lit (.int .u32 2554220882), .lit (.int .u32 2821834349), .lit (.int .u32 2952996808), .lit (.int .u32 3210313671), .lit (.int .u32 3336571891), .lit (.int .u32 3584528711), .lit (.int .u32 113926993), .lit (.int .u32 338241895), .lit (.int .u32 666307205), .lit (.int .u32 773529912), .lit (.int .u32 1294757372), .lit (.int .u32 1396182291), .lit (.int .u32 1695183700), .lit (.int .u32 1986661051), .lit (.int .u32 2177026350), .lit (.int .u32 2456956037), .lit (.int .u32 2730485921), .lit (.int .u32 2820302411), .lit (.int .u32 3259730800), .lit (.int .u32 3345764771), .lit (.int .u32 3516065817), .lit (.int .u32 3600352804), .lit (.int .u32 4094571909), .lit (.int .u32 275423344), .lit (.int .u32 430227734), .lit (.int .u32 506948616), .lit (.int .u32 659060556), .lit (.int .u32 883997877), .lit (.int .u32 958139571), .lit (.int .u32 1322822218), .lit (.int .u32 1537002063), .lit (.int .u32 1747873779), .lit (.int .u32 1955562222), .lit (.int .u32 2024104815), .lit (.int .u32 2227730452), .lit (.int .u32 2361852424), .lit (.int .u32 2428436474), .lit (.int .u32 2756734187), .lit (.int .u32 3204031479), .lit (.int .u32 3329325298)]

/-- 'cressetlaw11.XmdExpands': WHATEVER THE INPUT: true; the input reads as it did. -/
def xmdExpandsSpec : ChangeSpec := { name := "xmdExpands", fn := fun _ => fun
  | [d1, d2, d3] => { results := [.lit (.bool true)], args := [d1, d2, d3] }
  | _ => none }
def xmdExpandsRow : OpenClaim := { program := "ytbfimfdhmggieaadoor", sum := "81b1983343f72154f7971c071dce1cd90eb4ea172c175a22e4d7c509e0868a59", func := "cresset/cressetlaw11.XmdExpands", spec := "xmdExpands", named := ["cresset/sha.first", "cresset/sha.roots"], apart := false, laid := [("cresset/sha.first", laid_cresset_sha_first), ("cresset/sha.roots", laid_cresset_sha_roots)] }
def XmdExpandsSaid : Prop := xmdExpandsRow.holds Tryd.pinned (OpenSpec.ofChange xmdExpandsSpec)

/-- ITS FALSE NEIGHBOUR: 'it returns false'. Refute it at one input. -/
def xmdExpandsWrong : ChangeSpec := { name := "xmdExpands", fn := fun _ => fun
  | [d1, d2, d3] => { results := [.lit (.bool false)], args := [d1, d2, d3] }
  | _ => none }
def XmdExpandsWrongFalsely : Prop := xmdExpandsRow.holds Tryd.pinned (OpenSpec.ofChange xmdExpandsWrong)

/-- 'cressetlaw11.XmdNumbers': WHATEVER THE INPUT: true; the input reads as it did. -/
def xmdNumbersSpec : ChangeSpec := { name := "xmdNumbers", fn := fun _ => fun
  | [d1, d2, d3] => { results := [.lit (.bool true)], args := [d1, d2, d3] }
  | _ => none }
def xmdNumbersRow : OpenClaim := { program := "ytbfimfdhmggieaadoor", sum := "81b1983343f72154f7971c071dce1cd90eb4ea172c175a22e4d7c509e0868a59", func := "cresset/cressetlaw11.XmdNumbers", spec := "xmdNumbers", inPlace := ["math/bits.Add64", "math/bits.Sub64"], named := ["cresset/sha.first", "cresset/sha.roots"], apart := false, laid := [("cresset/sha.first", laid_cresset_sha_first), ("cresset/sha.roots", laid_cresset_sha_roots)] }
def XmdNumbersSaid : Prop := xmdNumbersRow.holds Tryd.pinned (OpenSpec.ofChange xmdNumbersSpec)

/-- ITS FALSE NEIGHBOUR: 'it returns false'. Refute it at one input. -/
def xmdNumbersWrong : ChangeSpec := { name := "xmdNumbers", fn := fun _ => fun
  | [d1, d2, d3] => { results := [.lit (.bool false)], args := [d1, d2, d3] }
  | _ => none }
def XmdNumbersWrongFalsely : Prop := xmdNumbersRow.holds Tryd.pinned (OpenSpec.ofChange xmdNumbersWrong)

/-- 'cressetlaw12.HashMaps': WHATEVER THE INPUT: true; the input reads as it did. -/
def hashMapsSpec : ChangeSpec := { name := "hashMaps", fn := fun _ => fun
  | [d1, d2] => { results := [.lit (.bool true)], args := [d1, d2] }
  | _ => none }
def hashMapsRow : OpenClaim := { program := "ytbfimfdhmggieaadoor", sum := "81b1983343f72154f7971c071dce1cd90eb4ea172c175a22e4d7c509e0868a59", func := "cresset/cressetlaw12.HashMaps", spec := "hashMaps", inPlace := ["math/bits.Add64", "math/bits.Sub64"], unfollowed := true, recurses := true, named := ["cresset/sha.first", "cresset/sha.roots"], apart := false, laid := [("cresset/sha.first", laid_cresset_sha_first), ("cresset/sha.roots", laid_cresset_sha_roots)] }
def HashMapsSaid : Prop := hashMapsRow.holds Tryd.pinned (OpenSpec.ofChange hashMapsSpec)

/-- ITS FALSE NEIGHBOUR: 'it returns false'. Refute it at one input. -/
def hashMapsWrong : ChangeSpec := { name := "hashMaps", fn := fun _ => fun
  | [d1, d2] => { results := [.lit (.bool false)], args := [d1, d2] }
  | _ => none }
def HashMapsWrongFalsely : Prop := hashMapsRow.holds Tryd.pinned (OpenSpec.ofChange hashMapsWrong)

/-- 'cressetlaw24.BeaconKeys': WHATEVER THE INPUT: true; the input reads as it did. -/
def beaconKeysSpec : ChangeSpec := { name := "beaconKeys", fn := fun _ => fun
  | [d1, d2, d3, d4] => { results := [.lit (.bool true)], args := [d1, d2, d3, d4] }
  | _ => none }
def beaconKeysRow : OpenClaim := { program := "ytbfimfdhmggieaadoor", sum := "81b1983343f72154f7971c071dce1cd90eb4ea172c175a22e4d7c509e0868a59", func := "cresset/cressetlaw24.BeaconKeys", spec := "beaconKeys", inPlace := ["math/bits.Add64", "math/bits.Sub64"], named := ["cresset/sha.first", "cresset/sha.roots"], apart := false, laid := [("cresset/sha.first", laid_cresset_sha_first), ("cresset/sha.roots", laid_cresset_sha_roots)] }
def BeaconKeysSaid : Prop := beaconKeysRow.holds Tryd.pinned (OpenSpec.ofChange beaconKeysSpec)

/-- ITS FALSE NEIGHBOUR: 'it returns false'. Refute it at one input. -/
def beaconKeysWrong : ChangeSpec := { name := "beaconKeys", fn := fun _ => fun
  | [d1, d2, d3, d4] => { results := [.lit (.bool false)], args := [d1, d2, d3, d4] }
  | _ => none }
def BeaconKeysWrongFalsely : Prop := beaconKeysRow.holds Tryd.pinned (OpenSpec.ofChange beaconKeysWrong)

/-- 'cressetlaw12.HashClears': WHATEVER THE INPUT: true; the input reads as it did. -/
def hashClearsSpec : ChangeSpec := { name := "hashClears", fn := fun _ => fun
  | [d1, d2] => { results := [.lit (.bool true)], args := [d1, d2] }
  | _ => none }
def hashClearsRow : OpenClaim := { program := "ytbfimfdhmggieaadoor", sum := "81b1983343f72154f7971c071dce1cd90eb4ea172c175a22e4d7c509e0868a59", func := "cresset/cressetlaw12.HashClears", spec := "hashClears", inPlace := ["math/bits.Add64", "math/bits.Sub64"], unfollowed := true, recurses := true, named := ["cresset/sha.first", "cresset/sha.roots"], apart := false, laid := [("cresset/sha.first", laid_cresset_sha_first), ("cresset/sha.roots", laid_cresset_sha_roots)] }
def HashClearsSaid : Prop := hashClearsRow.holds Tryd.pinned (OpenSpec.ofChange hashClearsSpec)

/-- ITS FALSE NEIGHBOUR: 'it returns false'. Refute it at one input. -/
def hashClearsWrong : ChangeSpec := { name := "hashClears", fn := fun _ => fun
  | [d1, d2] => { results := [.lit (.bool false)], args := [d1, d2] }
  | _ => none }
def HashClearsWrongFalsely : Prop := hashClearsRow.holds Tryd.pinned (OpenSpec.ofChange hashClearsWrong)

/-- 'cressetlaw12.HashTexts': WHATEVER THE INPUT: true; the input reads as it did. -/
def hashTextsSpec : ChangeSpec := { name := "hashTexts", fn := fun _ => fun
  | [d1, d2] => { results := [.lit (.bool true)], args := [d1, d2] }
  | _ => none }
def hashTextsRow : OpenClaim := { program := "ytbfimfdhmggieaadoor", sum := "81b1983343f72154f7971c071dce1cd90eb4ea172c175a22e4d7c509e0868a59", func := "cresset/cressetlaw12.HashTexts", spec := "hashTexts", inPlace := ["math/bits.Add64", "math/bits.Sub64"], unfollowed := true, recurses := true, named := ["cresset/sha.first", "cresset/sha.roots"], apart := false, laid := [("cresset/sha.first", laid_cresset_sha_first), ("cresset/sha.roots", laid_cresset_sha_roots)] }
def HashTextsSaid : Prop := hashTextsRow.holds Tryd.pinned (OpenSpec.ofChange hashTextsSpec)

/-- ITS FALSE NEIGHBOUR: 'it returns false'. Refute it at one input. -/
def hashTextsWrong : ChangeSpec := { name := "hashTexts", fn := fun _ => fun
  | [d1, d2] => { results := [.lit (.bool false)], args := [d1, d2] }
  | _ => none }
def HashTextsWrongFalsely : Prop := hashTextsRow.holds Tryd.pinned (OpenSpec.ofChange hashTextsWrong)

/-- 'cressetlaw12.HashSums': WHATEVER THE INPUT: true; the input reads as it did. -/
def hashSumsSpec : ChangeSpec := { name := "hashSums", fn := fun _ => fun
  | [d1, d2] => { results := [.lit (.bool true)], args := [d1, d2] }
  | _ => none }
def hashSumsRow : OpenClaim := { program := "ytbfimfdhmggieaadoor", sum := "81b1983343f72154f7971c071dce1cd90eb4ea172c175a22e4d7c509e0868a59", func := "cresset/cressetlaw12.HashSums", spec := "hashSums", inPlace := ["math/bits.Add64", "math/bits.Sub64"], unfollowed := true, recurses := true, named := ["cresset/sha.first", "cresset/sha.roots"], apart := false, laid := [("cresset/sha.first", laid_cresset_sha_first), ("cresset/sha.roots", laid_cresset_sha_roots)] }
def HashSumsSaid : Prop := hashSumsRow.holds Tryd.pinned (OpenSpec.ofChange hashSumsSpec)

/-- ITS FALSE NEIGHBOUR: 'it returns false'. Refute it at one input. -/
def hashSumsWrong : ChangeSpec := { name := "hashSums", fn := fun _ => fun
  | [d1, d2] => { results := [.lit (.bool false)], args := [d1, d2] }
  | _ => none }
def HashSumsWrongFalsely : Prop := hashSumsRow.holds Tryd.pinned (OpenSpec.ofChange hashSumsWrong)

/- THE SECOND FORM. 'bulk': how many values and letters a reading holds, each counted each time it is reached (what is shared counts as often as it is met; a slice's spare places count too). A statement '..UptoSaid' is the law's where the arguments, and the package variables that the reading takes, are together of bulk at most 1048576: NARROWER than '..Said'. Prove '..Said' where nothing that the law and all that it calls make is longer than what came in: it says more and counts as full. Else prove '..UptoSaid'. A law counts once. -/
mutual
def uptoBulk {H : Type} : DataW H → Nat
  | .lit (.string bytes) => bytes.length + 1
  | .lit _ => 1
  | .nil => 1
  | .ptr d => uptoBulk d + 1
  | .slice elems spare => uptoBulkAll elems + uptoBulkAll spare + 1
  | .agg parts => uptoBulkAll parts + 1
  | .iface _ d => uptoBulk d + 1
  | .map entries => uptoBulkEntries entries + 1
  | .held _ => 1
def uptoBulkAll {H : Type} : List (DataW H) → Nat
  | [] => 0
  | d :: r => uptoBulk d + uptoBulkAll r
def uptoBulkEntries {H : Type} : List (Lit × DataW H) → Nat
  | [] => 0
  | x :: r => uptoBulkEntry x + uptoBulkEntries r
def uptoBulkEntry {H : Type} : Lit × DataW H → Nat
  | (.string bytes, d) => bytes.length + uptoBulk d + 1
  | (_, d) => uptoBulk d + 1
 end
def uptoSmall : (H : Type) → List (DataW H) → Bool := fun _ ds => decide (uptoBulkAll ds ≤ 1048576)
def OpenSpec.upto (s : _root_.Go.ChangeSpec) : _root_.Go.OpenSpec := { _root_.Go.OpenSpec.ofChange s with cond := some uptoSmall }

/-- 'cressetlaw11.XmdExpands', WHERE WHAT IT READS IS OF BULK AT MOST 1048576: true; the input reads as it did. -/
def xmdExpandsUptoRow : OpenClaim := { program := "ytbfimfdhmggieaadoor", sum := "81b1983343f72154f7971c071dce1cd90eb4ea172c175a22e4d7c509e0868a59", func := "cresset/cressetlaw11.XmdExpands", spec := "xmdExpands", named := ["cresset/sha.first", "cresset/sha.roots"], apart := false, laid := [("cresset/sha.first", laid_cresset_sha_first), ("cresset/sha.roots", laid_cresset_sha_roots)], narrowed := true }
def XmdExpandsUptoSaid : Prop := xmdExpandsUptoRow.holds Tryd.pinned (OpenSpec.upto xmdExpandsSpec)

/-- 'cressetlaw11.XmdNumbers', WHERE WHAT IT READS IS OF BULK AT MOST 1048576: true; the input reads as it did. -/
def xmdNumbersUptoRow : OpenClaim := { program := "ytbfimfdhmggieaadoor", sum := "81b1983343f72154f7971c071dce1cd90eb4ea172c175a22e4d7c509e0868a59", func := "cresset/cressetlaw11.XmdNumbers", spec := "xmdNumbers", inPlace := ["math/bits.Add64", "math/bits.Sub64"], named := ["cresset/sha.first", "cresset/sha.roots"], apart := false, laid := [("cresset/sha.first", laid_cresset_sha_first), ("cresset/sha.roots", laid_cresset_sha_roots)], narrowed := true }
def XmdNumbersUptoSaid : Prop := xmdNumbersUptoRow.holds Tryd.pinned (OpenSpec.upto xmdNumbersSpec)

/-- 'cressetlaw12.HashMaps', WHERE WHAT IT READS IS OF BULK AT MOST 1048576: true; the input reads as it did. -/
def hashMapsUptoRow : OpenClaim := { program := "ytbfimfdhmggieaadoor", sum := "81b1983343f72154f7971c071dce1cd90eb4ea172c175a22e4d7c509e0868a59", func := "cresset/cressetlaw12.HashMaps", spec := "hashMaps", inPlace := ["math/bits.Add64", "math/bits.Sub64"], unfollowed := true, recurses := true, named := ["cresset/sha.first", "cresset/sha.roots"], apart := false, laid := [("cresset/sha.first", laid_cresset_sha_first), ("cresset/sha.roots", laid_cresset_sha_roots)], narrowed := true }
def HashMapsUptoSaid : Prop := hashMapsUptoRow.holds Tryd.pinned (OpenSpec.upto hashMapsSpec)

/-- 'cressetlaw24.BeaconKeys', WHERE WHAT IT READS IS OF BULK AT MOST 1048576: true; the input reads as it did. -/
def beaconKeysUptoRow : OpenClaim := { program := "ytbfimfdhmggieaadoor", sum := "81b1983343f72154f7971c071dce1cd90eb4ea172c175a22e4d7c509e0868a59", func := "cresset/cressetlaw24.BeaconKeys", spec := "beaconKeys", inPlace := ["math/bits.Add64", "math/bits.Sub64"], named := ["cresset/sha.first", "cresset/sha.roots"], apart := false, laid := [("cresset/sha.first", laid_cresset_sha_first), ("cresset/sha.roots", laid_cresset_sha_roots)], narrowed := true }
def BeaconKeysUptoSaid : Prop := beaconKeysUptoRow.holds Tryd.pinned (OpenSpec.upto beaconKeysSpec)

/-- 'cressetlaw12.HashClears', WHERE WHAT IT READS IS OF BULK AT MOST 1048576: true; the input reads as it did. -/
def hashClearsUptoRow : OpenClaim := { program := "ytbfimfdhmggieaadoor", sum := "81b1983343f72154f7971c071dce1cd90eb4ea172c175a22e4d7c509e0868a59", func := "cresset/cressetlaw12.HashClears", spec := "hashClears", inPlace := ["math/bits.Add64", "math/bits.Sub64"], unfollowed := true, recurses := true, named := ["cresset/sha.first", "cresset/sha.roots"], apart := false, laid := [("cresset/sha.first", laid_cresset_sha_first), ("cresset/sha.roots", laid_cresset_sha_roots)], narrowed := true }
def HashClearsUptoSaid : Prop := hashClearsUptoRow.holds Tryd.pinned (OpenSpec.upto hashClearsSpec)

/-- 'cressetlaw12.HashTexts', WHERE WHAT IT READS IS OF BULK AT MOST 1048576: true; the input reads as it did. -/
def hashTextsUptoRow : OpenClaim := { program := "ytbfimfdhmggieaadoor", sum := "81b1983343f72154f7971c071dce1cd90eb4ea172c175a22e4d7c509e0868a59", func := "cresset/cressetlaw12.HashTexts", spec := "hashTexts", inPlace := ["math/bits.Add64", "math/bits.Sub64"], unfollowed := true, recurses := true, named := ["cresset/sha.first", "cresset/sha.roots"], apart := false, laid := [("cresset/sha.first", laid_cresset_sha_first), ("cresset/sha.roots", laid_cresset_sha_roots)], narrowed := true }
def HashTextsUptoSaid : Prop := hashTextsUptoRow.holds Tryd.pinned (OpenSpec.upto hashTextsSpec)

/-- 'cressetlaw12.HashSums', WHERE WHAT IT READS IS OF BULK AT MOST 1048576: true; the input reads as it did. -/
def hashSumsUptoRow : OpenClaim := { program := "ytbfimfdhmggieaadoor", sum := "81b1983343f72154f7971c071dce1cd90eb4ea172c175a22e4d7c509e0868a59", func := "cresset/cressetlaw12.HashSums", spec := "hashSums", inPlace := ["math/bits.Add64", "math/bits.Sub64"], unfollowed := true, recurses := true, named := ["cresset/sha.first", "cresset/sha.roots"], apart := false, laid := [("cresset/sha.first", laid_cresset_sha_first), ("cresset/sha.roots", laid_cresset_sha_roots)], narrowed := true }
def HashSumsUptoSaid : Prop := hashSumsUptoRow.holds Tryd.pinned (OpenSpec.upto hashSumsSpec)

end Rows
end Go.Proofs.YtbfimfdhmggieaaDoor
