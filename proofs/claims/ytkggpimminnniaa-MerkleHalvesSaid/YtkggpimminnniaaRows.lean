/-
  No cell of these rows narrows 'for every input' (looked for: loops, veiled, ifaces, maps, wideKeys, modest, calm, conditions, laid).
  DERIVED. THE GIVEN ROWS OF THIS SEAT. 11 by the template 'for every input the law returns true; each argument reads behind the call as it read before'; 0 by the template 'total and deterministic' (their statements: YtkggpimminnniaaTotals.lean).
  GIVEN WITH THE SEED: the statements are not yours to turn. If you find one false, say at which input.
  Laid BY PROGRAM, IN A SANDBOX (cutbox-rows.mjs): the forced cells as the released guide's own fill.sh prints them over the translation d2a87f93ecf57176… (all of the seat's roots in one cut). By AI agents, Wed Nov 11 2026. No macro, syntax, notation, axiom, sorry.
-/
import Derived.Test.YtkggpimminnniaaChecked
import GoSem.Claim
import GoSem.ClaimJoined
import GoSem.ClaimMapViews
import Derived.JoinedTies
import Derived.KernelRfl
namespace Go.Proofs.Ytkggpimminnniaa
/- THE CELL 'sum', in the pinned program and in every row, IS THE sha256 OF THE DUMP (.gsa) THAT YtkggpimminnniaaProg.lean LOADS. Nothing in Lean hashes anything: it is a label: what it is worth is what the hold of that sum in a sandbox is worth. -/
noncomputable def Try.pinned : Pinned := { name := "ytkggpimminnniaa", sum := "d2a87f93ecf571760cb817a5b58dc4ca78b45267f0ed30208e10c8ed15626b9f", checked := Try.checked }
namespace Rows
def none {H : Type} : Left H := { results := [], args := [] }

/-- 'sledgelaw15.MerkleSums': WHATEVER THE INPUT: true; the input reads as it did. -/
def merkleSumsSpec : ChangeSpec := { name := "merkleSums", fn := fun _ => fun
  | [d1, d2, d3] => { results := [.lit (.bool true)], args := [d1, d2, d3] }
  | _ => none }
def merkleSumsRow : OpenClaim := { program := "ytkggpimminnniaa", sum := "d2a87f93ecf571760cb817a5b58dc4ca78b45267f0ed30208e10c8ed15626b9f", func := "sledge/sledgelaw15.MerkleSums", spec := "merkleSums", unfollowed := true, recurses := true, apart := false }
def MerkleSumsSaid : Prop := merkleSumsRow.holds Try.pinned (OpenSpec.ofChange merkleSumsSpec)

/-- ITS FALSE NEIGHBOUR: 'it returns false'. Refute it at one input. -/
def merkleSumsWrong : ChangeSpec := { name := "merkleSums", fn := fun _ => fun
  | [d1, d2, d3] => { results := [.lit (.bool false)], args := [d1, d2, d3] }
  | _ => none }
def MerkleSumsWrongFalsely : Prop := merkleSumsRow.holds Try.pinned (OpenSpec.ofChange merkleSumsWrong)

/-- 'sledgelaw15.MerkleRoots': WHATEVER THE INPUT: true; the input reads as it did. -/
def merkleRootsSpec : ChangeSpec := { name := "merkleRoots", fn := fun _ => fun
  | [d1, d2, d3] => { results := [.lit (.bool true)], args := [d1, d2, d3] }
  | _ => none }
def merkleRootsRow : OpenClaim := { program := "ytkggpimminnniaa", sum := "d2a87f93ecf571760cb817a5b58dc4ca78b45267f0ed30208e10c8ed15626b9f", func := "sledge/sledgelaw15.MerkleRoots", spec := "merkleRoots", unfollowed := true, recurses := true, apart := false }
def MerkleRootsSaid : Prop := merkleRootsRow.holds Try.pinned (OpenSpec.ofChange merkleRootsSpec)

/-- ITS FALSE NEIGHBOUR: 'it returns false'. Refute it at one input. -/
def merkleRootsWrong : ChangeSpec := { name := "merkleRoots", fn := fun _ => fun
  | [d1, d2, d3] => { results := [.lit (.bool false)], args := [d1, d2, d3] }
  | _ => none }
def MerkleRootsWrongFalsely : Prop := merkleRootsRow.holds Try.pinned (OpenSpec.ofChange merkleRootsWrong)

/-- 'sledgelaw15.MerkleProofs': WHATEVER THE INPUT: true; the input reads as it did. -/
def merkleProofsSpec : ChangeSpec := { name := "merkleProofs", fn := fun _ => fun
  | [d1, d2, d3] => { results := [.lit (.bool true)], args := [d1, d2, d3] }
  | _ => none }
def merkleProofsRow : OpenClaim := { program := "ytkggpimminnniaa", sum := "d2a87f93ecf571760cb817a5b58dc4ca78b45267f0ed30208e10c8ed15626b9f", func := "sledge/sledgelaw15.MerkleProofs", spec := "merkleProofs", unfollowed := true, recurses := true, apart := false }
def MerkleProofsSaid : Prop := merkleProofsRow.holds Try.pinned (OpenSpec.ofChange merkleProofsSpec)

/-- ITS FALSE NEIGHBOUR: 'it returns false'. Refute it at one input. -/
def merkleProofsWrong : ChangeSpec := { name := "merkleProofs", fn := fun _ => fun
  | [d1, d2, d3] => { results := [.lit (.bool false)], args := [d1, d2, d3] }
  | _ => none }
def MerkleProofsWrongFalsely : Prop := merkleProofsRow.holds Try.pinned (OpenSpec.ofChange merkleProofsWrong)

/-- 'sledgelaw15.MerkleHalves': WHATEVER THE INPUT: true; the input reads as it did. -/
def merkleHalvesSpec : ChangeSpec := { name := "merkleHalves", fn := fun _ => fun
  | [d1, d2, d3] => { results := [.lit (.bool true)], args := [d1, d2, d3] }
  | _ => none }
def merkleHalvesRow : OpenClaim := { program := "ytkggpimminnniaa", sum := "d2a87f93ecf571760cb817a5b58dc4ca78b45267f0ed30208e10c8ed15626b9f", func := "sledge/sledgelaw15.MerkleHalves", spec := "merkleHalves", unfollowed := true, recurses := true, apart := false }
def MerkleHalvesSaid : Prop := merkleHalvesRow.holds Try.pinned (OpenSpec.ofChange merkleHalvesSpec)

/-- ITS FALSE NEIGHBOUR: 'it returns false'. Refute it at one input. -/
def merkleHalvesWrong : ChangeSpec := { name := "merkleHalves", fn := fun _ => fun
  | [d1, d2, d3] => { results := [.lit (.bool false)], args := [d1, d2, d3] }
  | _ => none }
def MerkleHalvesWrongFalsely : Prop := merkleHalvesRow.holds Try.pinned (OpenSpec.ofChange merkleHalvesWrong)

/-- 'sledgelaw15.MerkleWays': WHATEVER THE INPUT: true; the input reads as it did. -/
def merkleWaysSpec : ChangeSpec := { name := "merkleWays", fn := fun _ => fun
  | [d1, d2] => { results := [.lit (.bool true)], args := [d1, d2] }
  | _ => none }
def merkleWaysRow : OpenClaim := { program := "ytkggpimminnniaa", sum := "d2a87f93ecf571760cb817a5b58dc4ca78b45267f0ed30208e10c8ed15626b9f", func := "sledge/sledgelaw15.MerkleWays", spec := "merkleWays", unfollowed := true, recurses := true, apart := false }
def MerkleWaysSaid : Prop := merkleWaysRow.holds Try.pinned (OpenSpec.ofChange merkleWaysSpec)

/-- ITS FALSE NEIGHBOUR: 'it returns false'. Refute it at one input. -/
def merkleWaysWrong : ChangeSpec := { name := "merkleWays", fn := fun _ => fun
  | [d1, d2] => { results := [.lit (.bool false)], args := [d1, d2] }
  | _ => none }
def MerkleWaysWrongFalsely : Prop := merkleWaysRow.holds Try.pinned (OpenSpec.ofChange merkleWaysWrong)

/-- 'sledgelaw16.GrowRoots': WHATEVER THE INPUT: true; the input reads as it did. -/
def growRootsSpec : ChangeSpec := { name := "growRoots", fn := fun _ => fun
  | [d1, d2] => { results := [.lit (.bool true)], args := [d1, d2] }
  | _ => none }
def growRootsRow : OpenClaim := { program := "ytkggpimminnniaa", sum := "d2a87f93ecf571760cb817a5b58dc4ca78b45267f0ed30208e10c8ed15626b9f", func := "sledge/sledgelaw16.GrowRoots", spec := "growRoots", recurses := true, apart := false }
def GrowRootsSaid : Prop := growRootsRow.holds Try.pinned (OpenSpec.ofChange growRootsSpec)

/-- ITS FALSE NEIGHBOUR: 'it returns false'. Refute it at one input. -/
def growRootsWrong : ChangeSpec := { name := "growRoots", fn := fun _ => fun
  | [d1, d2] => { results := [.lit (.bool false)], args := [d1, d2] }
  | _ => none }
def GrowRootsWrongFalsely : Prop := growRootsRow.holds Try.pinned (OpenSpec.ofChange growRootsWrong)

/-- 'sledgelaw16.GrowWidths': WHATEVER THE INPUT: true; the input reads as it did. -/
def growWidthsSpec : ChangeSpec := { name := "growWidths", fn := fun _ => fun
  | [d1, d2, d3] => { results := [.lit (.bool true)], args := [d1, d2, d3] }
  | _ => none }
def growWidthsRow : OpenClaim := { program := "ytkggpimminnniaa", sum := "d2a87f93ecf571760cb817a5b58dc4ca78b45267f0ed30208e10c8ed15626b9f", func := "sledge/sledgelaw16.GrowWidths", spec := "growWidths", recurses := true, apart := false }
def GrowWidthsSaid : Prop := growWidthsRow.holds Try.pinned (OpenSpec.ofChange growWidthsSpec)

/-- ITS FALSE NEIGHBOUR: 'it returns false'. Refute it at one input. -/
def growWidthsWrong : ChangeSpec := { name := "growWidths", fn := fun _ => fun
  | [d1, d2, d3] => { results := [.lit (.bool false)], args := [d1, d2, d3] }
  | _ => none }
def GrowWidthsWrongFalsely : Prop := growWidthsRow.holds Try.pinned (OpenSpec.ofChange growWidthsWrong)

/-- 'sledgelaw15.MerkleChecks': WHATEVER THE INPUT: true; the input reads as it did. -/
def merkleChecksSpec : ChangeSpec := { name := "merkleChecks", fn := fun _ => fun
  | [d1, d2, d3, d4, d5, d6] => { results := [.lit (.bool true)], args := [d1, d2, d3, d4, d5, d6] }
  | _ => none }
def merkleChecksRow : OpenClaim := { program := "ytkggpimminnniaa", sum := "d2a87f93ecf571760cb817a5b58dc4ca78b45267f0ed30208e10c8ed15626b9f", func := "sledge/sledgelaw15.MerkleChecks", spec := "merkleChecks", unfollowed := true, recurses := true, apart := false }
def MerkleChecksSaid : Prop := merkleChecksRow.holds Try.pinned (OpenSpec.ofChange merkleChecksSpec)

/-- ITS FALSE NEIGHBOUR: 'it returns false'. Refute it at one input. -/
def merkleChecksWrong : ChangeSpec := { name := "merkleChecks", fn := fun _ => fun
  | [d1, d2, d3, d4, d5, d6] => { results := [.lit (.bool false)], args := [d1, d2, d3, d4, d5, d6] }
  | _ => none }
def MerkleChecksWrongFalsely : Prop := merkleChecksRow.holds Try.pinned (OpenSpec.ofChange merkleChecksWrong)

/-- 'sledgelaw15.MerkleBack': WHATEVER THE INPUT: true; the input reads as it did. -/
def merkleBackSpec : ChangeSpec := { name := "merkleBack", fn := fun _ => fun
  | [d1, d2, d3] => { results := [.lit (.bool true)], args := [d1, d2, d3] }
  | _ => none }
def merkleBackRow : OpenClaim := { program := "ytkggpimminnniaa", sum := "d2a87f93ecf571760cb817a5b58dc4ca78b45267f0ed30208e10c8ed15626b9f", func := "sledge/sledgelaw15.MerkleBack", spec := "merkleBack", unfollowed := true, recurses := true, apart := false }
def MerkleBackSaid : Prop := merkleBackRow.holds Try.pinned (OpenSpec.ofChange merkleBackSpec)

/-- ITS FALSE NEIGHBOUR: 'it returns false'. Refute it at one input. -/
def merkleBackWrong : ChangeSpec := { name := "merkleBack", fn := fun _ => fun
  | [d1, d2, d3] => { results := [.lit (.bool false)], args := [d1, d2, d3] }
  | _ => none }
def MerkleBackWrongFalsely : Prop := merkleBackRow.holds Try.pinned (OpenSpec.ofChange merkleBackWrong)

/-- 'sledgelaw16.GrowGoes': WHATEVER THE INPUT: true; the input reads as it did. -/
def growGoesSpec : ChangeSpec := { name := "growGoes", fn := fun _ => fun
  | [d1, d2, d3] => { results := [.lit (.bool true)], args := [d1, d2, d3] }
  | _ => none }
def growGoesRow : OpenClaim := { program := "ytkggpimminnniaa", sum := "d2a87f93ecf571760cb817a5b58dc4ca78b45267f0ed30208e10c8ed15626b9f", func := "sledge/sledgelaw16.GrowGoes", spec := "growGoes", recurses := true, apart := false }
def GrowGoesSaid : Prop := growGoesRow.holds Try.pinned (OpenSpec.ofChange growGoesSpec)

/-- ITS FALSE NEIGHBOUR: 'it returns false'. Refute it at one input. -/
def growGoesWrong : ChangeSpec := { name := "growGoes", fn := fun _ => fun
  | [d1, d2, d3] => { results := [.lit (.bool false)], args := [d1, d2, d3] }
  | _ => none }
def GrowGoesWrongFalsely : Prop := growGoesRow.holds Try.pinned (OpenSpec.ofChange growGoesWrong)

/-- 'sledgelaw16.GrowFroms': WHATEVER THE INPUT: true; the input reads as it did. -/
def growFromsSpec : ChangeSpec := { name := "growFroms", fn := fun _ => fun
  | [d1, d2, d3] => { results := [.lit (.bool true)], args := [d1, d2, d3] }
  | _ => none }
def growFromsRow : OpenClaim := { program := "ytkggpimminnniaa", sum := "d2a87f93ecf571760cb817a5b58dc4ca78b45267f0ed30208e10c8ed15626b9f", func := "sledge/sledgelaw16.GrowFroms", spec := "growFroms", recurses := true, apart := false }
def GrowFromsSaid : Prop := growFromsRow.holds Try.pinned (OpenSpec.ofChange growFromsSpec)

/-- ITS FALSE NEIGHBOUR: 'it returns false'. Refute it at one input. -/
def growFromsWrong : ChangeSpec := { name := "growFroms", fn := fun _ => fun
  | [d1, d2, d3] => { results := [.lit (.bool false)], args := [d1, d2, d3] }
  | _ => none }
def GrowFromsWrongFalsely : Prop := growFromsRow.holds Try.pinned (OpenSpec.ofChange growFromsWrong)

/- THE SECOND FORM. 'bulk': how many values and letters a reading holds, each counted each time it is reached (what is shared counts as often as it is met; a slice's spare places count too). A statement '..UptoSaid' is the law's where the arguments, and the package variables that the reading takes, are together of bulk at most 1048576: NARROWER than '..Said'. Prove '..Said' where nothing that the law and all that it calls make is longer than what came in: it says more and counts as full. Else prove '..UptoSaid'. A law counts once. -/
mutual
def uptoBulk {H : Type} : DataW H → Nat
  | .lit (.string bytes) => bytes.length + 1
  | .lit _ => 1
  | .nil => 1
  | .ptr d => uptoBulk d + 1
  | .slice elems spare => uptoBulkAll elems + uptoBulkAll spare + 1
  | .agg parts => uptoBulkAll parts + 1
  | .iface _ d => uptoBulk d + 1
  | .map entries => uptoBulkEntries entries + 1
  | .held _ => 1
def uptoBulkAll {H : Type} : List (DataW H) → Nat
  | [] => 0
  | d :: r => uptoBulk d + uptoBulkAll r
def uptoBulkEntries {H : Type} : List (Lit × DataW H) → Nat
  | [] => 0
  | x :: r => uptoBulkEntry x + uptoBulkEntries r
def uptoBulkEntry {H : Type} : Lit × DataW H → Nat
  | (.string bytes, d) => bytes.length + uptoBulk d + 1
  | (_, d) => uptoBulk d + 1
 end
def uptoSmall : (H : Type) → List (DataW H) → Bool := fun _ ds => decide (uptoBulkAll ds ≤ 1048576)
def OpenSpec.upto (s : _root_.Go.ChangeSpec) : _root_.Go.OpenSpec := { _root_.Go.OpenSpec.ofChange s with cond := some uptoSmall }

/-- 'sledgelaw15.MerkleSums', WHERE WHAT IT READS IS OF BULK AT MOST 1048576: true; the input reads as it did. -/
def merkleSumsUptoRow : OpenClaim := { program := "ytkggpimminnniaa", sum := "d2a87f93ecf571760cb817a5b58dc4ca78b45267f0ed30208e10c8ed15626b9f", func := "sledge/sledgelaw15.MerkleSums", spec := "merkleSums", unfollowed := true, recurses := true, apart := false, narrowed := true }
def MerkleSumsUptoSaid : Prop := merkleSumsUptoRow.holds Try.pinned (OpenSpec.upto merkleSumsSpec)

/-- 'sledgelaw15.MerkleRoots', WHERE WHAT IT READS IS OF BULK AT MOST 1048576: true; the input reads as it did. -/
def merkleRootsUptoRow : OpenClaim := { program := "ytkggpimminnniaa", sum := "d2a87f93ecf571760cb817a5b58dc4ca78b45267f0ed30208e10c8ed15626b9f", func := "sledge/sledgelaw15.MerkleRoots", spec := "merkleRoots", unfollowed := true, recurses := true, apart := false, narrowed := true }
def MerkleRootsUptoSaid : Prop := merkleRootsUptoRow.holds Try.pinned (OpenSpec.upto merkleRootsSpec)

/-- 'sledgelaw15.MerkleProofs', WHERE WHAT IT READS IS OF BULK AT MOST 1048576: true; the input reads as it did. -/
def merkleProofsUptoRow : OpenClaim := { program := "ytkggpimminnniaa", sum := "d2a87f93ecf571760cb817a5b58dc4ca78b45267f0ed30208e10c8ed15626b9f", func := "sledge/sledgelaw15.MerkleProofs", spec := "merkleProofs", unfollowed := true, recurses := true, apart := false, narrowed := true }
def MerkleProofsUptoSaid : Prop := merkleProofsUptoRow.holds Try.pinned (OpenSpec.upto merkleProofsSpec)

/-- 'sledgelaw15.MerkleHalves', WHERE WHAT IT READS IS OF BULK AT MOST 1048576: true; the input reads as it did. -/
def merkleHalvesUptoRow : OpenClaim := { program := "ytkggpimminnniaa", sum := "d2a87f93ecf571760cb817a5b58dc4ca78b45267f0ed30208e10c8ed15626b9f", func := "sledge/sledgelaw15.MerkleHalves", spec := "merkleHalves", unfollowed := true, recurses := true, apart := false, narrowed := true }
def MerkleHalvesUptoSaid : Prop := merkleHalvesUptoRow.holds Try.pinned (OpenSpec.upto merkleHalvesSpec)

/-- 'sledgelaw15.MerkleWays', WHERE WHAT IT READS IS OF BULK AT MOST 1048576: true; the input reads as it did. -/
def merkleWaysUptoRow : OpenClaim := { program := "ytkggpimminnniaa", sum := "d2a87f93ecf571760cb817a5b58dc4ca78b45267f0ed30208e10c8ed15626b9f", func := "sledge/sledgelaw15.MerkleWays", spec := "merkleWays", unfollowed := true, recurses := true, apart := false, narrowed := true }
def MerkleWaysUptoSaid : Prop := merkleWaysUptoRow.holds Try.pinned (OpenSpec.upto merkleWaysSpec)

/-- 'sledgelaw16.GrowRoots', WHERE WHAT IT READS IS OF BULK AT MOST 1048576: true; the input reads as it did. -/
def growRootsUptoRow : OpenClaim := { program := "ytkggpimminnniaa", sum := "d2a87f93ecf571760cb817a5b58dc4ca78b45267f0ed30208e10c8ed15626b9f", func := "sledge/sledgelaw16.GrowRoots", spec := "growRoots", recurses := true, apart := false, narrowed := true }
def GrowRootsUptoSaid : Prop := growRootsUptoRow.holds Try.pinned (OpenSpec.upto growRootsSpec)

/-- 'sledgelaw16.GrowWidths', WHERE WHAT IT READS IS OF BULK AT MOST 1048576: true; the input reads as it did. -/
def growWidthsUptoRow : OpenClaim := { program := "ytkggpimminnniaa", sum := "d2a87f93ecf571760cb817a5b58dc4ca78b45267f0ed30208e10c8ed15626b9f", func := "sledge/sledgelaw16.GrowWidths", spec := "growWidths", recurses := true, apart := false, narrowed := true }
def GrowWidthsUptoSaid : Prop := growWidthsUptoRow.holds Try.pinned (OpenSpec.upto growWidthsSpec)

/-- 'sledgelaw15.MerkleChecks', WHERE WHAT IT READS IS OF BULK AT MOST 1048576: true; the input reads as it did. -/
def merkleChecksUptoRow : OpenClaim := { program := "ytkggpimminnniaa", sum := "d2a87f93ecf571760cb817a5b58dc4ca78b45267f0ed30208e10c8ed15626b9f", func := "sledge/sledgelaw15.MerkleChecks", spec := "merkleChecks", unfollowed := true, recurses := true, apart := false, narrowed := true }
def MerkleChecksUptoSaid : Prop := merkleChecksUptoRow.holds Try.pinned (OpenSpec.upto merkleChecksSpec)

/-- 'sledgelaw15.MerkleBack', WHERE WHAT IT READS IS OF BULK AT MOST 1048576: true; the input reads as it did. -/
def merkleBackUptoRow : OpenClaim := { program := "ytkggpimminnniaa", sum := "d2a87f93ecf571760cb817a5b58dc4ca78b45267f0ed30208e10c8ed15626b9f", func := "sledge/sledgelaw15.MerkleBack", spec := "merkleBack", unfollowed := true, recurses := true, apart := false, narrowed := true }
def MerkleBackUptoSaid : Prop := merkleBackUptoRow.holds Try.pinned (OpenSpec.upto merkleBackSpec)

/-- 'sledgelaw16.GrowGoes', WHERE WHAT IT READS IS OF BULK AT MOST 1048576: true; the input reads as it did. -/
def growGoesUptoRow : OpenClaim := { program := "ytkggpimminnniaa", sum := "d2a87f93ecf571760cb817a5b58dc4ca78b45267f0ed30208e10c8ed15626b9f", func := "sledge/sledgelaw16.GrowGoes", spec := "growGoes", recurses := true, apart := false, narrowed := true }
def GrowGoesUptoSaid : Prop := growGoesUptoRow.holds Try.pinned (OpenSpec.upto growGoesSpec)

/-- 'sledgelaw16.GrowFroms', WHERE WHAT IT READS IS OF BULK AT MOST 1048576: true; the input reads as it did. -/
def growFromsUptoRow : OpenClaim := { program := "ytkggpimminnniaa", sum := "d2a87f93ecf571760cb817a5b58dc4ca78b45267f0ed30208e10c8ed15626b9f", func := "sledge/sledgelaw16.GrowFroms", spec := "growFroms", recurses := true, apart := false, narrowed := true }
def GrowFromsUptoSaid : Prop := growFromsUptoRow.holds Try.pinned (OpenSpec.upto growFromsSpec)

end Rows
end Go.Proofs.Ytkggpimminnniaa
