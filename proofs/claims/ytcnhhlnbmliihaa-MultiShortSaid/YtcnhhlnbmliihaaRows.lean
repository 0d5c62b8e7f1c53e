/-
  No cell of these rows narrows 'for every input' (looked for: loops, veiled, ifaces, maps, wideKeys, modest, calm, conditions, laid).
  DERIVED. THE GIVEN ROWS OF THIS SEAT. 9 by the template 'for every input the law returns true; each argument reads behind the call as it read before'; 0 by the template 'total and deterministic' (their statements: YtcnhhlnbmliihaaTotals.lean).
  GIVEN WITH THE SEED: the statements are not yours to turn. If you find one false, say at which input.
  Laid BY PROGRAM, IN A SANDBOX (cutbox-rows.mjs): the forced cells as the released guide's own fill.sh prints them over the translation 5a4a5501de93ae12… (all of the seat's roots in one cut). By AI agents, Wed Nov 11 2026. No macro, syntax, notation, axiom, sorry.
-/
import Derived.Test.YtcnhhlnbmliihaaChecked
import GoSem.Claim
import GoSem.ClaimJoined
import GoSem.ClaimMapViews
import Derived.JoinedTies
import Derived.KernelRfl
namespace Go.Proofs.Ytcnhhlnbmliihaa
/- THE CELL 'sum', in the pinned program and in every row, IS THE sha256 OF THE DUMP (.gsa) THAT YtcnhhlnbmliihaaProg.lean LOADS. Nothing in Lean hashes anything: it is a label: what it is worth is what the hold of that sum in a sandbox is worth. -/
noncomputable def Try.pinned : Pinned := { name := "ytcnhhlnbmliihaa", sum := "5a4a5501de93ae1223df83779a23a69fbb9bb43c142bde6769171902ffb40541", checked := Try.checked }
namespace Rows
def none {H : Type} : Left H := { results := [], args := [] }

/-- 'sledgelaw41.MultiRoots': WHATEVER THE INPUT: true; the input reads as it did. -/
def multiRootsSpec : ChangeSpec := { name := "multiRoots", fn := fun _ => fun
  | [d1, d2, d3, d4, d5, d6] => { results := [.lit (.bool true)], args := [d1, d2, d3, d4, d5, d6] }
  | _ => none }
def multiRootsRow : OpenClaim := { program := "ytcnhhlnbmliihaa", sum := "5a4a5501de93ae1223df83779a23a69fbb9bb43c142bde6769171902ffb40541", func := "sledge/sledgelaw41.MultiRoots", spec := "multiRoots", unfollowed := true, recurses := true, apart := false }
def MultiRootsSaid : Prop := multiRootsRow.holds Try.pinned (OpenSpec.ofChange multiRootsSpec)

/-- ITS FALSE NEIGHBOUR: 'it returns false'. Refute it at one input. -/
def multiRootsWrong : ChangeSpec := { name := "multiRoots", fn := fun _ => fun
  | [d1, d2, d3, d4, d5, d6] => { results := [.lit (.bool false)], args := [d1, d2, d3, d4, d5, d6] }
  | _ => none }
def MultiRootsWrongFalsely : Prop := multiRootsRow.holds Try.pinned (OpenSpec.ofChange multiRootsWrong)

/-- 'sledgelaw41.MultiShort': WHATEVER THE INPUT: true; the input reads as it did. -/
def multiShortSpec : ChangeSpec := { name := "multiShort", fn := fun _ => fun
  | [d1, d2, d3, d4] => { results := [.lit (.bool true)], args := [d1, d2, d3, d4] }
  | _ => none }
def multiShortRow : OpenClaim := { program := "ytcnhhlnbmliihaa", sum := "5a4a5501de93ae1223df83779a23a69fbb9bb43c142bde6769171902ffb40541", func := "sledge/sledgelaw41.MultiShort", spec := "multiShort", unfollowed := true, recurses := true, apart := false }
def MultiShortSaid : Prop := multiShortRow.holds Try.pinned (OpenSpec.ofChange multiShortSpec)

/-- ITS FALSE NEIGHBOUR: 'it returns false'. Refute it at one input. -/
def multiShortWrong : ChangeSpec := { name := "multiShort", fn := fun _ => fun
  | [d1, d2, d3, d4] => { results := [.lit (.bool false)], args := [d1, d2, d3, d4] }
  | _ => none }
def MultiShortWrongFalsely : Prop := multiShortRow.holds Try.pinned (OpenSpec.ofChange multiShortWrong)

/-- 'sledgelaw40.ConsistProves': WHATEVER THE INPUT: true; the input reads as it did. -/
def consistProvesSpec : ChangeSpec := { name := "consistProves", fn := fun _ => fun
  | [d1, d2, d3] => { results := [.lit (.bool true)], args := [d1, d2, d3] }
  | _ => none }
def consistProvesRow : OpenClaim := { program := "ytcnhhlnbmliihaa", sum := "5a4a5501de93ae1223df83779a23a69fbb9bb43c142bde6769171902ffb40541", func := "sledge/sledgelaw40.ConsistProves", spec := "consistProves", unfollowed := true, recurses := true, apart := false }
def ConsistProvesSaid : Prop := consistProvesRow.holds Try.pinned (OpenSpec.ofChange consistProvesSpec)

/-- ITS FALSE NEIGHBOUR: 'it returns false'. Refute it at one input. -/
def consistProvesWrong : ChangeSpec := { name := "consistProves", fn := fun _ => fun
  | [d1, d2, d3] => { results := [.lit (.bool false)], args := [d1, d2, d3] }
  | _ => none }
def ConsistProvesWrongFalsely : Prop := consistProvesRow.holds Try.pinned (OpenSpec.ofChange consistProvesWrong)

/-- 'sledgelaw40.ConsistBack': WHATEVER THE INPUT: true; the input reads as it did. -/
def consistBackSpec : ChangeSpec := { name := "consistBack", fn := fun _ => fun
  | [d1, d2, d3] => { results := [.lit (.bool true)], args := [d1, d2, d3] }
  | _ => none }
def consistBackRow : OpenClaim := { program := "ytcnhhlnbmliihaa", sum := "5a4a5501de93ae1223df83779a23a69fbb9bb43c142bde6769171902ffb40541", func := "sledge/sledgelaw40.ConsistBack", spec := "consistBack", unfollowed := true, recurses := true, apart := false }
def ConsistBackSaid : Prop := consistBackRow.holds Try.pinned (OpenSpec.ofChange consistBackSpec)

/-- ITS FALSE NEIGHBOUR: 'it returns false'. Refute it at one input. -/
def consistBackWrong : ChangeSpec := { name := "consistBack", fn := fun _ => fun
  | [d1, d2, d3] => { results := [.lit (.bool false)], args := [d1, d2, d3] }
  | _ => none }
def ConsistBackWrongFalsely : Prop := consistBackRow.holds Try.pinned (OpenSpec.ofChange consistBackWrong)

/-- 'sledgelaw40.ConsistRoots': WHATEVER THE INPUT: true; the input reads as it did. -/
def consistRootsSpec : ChangeSpec := { name := "consistRoots", fn := fun _ => fun
  | [d1, d2, d3, d4, d5, d6] => { results := [.lit (.bool true)], args := [d1, d2, d3, d4, d5, d6] }
  | _ => none }
def consistRootsRow : OpenClaim := { program := "ytcnhhlnbmliihaa", sum := "5a4a5501de93ae1223df83779a23a69fbb9bb43c142bde6769171902ffb40541", func := "sledge/sledgelaw40.ConsistRoots", spec := "consistRoots", unfollowed := true, recurses := true, apart := false }
def ConsistRootsSaid : Prop := consistRootsRow.holds Try.pinned (OpenSpec.ofChange consistRootsSpec)

/-- ITS FALSE NEIGHBOUR: 'it returns false'. Refute it at one input. -/
def consistRootsWrong : ChangeSpec := { name := "consistRoots", fn := fun _ => fun
  | [d1, d2, d3, d4, d5, d6] => { results := [.lit (.bool false)], args := [d1, d2, d3, d4, d5, d6] }
  | _ => none }
def ConsistRootsWrongFalsely : Prop := consistRootsRow.holds Try.pinned (OpenSpec.ofChange consistRootsWrong)

/-- 'sledgelaw40.ConsistClash': WHATEVER THE INPUT: true; the input reads as it did. -/
def consistClashSpec : ChangeSpec := { name := "consistClash", fn := fun _ => fun
  | [d1, d2, d3, d4, d5] => { results := [.lit (.bool true)], args := [d1, d2, d3, d4, d5] }
  | _ => none }
def consistClashRow : OpenClaim := { program := "ytcnhhlnbmliihaa", sum := "5a4a5501de93ae1223df83779a23a69fbb9bb43c142bde6769171902ffb40541", func := "sledge/sledgelaw40.ConsistClash", spec := "consistClash", unfollowed := true, recurses := true, apart := false }
def ConsistClashSaid : Prop := consistClashRow.holds Try.pinned (OpenSpec.ofChange consistClashSpec)

/-- ITS FALSE NEIGHBOUR: 'it returns false'. Refute it at one input. -/
def consistClashWrong : ChangeSpec := { name := "consistClash", fn := fun _ => fun
  | [d1, d2, d3, d4, d5] => { results := [.lit (.bool false)], args := [d1, d2, d3, d4, d5] }
  | _ => none }
def ConsistClashWrongFalsely : Prop := consistClashRow.holds Try.pinned (OpenSpec.ofChange consistClashWrong)

/-- 'sledgelaw40.ConsistFinds': WHATEVER THE INPUT: true; the input reads as it did. -/
def consistFindsSpec : ChangeSpec := { name := "consistFinds", fn := fun _ => fun
  | [d1, d2, d3, d4, d5] => { results := [.lit (.bool true)], args := [d1, d2, d3, d4, d5] }
  | _ => none }
def consistFindsRow : OpenClaim := { program := "ytcnhhlnbmliihaa", sum := "5a4a5501de93ae1223df83779a23a69fbb9bb43c142bde6769171902ffb40541", func := "sledge/sledgelaw40.ConsistFinds", spec := "consistFinds", unfollowed := true, recurses := true, apart := false }
def ConsistFindsSaid : Prop := consistFindsRow.holds Try.pinned (OpenSpec.ofChange consistFindsSpec)

/-- ITS FALSE NEIGHBOUR: 'it returns false'. Refute it at one input. -/
def consistFindsWrong : ChangeSpec := { name := "consistFinds", fn := fun _ => fun
  | [d1, d2, d3, d4, d5] => { results := [.lit (.bool false)], args := [d1, d2, d3, d4, d5] }
  | _ => none }
def ConsistFindsWrongFalsely : Prop := consistFindsRow.holds Try.pinned (OpenSpec.ofChange consistFindsWrong)

/-- 'sledgelaw41.MultiProves': WHATEVER THE INPUT: true; the input reads as it did. -/
def multiProvesSpec : ChangeSpec := { name := "multiProves", fn := fun _ => fun
  | [d1, d2, d3] => { results := [.lit (.bool true)], args := [d1, d2, d3] }
  | _ => none }
def multiProvesRow : OpenClaim := { program := "ytcnhhlnbmliihaa", sum := "5a4a5501de93ae1223df83779a23a69fbb9bb43c142bde6769171902ffb40541", func := "sledge/sledgelaw41.MultiProves", spec := "multiProves", unfollowed := true, recurses := true, apart := false }
def MultiProvesSaid : Prop := multiProvesRow.holds Try.pinned (OpenSpec.ofChange multiProvesSpec)

/-- ITS FALSE NEIGHBOUR: 'it returns false'. Refute it at one input. -/
def multiProvesWrong : ChangeSpec := { name := "multiProves", fn := fun _ => fun
  | [d1, d2, d3] => { results := [.lit (.bool false)], args := [d1, d2, d3] }
  | _ => none }
def MultiProvesWrongFalsely : Prop := multiProvesRow.holds Try.pinned (OpenSpec.ofChange multiProvesWrong)

/-- 'sledgelaw41.MultiBack': WHATEVER THE INPUT: true; the input reads as it did. -/
def multiBackSpec : ChangeSpec := { name := "multiBack", fn := fun _ => fun
  | [d1, d2, d3] => { results := [.lit (.bool true)], args := [d1, d2, d3] }
  | _ => none }
def multiBackRow : OpenClaim := { program := "ytcnhhlnbmliihaa", sum := "5a4a5501de93ae1223df83779a23a69fbb9bb43c142bde6769171902ffb40541", func := "sledge/sledgelaw41.MultiBack", spec := "multiBack", unfollowed := true, recurses := true, apart := false }
def MultiBackSaid : Prop := multiBackRow.holds Try.pinned (OpenSpec.ofChange multiBackSpec)

/-- ITS FALSE NEIGHBOUR: 'it returns false'. Refute it at one input. -/
def multiBackWrong : ChangeSpec := { name := "multiBack", fn := fun _ => fun
  | [d1, d2, d3] => { results := [.lit (.bool false)], args := [d1, d2, d3] }
  | _ => none }
def MultiBackWrongFalsely : Prop := multiBackRow.holds Try.pinned (OpenSpec.ofChange multiBackWrong)

/- THE SECOND FORM. 'bulk': how many values and letters a reading holds, each counted each time it is reached (what is shared counts as often as it is met; a slice's spare places count too). A statement '..UptoSaid' is the law's where the arguments, and the package variables that the reading takes, are together of bulk at most 1048576: NARROWER than '..Said'. Prove '..Said' where nothing that the law and all that it calls make is longer than what came in: it says more and counts as full. Else prove '..UptoSaid'. A law counts once. -/
mutual
def uptoBulk {H : Type} : DataW H → Nat
  | .lit (.string bytes) => bytes.length + 1
  | .lit _ => 1
  | .nil => 1
  | .ptr d => uptoBulk d + 1
  | .slice elems spare => uptoBulkAll elems + uptoBulkAll spare + 1
  | .agg parts => uptoBulkAll parts + 1
  | .iface _ d => uptoBulk d + 1
  | .map entries => uptoBulkEntries entries + 1
  | .held _ => 1
def uptoBulkAll {H : Type} : List (DataW H) → Nat
  | [] => 0
  | d :: r => uptoBulk d + uptoBulkAll r
def uptoBulkEntries {H : Type} : List (Lit × DataW H) → Nat
  | [] => 0
  | x :: r => uptoBulkEntry x + uptoBulkEntries r
def uptoBulkEntry {H : Type} : Lit × DataW H → Nat
  | (.string bytes, d) => bytes.length + uptoBulk d + 1
  | (_, d) => uptoBulk d + 1
 end
def uptoSmall : (H : Type) → List (DataW H) → Bool := fun _ ds => decide (uptoBulkAll ds ≤ 1048576)
def OpenSpec.upto (s : _root_.Go.ChangeSpec) : _root_.Go.OpenSpec := { _root_.Go.OpenSpec.ofChange s with cond := some uptoSmall }

/-- 'sledgelaw41.MultiRoots', WHERE WHAT IT READS IS OF BULK AT MOST 1048576: true; the input reads as it did. -/
def multiRootsUptoRow : OpenClaim := { program := "ytcnhhlnbmliihaa", sum := "5a4a5501de93ae1223df83779a23a69fbb9bb43c142bde6769171902ffb40541", func := "sledge/sledgelaw41.MultiRoots", spec := "multiRoots", unfollowed := true, recurses := true, apart := false, narrowed := true }
def MultiRootsUptoSaid : Prop := multiRootsUptoRow.holds Try.pinned (OpenSpec.upto multiRootsSpec)

/-- 'sledgelaw41.MultiShort', WHERE WHAT IT READS IS OF BULK AT MOST 1048576: true; the input reads as it did. -/
def multiShortUptoRow : OpenClaim := { program := "ytcnhhlnbmliihaa", sum := "5a4a5501de93ae1223df83779a23a69fbb9bb43c142bde6769171902ffb40541", func := "sledge/sledgelaw41.MultiShort", spec := "multiShort", unfollowed := true, recurses := true, apart := false, narrowed := true }
def MultiShortUptoSaid : Prop := multiShortUptoRow.holds Try.pinned (OpenSpec.upto multiShortSpec)

/-- 'sledgelaw40.ConsistProves', WHERE WHAT IT READS IS OF BULK AT MOST 1048576: true; the input reads as it did. -/
def consistProvesUptoRow : OpenClaim := { program := "ytcnhhlnbmliihaa", sum := "5a4a5501de93ae1223df83779a23a69fbb9bb43c142bde6769171902ffb40541", func := "sledge/sledgelaw40.ConsistProves", spec := "consistProves", unfollowed := true, recurses := true, apart := false, narrowed := true }
def ConsistProvesUptoSaid : Prop := consistProvesUptoRow.holds Try.pinned (OpenSpec.upto consistProvesSpec)

/-- 'sledgelaw40.ConsistBack', WHERE WHAT IT READS IS OF BULK AT MOST 1048576: true; the input reads as it did. -/
def consistBackUptoRow : OpenClaim := { program := "ytcnhhlnbmliihaa", sum := "5a4a5501de93ae1223df83779a23a69fbb9bb43c142bde6769171902ffb40541", func := "sledge/sledgelaw40.ConsistBack", spec := "consistBack", unfollowed := true, recurses := true, apart := false, narrowed := true }
def ConsistBackUptoSaid : Prop := consistBackUptoRow.holds Try.pinned (OpenSpec.upto consistBackSpec)

/-- 'sledgelaw40.ConsistRoots', WHERE WHAT IT READS IS OF BULK AT MOST 1048576: true; the input reads as it did. -/
def consistRootsUptoRow : OpenClaim := { program := "ytcnhhlnbmliihaa", sum := "5a4a5501de93ae1223df83779a23a69fbb9bb43c142bde6769171902ffb40541", func := "sledge/sledgelaw40.ConsistRoots", spec := "consistRoots", unfollowed := true, recurses := true, apart := false, narrowed := true }
def ConsistRootsUptoSaid : Prop := consistRootsUptoRow.holds Try.pinned (OpenSpec.upto consistRootsSpec)

/-- 'sledgelaw40.ConsistClash', WHERE WHAT IT READS IS OF BULK AT MOST 1048576: true; the input reads as it did. -/
def consistClashUptoRow : OpenClaim := { program := "ytcnhhlnbmliihaa", sum := "5a4a5501de93ae1223df83779a23a69fbb9bb43c142bde6769171902ffb40541", func := "sledge/sledgelaw40.ConsistClash", spec := "consistClash", unfollowed := true, recurses := true, apart := false, narrowed := true }
def ConsistClashUptoSaid : Prop := consistClashUptoRow.holds Try.pinned (OpenSpec.upto consistClashSpec)

/-- 'sledgelaw40.ConsistFinds', WHERE WHAT IT READS IS OF BULK AT MOST 1048576: true; the input reads as it did. -/
def consistFindsUptoRow : OpenClaim := { program := "ytcnhhlnbmliihaa", sum := "5a4a5501de93ae1223df83779a23a69fbb9bb43c142bde6769171902ffb40541", func := "sledge/sledgelaw40.ConsistFinds", spec := "consistFinds", unfollowed := true, recurses := true, apart := false, narrowed := true }
def ConsistFindsUptoSaid : Prop := consistFindsUptoRow.holds Try.pinned (OpenSpec.upto consistFindsSpec)

/-- 'sledgelaw41.MultiProves', WHERE WHAT IT READS IS OF BULK AT MOST 1048576: true; the input reads as it did. -/
def multiProvesUptoRow : OpenClaim := { program := "ytcnhhlnbmliihaa", sum := "5a4a5501de93ae1223df83779a23a69fbb9bb43c142bde6769171902ffb40541", func := "sledge/sledgelaw41.MultiProves", spec := "multiProves", unfollowed := true, recurses := true, apart := false, narrowed := true }
def MultiProvesUptoSaid : Prop := multiProvesUptoRow.holds Try.pinned (OpenSpec.upto multiProvesSpec)

/-- 'sledgelaw41.MultiBack', WHERE WHAT IT READS IS OF BULK AT MOST 1048576: true; the input reads as it did. -/
def multiBackUptoRow : OpenClaim := { program := "ytcnhhlnbmliihaa", sum := "5a4a5501de93ae1223df83779a23a69fbb9bb43c142bde6769171902ffb40541", func := "sledge/sledgelaw41.MultiBack", spec := "multiBack", unfollowed := true, recurses := true, apart := false, narrowed := true }
def MultiBackUptoSaid : Prop := multiBackUptoRow.holds Try.pinned (OpenSpec.upto multiBackSpec)

end Rows
end Go.Proofs.Ytcnhhlnbmliihaa
