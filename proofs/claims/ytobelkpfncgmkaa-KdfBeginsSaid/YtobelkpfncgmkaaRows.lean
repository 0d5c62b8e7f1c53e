/-
  No cell of these rows narrows 'for every input' (looked for: loops, veiled, ifaces, maps, wideKeys, modest, calm, conditions, laid).
  DERIVED. THE GIVEN ROWS OF THIS SEAT. 7 by the template 'for every input the law returns true; each argument reads behind the call as it read before'; 0 by the template 'total and deterministic' (their statements: YtobelkpfncgmkaaTotals.lean).
  GIVEN WITH THE SEED: the statements are not yours to turn. If you find one false, say at which input.
  Laid BY PROGRAM, IN A SANDBOX (cutbox-rows.mjs): the forced cells as the released guide's own fill.sh prints them over the translation b37ebcdbd5e1e182… (all of the seat's roots in one cut). By AI agents, Wed Nov 11 2026. No macro, syntax, notation, axiom, sorry.
-/
import Derived.Test.YtobelkpfncgmkaaChecked
import GoSem.Claim
import GoSem.ClaimJoined
import GoSem.ClaimMapViews
import Derived.JoinedTies
import Derived.KernelRfl
namespace Go.Proofs.Ytobelkpfncgmkaa
/- THE CELL 'sum', in the pinned program and in every row, IS THE sha256 OF THE DUMP (.gsa) THAT YtobelkpfncgmkaaProg.lean LOADS. Nothing in Lean hashes anything: it is a label: what it is worth is what the hold of that sum in a sandbox is worth. -/
noncomputable def Try.pinned : Pinned := { name := "ytobelkpfncgmkaa", sum := "b37ebcdbd5e1e1825c6a4e790427f5e0b70f6e6d029dd73bca557310e5d284ea", checked := Try.checked }
namespace Rows
def none {H : Type} : Left H := { results := [], args := [] }

/-- 'sledgelaw05.KdfExpands': WHATEVER THE INPUT: true; the input reads as it did. -/
def kdfExpandsSpec : ChangeSpec := { name := "kdfExpands", fn := fun _ => fun
  | [d1, d2, d3] => { results := [.lit (.bool true)], args := [d1, d2, d3] }
  | _ => none }
def kdfExpandsRow : OpenClaim := { program := "ytobelkpfncgmkaa", sum := "b37ebcdbd5e1e1825c6a4e790427f5e0b70f6e6d029dd73bca557310e5d284ea", func := "sledge/sledgelaw05.KdfExpands", spec := "kdfExpands", apart := false }
def KdfExpandsSaid : Prop := kdfExpandsRow.holds Try.pinned (OpenSpec.ofChange kdfExpandsSpec)

/-- ITS FALSE NEIGHBOUR: 'it returns false'. Refute it at one input. -/
def kdfExpandsWrong : ChangeSpec := { name := "kdfExpands", fn := fun _ => fun
  | [d1, d2, d3] => { results := [.lit (.bool false)], args := [d1, d2, d3] }
  | _ => none }
def KdfExpandsWrongFalsely : Prop := kdfExpandsRow.holds Try.pinned (OpenSpec.ofChange kdfExpandsWrong)

/-- 'sledgelaw05.KdfBegins': WHATEVER THE INPUT: true; the input reads as it did. -/
def kdfBeginsSpec : ChangeSpec := { name := "kdfBegins", fn := fun _ => fun
  | [d1, d2, d3, d4] => { results := [.lit (.bool true)], args := [d1, d2, d3, d4] }
  | _ => none }
def kdfBeginsRow : OpenClaim := { program := "ytobelkpfncgmkaa", sum := "b37ebcdbd5e1e1825c6a4e790427f5e0b70f6e6d029dd73bca557310e5d284ea", func := "sledge/sledgelaw05.KdfBegins", spec := "kdfBegins", apart := false }
def KdfBeginsSaid : Prop := kdfBeginsRow.holds Try.pinned (OpenSpec.ofChange kdfBeginsSpec)

/-- ITS FALSE NEIGHBOUR: 'it returns false'. Refute it at one input. -/
def kdfBeginsWrong : ChangeSpec := { name := "kdfBegins", fn := fun _ => fun
  | [d1, d2, d3, d4] => { results := [.lit (.bool false)], args := [d1, d2, d3, d4] }
  | _ => none }
def KdfBeginsWrongFalsely : Prop := kdfBeginsRow.holds Try.pinned (OpenSpec.ofChange kdfBeginsWrong)

/-- 'sledgelaw05.KdfMost': WHATEVER THE INPUT: true; the input reads as it did. -/
def kdfMostSpec : ChangeSpec := { name := "kdfMost", fn := fun _ => fun
  | [d1, d2] => { results := [.lit (.bool true)], args := [d1, d2] }
  | _ => none }
def kdfMostRow : OpenClaim := { program := "ytobelkpfncgmkaa", sum := "b37ebcdbd5e1e1825c6a4e790427f5e0b70f6e6d029dd73bca557310e5d284ea", func := "sledge/sledgelaw05.KdfMost", spec := "kdfMost", apart := false }
def KdfMostSaid : Prop := kdfMostRow.holds Try.pinned (OpenSpec.ofChange kdfMostSpec)

/-- ITS FALSE NEIGHBOUR: 'it returns false'. Refute it at one input. -/
def kdfMostWrong : ChangeSpec := { name := "kdfMost", fn := fun _ => fun
  | [d1, d2] => { results := [.lit (.bool false)], args := [d1, d2] }
  | _ => none }
def KdfMostWrongFalsely : Prop := kdfMostRow.holds Try.pinned (OpenSpec.ofChange kdfMostWrong)

/-- 'sledgelaw05.KdfExtracts': WHATEVER THE INPUT: true; the input reads as it did. -/
def kdfExtractsSpec : ChangeSpec := { name := "kdfExtracts", fn := fun _ => fun
  | [d1, d2] => { results := [.lit (.bool true)], args := [d1, d2] }
  | _ => none }
def kdfExtractsRow : OpenClaim := { program := "ytobelkpfncgmkaa", sum := "b37ebcdbd5e1e1825c6a4e790427f5e0b70f6e6d029dd73bca557310e5d284ea", func := "sledge/sledgelaw05.KdfExtracts", spec := "kdfExtracts", apart := false }
def KdfExtractsSaid : Prop := kdfExtractsRow.holds Try.pinned (OpenSpec.ofChange kdfExtractsSpec)

/-- ITS FALSE NEIGHBOUR: 'it returns false'. Refute it at one input. -/
def kdfExtractsWrong : ChangeSpec := { name := "kdfExtracts", fn := fun _ => fun
  | [d1, d2] => { results := [.lit (.bool false)], args := [d1, d2] }
  | _ => none }
def KdfExtractsWrongFalsely : Prop := kdfExtractsRow.holds Try.pinned (OpenSpec.ofChange kdfExtractsWrong)

/-- 'sledgelaw05.KdfKeys': WHATEVER THE INPUT: true; the input reads as it did. -/
def kdfKeysSpec : ChangeSpec := { name := "kdfKeys", fn := fun _ => fun
  | [d1, d2, d3] => { results := [.lit (.bool true)], args := [d1, d2, d3] }
  | _ => none }
def kdfKeysRow : OpenClaim := { program := "ytobelkpfncgmkaa", sum := "b37ebcdbd5e1e1825c6a4e790427f5e0b70f6e6d029dd73bca557310e5d284ea", func := "sledge/sledgelaw05.KdfKeys", spec := "kdfKeys", apart := false }
def KdfKeysSaid : Prop := kdfKeysRow.holds Try.pinned (OpenSpec.ofChange kdfKeysSpec)

/-- ITS FALSE NEIGHBOUR: 'it returns false'. Refute it at one input. -/
def kdfKeysWrong : ChangeSpec := { name := "kdfKeys", fn := fun _ => fun
  | [d1, d2, d3] => { results := [.lit (.bool false)], args := [d1, d2, d3] }
  | _ => none }
def KdfKeysWrongFalsely : Prop := kdfKeysRow.holds Try.pinned (OpenSpec.ofChange kdfKeysWrong)

/-- 'sledgelaw18.HeaderSigns': WHATEVER THE INPUT: true; the input reads as it did. -/
def headerSignsSpec : ChangeSpec := { name := "headerSigns", fn := fun _ => fun
  | [d1, d2] => { results := [.lit (.bool true)], args := [d1, d2] }
  | _ => none }
def headerSignsRow : OpenClaim := { program := "ytobelkpfncgmkaa", sum := "b37ebcdbd5e1e1825c6a4e790427f5e0b70f6e6d029dd73bca557310e5d284ea", func := "sledge/sledgelaw18.HeaderSigns", spec := "headerSigns", apart := false }
def HeaderSignsSaid : Prop := headerSignsRow.holds Try.pinned (OpenSpec.ofChange headerSignsSpec)

/-- ITS FALSE NEIGHBOUR: 'it returns false'. Refute it at one input. -/
def headerSignsWrong : ChangeSpec := { name := "headerSigns", fn := fun _ => fun
  | [d1, d2] => { results := [.lit (.bool false)], args := [d1, d2] }
  | _ => none }
def HeaderSignsWrongFalsely : Prop := headerSignsRow.holds Try.pinned (OpenSpec.ofChange headerSignsWrong)

/-- 'sledgelaw18.HeaderTags': WHATEVER THE INPUT: true; the input reads as it did. -/
def headerTagsSpec : ChangeSpec := { name := "headerTags", fn := fun _ => fun
  | [d1, d2, d3, d4] => { results := [.lit (.bool true)], args := [d1, d2, d3, d4] }
  | _ => none }
def headerTagsRow : OpenClaim := { program := "ytobelkpfncgmkaa", sum := "b37ebcdbd5e1e1825c6a4e790427f5e0b70f6e6d029dd73bca557310e5d284ea", func := "sledge/sledgelaw18.HeaderTags", spec := "headerTags", apart := false }
def HeaderTagsSaid : Prop := headerTagsRow.holds Try.pinned (OpenSpec.ofChange headerTagsSpec)

/-- ITS FALSE NEIGHBOUR: 'it returns false'. Refute it at one input. -/
def headerTagsWrong : ChangeSpec := { name := "headerTags", fn := fun _ => fun
  | [d1, d2, d3, d4] => { results := [.lit (.bool false)], args := [d1, d2, d3, d4] }
  | _ => none }
def HeaderTagsWrongFalsely : Prop := headerTagsRow.holds Try.pinned (OpenSpec.ofChange headerTagsWrong)

/- THE SECOND FORM. 'bulk': how many values and letters a reading holds, each counted each time it is reached (what is shared counts as often as it is met; a slice's spare places count too). A statement '..UptoSaid' is the law's where the arguments, and the package variables that the reading takes, are together of bulk at most 1048576: NARROWER than '..Said'. Prove '..Said' where nothing that the law and all that it calls make is longer than what came in: it says more and counts as full. Else prove '..UptoSaid'. A law counts once. -/
mutual
def uptoBulk {H : Type} : DataW H → Nat
  | .lit (.string bytes) => bytes.length + 1
  | .lit _ => 1
  | .nil => 1
  | .ptr d => uptoBulk d + 1
  | .slice elems spare => uptoBulkAll elems + uptoBulkAll spare + 1
  | .agg parts => uptoBulkAll parts + 1
  | .iface _ d => uptoBulk d + 1
  | .map entries => uptoBulkEntries entries + 1
  | .held _ => 1
def uptoBulkAll {H : Type} : List (DataW H) → Nat
  | [] => 0
  | d :: r => uptoBulk d + uptoBulkAll r
def uptoBulkEntries {H : Type} : List (Lit × DataW H) → Nat
  | [] => 0
  | x :: r => uptoBulkEntry x + uptoBulkEntries r
def uptoBulkEntry {H : Type} : Lit × DataW H → Nat
  | (.string bytes, d) => bytes.length + uptoBulk d + 1
  | (_, d) => uptoBulk d + 1
 end
def uptoSmall : (H : Type) → List (DataW H) → Bool := fun _ ds => decide (uptoBulkAll ds ≤ 1048576)
def OpenSpec.upto (s : _root_.Go.ChangeSpec) : _root_.Go.OpenSpec := { _root_.Go.OpenSpec.ofChange s with cond := some uptoSmall }

/-- 'sledgelaw05.KdfExpands', WHERE WHAT IT READS IS OF BULK AT MOST 1048576: true; the input reads as it did. -/
def kdfExpandsUptoRow : OpenClaim := { program := "ytobelkpfncgmkaa", sum := "b37ebcdbd5e1e1825c6a4e790427f5e0b70f6e6d029dd73bca557310e5d284ea", func := "sledge/sledgelaw05.KdfExpands", spec := "kdfExpands", apart := false, narrowed := true }
def KdfExpandsUptoSaid : Prop := kdfExpandsUptoRow.holds Try.pinned (OpenSpec.upto kdfExpandsSpec)

/-- 'sledgelaw05.KdfBegins', WHERE WHAT IT READS IS OF BULK AT MOST 1048576: true; the input reads as it did. -/
def kdfBeginsUptoRow : OpenClaim := { program := "ytobelkpfncgmkaa", sum := "b37ebcdbd5e1e1825c6a4e790427f5e0b70f6e6d029dd73bca557310e5d284ea", func := "sledge/sledgelaw05.KdfBegins", spec := "kdfBegins", apart := false, narrowed := true }
def KdfBeginsUptoSaid : Prop := kdfBeginsUptoRow.holds Try.pinned (OpenSpec.upto kdfBeginsSpec)

/-- 'sledgelaw05.KdfMost', WHERE WHAT IT READS IS OF BULK AT MOST 1048576: true; the input reads as it did. -/
def kdfMostUptoRow : OpenClaim := { program := "ytobelkpfncgmkaa", sum := "b37ebcdbd5e1e1825c6a4e790427f5e0b70f6e6d029dd73bca557310e5d284ea", func := "sledge/sledgelaw05.KdfMost", spec := "kdfMost", apart := false, narrowed := true }
def KdfMostUptoSaid : Prop := kdfMostUptoRow.holds Try.pinned (OpenSpec.upto kdfMostSpec)

/-- 'sledgelaw05.KdfExtracts', WHERE WHAT IT READS IS OF BULK AT MOST 1048576: true; the input reads as it did. -/
def kdfExtractsUptoRow : OpenClaim := { program := "ytobelkpfncgmkaa", sum := "b37ebcdbd5e1e1825c6a4e790427f5e0b70f6e6d029dd73bca557310e5d284ea", func := "sledge/sledgelaw05.KdfExtracts", spec := "kdfExtracts", apart := false, narrowed := true }
def KdfExtractsUptoSaid : Prop := kdfExtractsUptoRow.holds Try.pinned (OpenSpec.upto kdfExtractsSpec)

/-- 'sledgelaw05.KdfKeys', WHERE WHAT IT READS IS OF BULK AT MOST 1048576: true; the input reads as it did. -/
def kdfKeysUptoRow : OpenClaim := { program := "ytobelkpfncgmkaa", sum := "b37ebcdbd5e1e1825c6a4e790427f5e0b70f6e6d029dd73bca557310e5d284ea", func := "sledge/sledgelaw05.KdfKeys", spec := "kdfKeys", apart := false, narrowed := true }
def KdfKeysUptoSaid : Prop := kdfKeysUptoRow.holds Try.pinned (OpenSpec.upto kdfKeysSpec)

/-- 'sledgelaw18.HeaderSigns', WHERE WHAT IT READS IS OF BULK AT MOST 1048576: true; the input reads as it did. -/
def headerSignsUptoRow : OpenClaim := { program := "ytobelkpfncgmkaa", sum := "b37ebcdbd5e1e1825c6a4e790427f5e0b70f6e6d029dd73bca557310e5d284ea", func := "sledge/sledgelaw18.HeaderSigns", spec := "headerSigns", apart := false, narrowed := true }
def HeaderSignsUptoSaid : Prop := headerSignsUptoRow.holds Try.pinned (OpenSpec.upto headerSignsSpec)

/-- 'sledgelaw18.HeaderTags', WHERE WHAT IT READS IS OF BULK AT MOST 1048576: true; the input reads as it did. -/
def headerTagsUptoRow : OpenClaim := { program := "ytobelkpfncgmkaa", sum := "b37ebcdbd5e1e1825c6a4e790427f5e0b70f6e6d029dd73bca557310e5d284ea", func := "sledge/sledgelaw18.HeaderTags", spec := "headerTags", apart := false, narrowed := true }
def HeaderTagsUptoSaid : Prop := headerTagsUptoRow.holds Try.pinned (OpenSpec.upto headerTagsSpec)

end Rows
end Go.Proofs.Ytobelkpfncgmkaa
