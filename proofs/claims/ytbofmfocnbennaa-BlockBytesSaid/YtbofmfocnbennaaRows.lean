/-
  No cell of these rows narrows 'for every input' (looked for: loops, veiled, ifaces, maps, wideKeys, modest, calm, conditions, laid).
  DERIVED. THE GIVEN ROWS OF THIS SEAT. 9 by the template 'for every input the law returns true; each argument reads behind the call as it read before'; 0 by the template 'total and deterministic' (their statements: YtbofmfocnbennaaTotals.lean).
  GIVEN WITH THE SEED: the statements are not yours to turn. If you find one false, say at which input.
  Laid BY PROGRAM, IN A SANDBOX (cutbox-rows.mjs): the forced cells as the released guide's own fill.sh prints them over the translation ee70f386d8f91aa2… (all of the seat's roots in one cut). By AI agents, Wed Nov 11 2026. No macro, syntax, notation, axiom, sorry.
-/
import Derived.Test.YtbofmfocnbennaaChecked
import GoSem.Claim
import GoSem.ClaimJoined
import GoSem.ClaimMapViews
import Derived.JoinedTies
import Derived.KernelRfl
namespace Go.Proofs.Ytbofmfocnbennaa
/- THE CELL 'sum', in the pinned program and in every row, IS THE sha256 OF THE DUMP (.gsa) THAT YtbofmfocnbennaaProg.lean LOADS. Nothing in Lean hashes anything: it is a label: what it is worth is what the hold of that sum in a sandbox is worth. -/
noncomputable def Try.pinned : Pinned := { name := "ytbofmfocnbennaa", sum := "ee70f386d8f91aa20c57e72e86610d5bd67873f39cff93dee78766535e43a9c9", checked := Try.checked }
namespace Rows
def none {H : Type} : Left H := { results := [], args := [] }

/-- 'sledgelaw18.HeaderBack': WHATEVER THE INPUT: true; the input reads as it did. -/
def headerBackSpec : ChangeSpec := { name := "headerBack", fn := fun _ => fun
  | [d1, d2] => { results := [.lit (.bool true)], args := [d1, d2] }
  | _ => none }
def headerBackRow : OpenClaim := { program := "ytbofmfocnbennaa", sum := "ee70f386d8f91aa20c57e72e86610d5bd67873f39cff93dee78766535e43a9c9", func := "sledge/sledgelaw18.HeaderBack", spec := "headerBack", unfollowed := true, recurses := true, apart := false }
def HeaderBackSaid : Prop := headerBackRow.holds Try.pinned (OpenSpec.ofChange headerBackSpec)

/-- ITS FALSE NEIGHBOUR: 'it returns false'. Refute it at one input. -/
def headerBackWrong : ChangeSpec := { name := "headerBack", fn := fun _ => fun
  | [d1, d2] => { results := [.lit (.bool false)], args := [d1, d2] }
  | _ => none }
def HeaderBackWrongFalsely : Prop := headerBackRow.holds Try.pinned (OpenSpec.ofChange headerBackWrong)

/-- 'sledgelaw05.KdfKeys': WHATEVER THE INPUT: true; the input reads as it did. -/
def kdfKeysSpec : ChangeSpec := { name := "kdfKeys", fn := fun _ => fun
  | [d1, d2, d3] => { results := [.lit (.bool true)], args := [d1, d2, d3] }
  | _ => none }
def kdfKeysRow : OpenClaim := { program := "ytbofmfocnbennaa", sum := "ee70f386d8f91aa20c57e72e86610d5bd67873f39cff93dee78766535e43a9c9", func := "sledge/sledgelaw05.KdfKeys", spec := "kdfKeys", apart := false }
def KdfKeysSaid : Prop := kdfKeysRow.holds Try.pinned (OpenSpec.ofChange kdfKeysSpec)

/-- ITS FALSE NEIGHBOUR: 'it returns false'. Refute it at one input. -/
def kdfKeysWrong : ChangeSpec := { name := "kdfKeys", fn := fun _ => fun
  | [d1, d2, d3] => { results := [.lit (.bool false)], args := [d1, d2, d3] }
  | _ => none }
def KdfKeysWrongFalsely : Prop := kdfKeysRow.holds Try.pinned (OpenSpec.ofChange kdfKeysWrong)

/-- 'sledgelaw18.HeaderSigns': WHATEVER THE INPUT: true; the input reads as it did. -/
def headerSignsSpec : ChangeSpec := { name := "headerSigns", fn := fun _ => fun
  | [d1, d2] => { results := [.lit (.bool true)], args := [d1, d2] }
  | _ => none }
def headerSignsRow : OpenClaim := { program := "ytbofmfocnbennaa", sum := "ee70f386d8f91aa20c57e72e86610d5bd67873f39cff93dee78766535e43a9c9", func := "sledge/sledgelaw18.HeaderSigns", spec := "headerSigns", apart := false }
def HeaderSignsSaid : Prop := headerSignsRow.holds Try.pinned (OpenSpec.ofChange headerSignsSpec)

/-- ITS FALSE NEIGHBOUR: 'it returns false'. Refute it at one input. -/
def headerSignsWrong : ChangeSpec := { name := "headerSigns", fn := fun _ => fun
  | [d1, d2] => { results := [.lit (.bool false)], args := [d1, d2] }
  | _ => none }
def HeaderSignsWrongFalsely : Prop := headerSignsRow.holds Try.pinned (OpenSpec.ofChange headerSignsWrong)

/-- 'sledgelaw18.HeaderTags': WHATEVER THE INPUT: true; the input reads as it did. -/
def headerTagsSpec : ChangeSpec := { name := "headerTags", fn := fun _ => fun
  | [d1, d2, d3, d4] => { results := [.lit (.bool true)], args := [d1, d2, d3, d4] }
  | _ => none }
def headerTagsRow : OpenClaim := { program := "ytbofmfocnbennaa", sum := "ee70f386d8f91aa20c57e72e86610d5bd67873f39cff93dee78766535e43a9c9", func := "sledge/sledgelaw18.HeaderTags", spec := "headerTags", apart := false }
def HeaderTagsSaid : Prop := headerTagsRow.holds Try.pinned (OpenSpec.ofChange headerTagsSpec)

/-- ITS FALSE NEIGHBOUR: 'it returns false'. Refute it at one input. -/
def headerTagsWrong : ChangeSpec := { name := "headerTags", fn := fun _ => fun
  | [d1, d2, d3, d4] => { results := [.lit (.bool false)], args := [d1, d2, d3, d4] }
  | _ => none }
def HeaderTagsWrongFalsely : Prop := headerTagsRow.holds Try.pinned (OpenSpec.ofChange headerTagsWrong)

/-- 'sledgelaw14.BlockSeals': WHATEVER THE INPUT: true; the input reads as it did. -/
def blockSealsSpec : ChangeSpec := { name := "blockSeals", fn := fun _ => fun
  | [d1, d2, d3] => { results := [.lit (.bool true)], args := [d1, d2, d3] }
  | _ => none }
def blockSealsRow : OpenClaim := { program := "ytbofmfocnbennaa", sum := "ee70f386d8f91aa20c57e72e86610d5bd67873f39cff93dee78766535e43a9c9", func := "sledge/sledgelaw14.BlockSeals", spec := "blockSeals", apart := false }
def BlockSealsSaid : Prop := blockSealsRow.holds Try.pinned (OpenSpec.ofChange blockSealsSpec)

/-- ITS FALSE NEIGHBOUR: 'it returns false'. Refute it at one input. -/
def blockSealsWrong : ChangeSpec := { name := "blockSeals", fn := fun _ => fun
  | [d1, d2, d3] => { results := [.lit (.bool false)], args := [d1, d2, d3] }
  | _ => none }
def BlockSealsWrongFalsely : Prop := blockSealsRow.holds Try.pinned (OpenSpec.ofChange blockSealsWrong)

/-- 'sledgelaw14.BlockOpens': WHATEVER THE INPUT: true; the input reads as it did. -/
def blockOpensSpec : ChangeSpec := { name := "blockOpens", fn := fun _ => fun
  | [d1, d2, d3] => { results := [.lit (.bool true)], args := [d1, d2, d3] }
  | _ => none }
def blockOpensRow : OpenClaim := { program := "ytbofmfocnbennaa", sum := "ee70f386d8f91aa20c57e72e86610d5bd67873f39cff93dee78766535e43a9c9", func := "sledge/sledgelaw14.BlockOpens", spec := "blockOpens", apart := false }
def BlockOpensSaid : Prop := blockOpensRow.holds Try.pinned (OpenSpec.ofChange blockOpensSpec)

/-- ITS FALSE NEIGHBOUR: 'it returns false'. Refute it at one input. -/
def blockOpensWrong : ChangeSpec := { name := "blockOpens", fn := fun _ => fun
  | [d1, d2, d3] => { results := [.lit (.bool false)], args := [d1, d2, d3] }
  | _ => none }
def BlockOpensWrongFalsely : Prop := blockOpensRow.holds Try.pinned (OpenSpec.ofChange blockOpensWrong)

/-- 'sledgelaw14.BlockBack': WHATEVER THE INPUT: true; the input reads as it did. -/
def blockBackSpec : ChangeSpec := { name := "blockBack", fn := fun _ => fun
  | [d1, d2, d3] => { results := [.lit (.bool true)], args := [d1, d2, d3] }
  | _ => none }
def blockBackRow : OpenClaim := { program := "ytbofmfocnbennaa", sum := "ee70f386d8f91aa20c57e72e86610d5bd67873f39cff93dee78766535e43a9c9", func := "sledge/sledgelaw14.BlockBack", spec := "blockBack", apart := false }
def BlockBackSaid : Prop := blockBackRow.holds Try.pinned (OpenSpec.ofChange blockBackSpec)

/-- ITS FALSE NEIGHBOUR: 'it returns false'. Refute it at one input. -/
def blockBackWrong : ChangeSpec := { name := "blockBack", fn := fun _ => fun
  | [d1, d2, d3] => { results := [.lit (.bool false)], args := [d1, d2, d3] }
  | _ => none }
def BlockBackWrongFalsely : Prop := blockBackRow.holds Try.pinned (OpenSpec.ofChange blockBackWrong)

/-- 'sledgelaw14.BlockTags': WHATEVER THE INPUT: true; the input reads as it did. -/
def blockTagsSpec : ChangeSpec := { name := "blockTags", fn := fun _ => fun
  | [d1, d2, d3, d4, d5] => { results := [.lit (.bool true)], args := [d1, d2, d3, d4, d5] }
  | _ => none }
def blockTagsRow : OpenClaim := { program := "ytbofmfocnbennaa", sum := "ee70f386d8f91aa20c57e72e86610d5bd67873f39cff93dee78766535e43a9c9", func := "sledge/sledgelaw14.BlockTags", spec := "blockTags", apart := false }
def BlockTagsSaid : Prop := blockTagsRow.holds Try.pinned (OpenSpec.ofChange blockTagsSpec)

/-- ITS FALSE NEIGHBOUR: 'it returns false'. Refute it at one input. -/
def blockTagsWrong : ChangeSpec := { name := "blockTags", fn := fun _ => fun
  | [d1, d2, d3, d4, d5] => { results := [.lit (.bool false)], args := [d1, d2, d3, d4, d5] }
  | _ => none }
def BlockTagsWrongFalsely : Prop := blockTagsRow.holds Try.pinned (OpenSpec.ofChange blockTagsWrong)

/-- 'sledgelaw14.BlockBytes': WHATEVER THE INPUT: true; the input reads as it did. -/
def blockBytesSpec : ChangeSpec := { name := "blockBytes", fn := fun _ => fun
  | [d1, d2, d3, d4] => { results := [.lit (.bool true)], args := [d1, d2, d3, d4] }
  | _ => none }
def blockBytesRow : OpenClaim := { program := "ytbofmfocnbennaa", sum := "ee70f386d8f91aa20c57e72e86610d5bd67873f39cff93dee78766535e43a9c9", func := "sledge/sledgelaw14.BlockBytes", spec := "blockBytes", apart := false }
def BlockBytesSaid : Prop := blockBytesRow.holds Try.pinned (OpenSpec.ofChange blockBytesSpec)

/-- ITS FALSE NEIGHBOUR: 'it returns false'. Refute it at one input. -/
def blockBytesWrong : ChangeSpec := { name := "blockBytes", fn := fun _ => fun
  | [d1, d2, d3, d4] => { results := [.lit (.bool false)], args := [d1, d2, d3, d4] }
  | _ => none }
def BlockBytesWrongFalsely : Prop := blockBytesRow.holds Try.pinned (OpenSpec.ofChange blockBytesWrong)

/- THE SECOND FORM. 'bulk': how many values and letters a reading holds, each counted each time it is reached (what is shared counts as often as it is met; a slice's spare places count too). A statement '..UptoSaid' is the law's where the arguments, and the package variables that the reading takes, are together of bulk at most 1048576: NARROWER than '..Said'. Prove '..Said' where nothing that the law and all that it calls make is longer than what came in: it says more and counts as full. Else prove '..UptoSaid'. A law counts once. -/
mutual
def uptoBulk {H : Type} : DataW H → Nat
  | .lit (.string bytes) => bytes.length + 1
  | .lit _ => 1
  | .nil => 1
  | .ptr d => uptoBulk d + 1
  | .slice elems spare => uptoBulkAll elems + uptoBulkAll spare + 1
  | .agg parts => uptoBulkAll parts + 1
  | .iface _ d => uptoBulk d + 1
  | .map entries => uptoBulkEntries entries + 1
  | .held _ => 1
def uptoBulkAll {H : Type} : List (DataW H) → Nat
  | [] => 0
  | d :: r => uptoBulk d + uptoBulkAll r
def uptoBulkEntries {H : Type} : List (Lit × DataW H) → Nat
  | [] => 0
  | x :: r => uptoBulkEntry x + uptoBulkEntries r
def uptoBulkEntry {H : Type} : Lit × DataW H → Nat
  | (.string bytes, d) => bytes.length + uptoBulk d + 1
  | (_, d) => uptoBulk d + 1
 end
def uptoSmall : (H : Type) → List (DataW H) → Bool := fun _ ds => decide (uptoBulkAll ds ≤ 1048576)
def OpenSpec.upto (s : _root_.Go.ChangeSpec) : _root_.Go.OpenSpec := { _root_.Go.OpenSpec.ofChange s with cond := some uptoSmall }

/-- 'sledgelaw18.HeaderBack', WHERE WHAT IT READS IS OF BULK AT MOST 1048576: true; the input reads as it did. -/
def headerBackUptoRow : OpenClaim := { program := "ytbofmfocnbennaa", sum := "ee70f386d8f91aa20c57e72e86610d5bd67873f39cff93dee78766535e43a9c9", func := "sledge/sledgelaw18.HeaderBack", spec := "headerBack", unfollowed := true, recurses := true, apart := false, narrowed := true }
def HeaderBackUptoSaid : Prop := headerBackUptoRow.holds Try.pinned (OpenSpec.upto headerBackSpec)

/-- 'sledgelaw05.KdfKeys', WHERE WHAT IT READS IS OF BULK AT MOST 1048576: true; the input reads as it did. -/
def kdfKeysUptoRow : OpenClaim := { program := "ytbofmfocnbennaa", sum := "ee70f386d8f91aa20c57e72e86610d5bd67873f39cff93dee78766535e43a9c9", func := "sledge/sledgelaw05.KdfKeys", spec := "kdfKeys", apart := false, narrowed := true }
def KdfKeysUptoSaid : Prop := kdfKeysUptoRow.holds Try.pinned (OpenSpec.upto kdfKeysSpec)

/-- 'sledgelaw18.HeaderSigns', WHERE WHAT IT READS IS OF BULK AT MOST 1048576: true; the input reads as it did. -/
def headerSignsUptoRow : OpenClaim := { program := "ytbofmfocnbennaa", sum := "ee70f386d8f91aa20c57e72e86610d5bd67873f39cff93dee78766535e43a9c9", func := "sledge/sledgelaw18.HeaderSigns", spec := "headerSigns", apart := false, narrowed := true }
def HeaderSignsUptoSaid : Prop := headerSignsUptoRow.holds Try.pinned (OpenSpec.upto headerSignsSpec)

/-- 'sledgelaw18.HeaderTags', WHERE WHAT IT READS IS OF BULK AT MOST 1048576: true; the input reads as it did. -/
def headerTagsUptoRow : OpenClaim := { program := "ytbofmfocnbennaa", sum := "ee70f386d8f91aa20c57e72e86610d5bd67873f39cff93dee78766535e43a9c9", func := "sledge/sledgelaw18.HeaderTags", spec := "headerTags", apart := false, narrowed := true }
def HeaderTagsUptoSaid : Prop := headerTagsUptoRow.holds Try.pinned (OpenSpec.upto headerTagsSpec)

/-- 'sledgelaw14.BlockSeals', WHERE WHAT IT READS IS OF BULK AT MOST 1048576: true; the input reads as it did. -/
def blockSealsUptoRow : OpenClaim := { program := "ytbofmfocnbennaa", sum := "ee70f386d8f91aa20c57e72e86610d5bd67873f39cff93dee78766535e43a9c9", func := "sledge/sledgelaw14.BlockSeals", spec := "blockSeals", apart := false, narrowed := true }
def BlockSealsUptoSaid : Prop := blockSealsUptoRow.holds Try.pinned (OpenSpec.upto blockSealsSpec)

/-- 'sledgelaw14.BlockOpens', WHERE WHAT IT READS IS OF BULK AT MOST 1048576: true; the input reads as it did. -/
def blockOpensUptoRow : OpenClaim := { program := "ytbofmfocnbennaa", sum := "ee70f386d8f91aa20c57e72e86610d5bd67873f39cff93dee78766535e43a9c9", func := "sledge/sledgelaw14.BlockOpens", spec := "blockOpens", apart := false, narrowed := true }
def BlockOpensUptoSaid : Prop := blockOpensUptoRow.holds Try.pinned (OpenSpec.upto blockOpensSpec)

/-- 'sledgelaw14.BlockBack', WHERE WHAT IT READS IS OF BULK AT MOST 1048576: true; the input reads as it did. -/
def blockBackUptoRow : OpenClaim := { program := "ytbofmfocnbennaa", sum := "ee70f386d8f91aa20c57e72e86610d5bd67873f39cff93dee78766535e43a9c9", func := "sledge/sledgelaw14.BlockBack", spec := "blockBack", apart := false, narrowed := true }
def BlockBackUptoSaid : Prop := blockBackUptoRow.holds Try.pinned (OpenSpec.upto blockBackSpec)

/-- 'sledgelaw14.BlockTags', WHERE WHAT IT READS IS OF BULK AT MOST 1048576: true; the input reads as it did. -/
def blockTagsUptoRow : OpenClaim := { program := "ytbofmfocnbennaa", sum := "ee70f386d8f91aa20c57e72e86610d5bd67873f39cff93dee78766535e43a9c9", func := "sledge/sledgelaw14.BlockTags", spec := "blockTags", apart := false, narrowed := true }
def BlockTagsUptoSaid : Prop := blockTagsUptoRow.holds Try.pinned (OpenSpec.upto blockTagsSpec)

/-- 'sledgelaw14.BlockBytes', WHERE WHAT IT READS IS OF BULK AT MOST 1048576: true; the input reads as it did. -/
def blockBytesUptoRow : OpenClaim := { program := "ytbofmfocnbennaa", sum := "ee70f386d8f91aa20c57e72e86610d5bd67873f39cff93dee78766535e43a9c9", func := "sledge/sledgelaw14.BlockBytes", spec := "blockBytes", apart := false, narrowed := true }
def BlockBytesUptoSaid : Prop := blockBytesUptoRow.holds Try.pinned (OpenSpec.upto blockBytesSpec)

end Rows
end Go.Proofs.Ytbofmfocnbennaa
