/-
  No cell of these rows narrows 'for every input' (looked for: loops, veiled, ifaces, maps, wideKeys, modest, calm, conditions, laid).
  DERIVED. THE GIVEN ROWS OF THIS SEAT. 9 by the template 'for every input the law returns true; each argument reads behind the call as it read before'; 0 by the template 'total and deterministic' (their statements: YthcmkmbnpibnfaaTotals.lean).
  GIVEN WITH THE SEED: the statements are not yours to turn. If you find one false, say at which input.
  Laid BY PROGRAM, IN A SANDBOX (cutbox-rows.mjs): the forced cells as the released guide's own fill.sh prints them over the translation a2b32c71f74833c6… (all of the seat's roots in one cut). By AI agents, Wed Nov 11 2026. No macro, syntax, notation, axiom, sorry.
-/
import Derived.Test.YthcmkmbnpibnfaaChecked
import GoSem.Claim
import GoSem.ClaimJoined
import GoSem.ClaimMapViews
import Derived.JoinedTies
import Derived.KernelRfl
namespace Go.Proofs.Ythcmkmbnpibnfaa
/- THE CELL 'sum', in the pinned program and in every row, IS THE sha256 OF THE DUMP (.gsa) THAT YthcmkmbnpibnfaaProg.lean LOADS. Nothing in Lean hashes anything: it is a label: what it is worth is what the hold of that sum in a sandbox is worth. -/
noncomputable def Try.pinned : Pinned := { name := "ythcmkmbnpibnfaa", sum := "a2b32c71f74833c62502c69d179d04b56845a6481d62d391975882a29e4aae33", checked := Try.checked }
namespace Rows
def none {H : Type} : Left H := { results := [], args := [] }

/-- 'sledgelaw04.ChachaQuarters': WHATEVER THE INPUT: true; the input reads as it did. -/
def chachaQuartersSpec : ChangeSpec := { name := "chachaQuarters", fn := fun _ => fun
  | [d1, d2, d3, d4] => { results := [.lit (.bool true)], args := [d1, d2, d3, d4] }
  | _ => none }
def chachaQuartersRow : OpenClaim := { program := "ythcmkmbnpibnfaa", sum := "a2b32c71f74833c62502c69d179d04b56845a6481d62d391975882a29e4aae33", func := "sledge/sledgelaw04.ChachaQuarters", spec := "chachaQuarters", apart := false }
def ChachaQuartersSaid : Prop := chachaQuartersRow.holds Try.pinned (OpenSpec.ofChange chachaQuartersSpec)

/-- ITS FALSE NEIGHBOUR: 'it returns false'. Refute it at one input. -/
def chachaQuartersWrong : ChangeSpec := { name := "chachaQuarters", fn := fun _ => fun
  | [d1, d2, d3, d4] => { results := [.lit (.bool false)], args := [d1, d2, d3, d4] }
  | _ => none }
def ChachaQuartersWrongFalsely : Prop := chachaQuartersRow.holds Try.pinned (OpenSpec.ofChange chachaQuartersWrong)

/-- 'sledgelaw18.HeaderPuts': WHATEVER THE INPUT: true; the input reads as it did. -/
def headerPutsSpec : ChangeSpec := { name := "headerPuts", fn := fun _ => fun
  | [d] => { results := [.lit (.bool true)], args := [d] }
  | _ => none }
def headerPutsRow : OpenClaim := { program := "ythcmkmbnpibnfaa", sum := "a2b32c71f74833c62502c69d179d04b56845a6481d62d391975882a29e4aae33", func := "sledge/sledgelaw18.HeaderPuts", spec := "headerPuts", apart := false }
def HeaderPutsSaid : Prop := headerPutsRow.holds Try.pinned (OpenSpec.ofChange headerPutsSpec)

/-- ITS FALSE NEIGHBOUR: 'it returns false'. Refute it at one input. -/
def headerPutsWrong : ChangeSpec := { name := "headerPuts", fn := fun _ => fun
  | [d] => { results := [.lit (.bool false)], args := [d] }
  | _ => none }
def HeaderPutsWrongFalsely : Prop := headerPutsRow.holds Try.pinned (OpenSpec.ofChange headerPutsWrong)

/-- 'sledgelaw04.ChachaBack': WHATEVER THE INPUT: true; the input reads as it did. -/
def chachaBackSpec : ChangeSpec := { name := "chachaBack", fn := fun _ => fun
  | [d1, d2, d3, d4] => { results := [.lit (.bool true)], args := [d1, d2, d3, d4] }
  | _ => none }
def chachaBackRow : OpenClaim := { program := "ythcmkmbnpibnfaa", sum := "a2b32c71f74833c62502c69d179d04b56845a6481d62d391975882a29e4aae33", func := "sledge/sledgelaw04.ChachaBack", spec := "chachaBack", apart := false }
def ChachaBackSaid : Prop := chachaBackRow.holds Try.pinned (OpenSpec.ofChange chachaBackSpec)

/-- ITS FALSE NEIGHBOUR: 'it returns false'. Refute it at one input. -/
def chachaBackWrong : ChangeSpec := { name := "chachaBack", fn := fun _ => fun
  | [d1, d2, d3, d4] => { results := [.lit (.bool false)], args := [d1, d2, d3, d4] }
  | _ => none }
def ChachaBackWrongFalsely : Prop := chachaBackRow.holds Try.pinned (OpenSpec.ofChange chachaBackWrong)

/-- 'sledgelaw04.ChachaBlocks': WHATEVER THE INPUT: true; the input reads as it did. -/
def chachaBlocksSpec : ChangeSpec := { name := "chachaBlocks", fn := fun _ => fun
  | [d1, d2, d3] => { results := [.lit (.bool true)], args := [d1, d2, d3] }
  | _ => none }
def chachaBlocksRow : OpenClaim := { program := "ythcmkmbnpibnfaa", sum := "a2b32c71f74833c62502c69d179d04b56845a6481d62d391975882a29e4aae33", func := "sledge/sledgelaw04.ChachaBlocks", spec := "chachaBlocks", apart := false }
def ChachaBlocksSaid : Prop := chachaBlocksRow.holds Try.pinned (OpenSpec.ofChange chachaBlocksSpec)

/-- ITS FALSE NEIGHBOUR: 'it returns false'. Refute it at one input. -/
def chachaBlocksWrong : ChangeSpec := { name := "chachaBlocks", fn := fun _ => fun
  | [d1, d2, d3] => { results := [.lit (.bool false)], args := [d1, d2, d3] }
  | _ => none }
def ChachaBlocksWrongFalsely : Prop := chachaBlocksRow.holds Try.pinned (OpenSpec.ofChange chachaBlocksWrong)

/-- 'sledgelaw18.HeaderTakes': WHATEVER THE INPUT: true; the input reads as it did. -/
def headerTakesSpec : ChangeSpec := { name := "headerTakes", fn := fun _ => fun
  | [d] => { results := [.lit (.bool true)], args := [d] }
  | _ => none }
def headerTakesRow : OpenClaim := { program := "ythcmkmbnpibnfaa", sum := "a2b32c71f74833c62502c69d179d04b56845a6481d62d391975882a29e4aae33", func := "sledge/sledgelaw18.HeaderTakes", spec := "headerTakes", unfollowed := true, recurses := true, apart := false }
def HeaderTakesSaid : Prop := headerTakesRow.holds Try.pinned (OpenSpec.ofChange headerTakesSpec)

/-- ITS FALSE NEIGHBOUR: 'it returns false'. Refute it at one input. -/
def headerTakesWrong : ChangeSpec := { name := "headerTakes", fn := fun _ => fun
  | [d] => { results := [.lit (.bool false)], args := [d] }
  | _ => none }
def HeaderTakesWrongFalsely : Prop := headerTakesRow.holds Try.pinned (OpenSpec.ofChange headerTakesWrong)

/-- 'sledgelaw18.HeaderBack': WHATEVER THE INPUT: true; the input reads as it did. -/
def headerBackSpec : ChangeSpec := { name := "headerBack", fn := fun _ => fun
  | [d1, d2] => { results := [.lit (.bool true)], args := [d1, d2] }
  | _ => none }
def headerBackRow : OpenClaim := { program := "ythcmkmbnpibnfaa", sum := "a2b32c71f74833c62502c69d179d04b56845a6481d62d391975882a29e4aae33", func := "sledge/sledgelaw18.HeaderBack", spec := "headerBack", unfollowed := true, recurses := true, apart := false }
def HeaderBackSaid : Prop := headerBackRow.holds Try.pinned (OpenSpec.ofChange headerBackSpec)

/-- ITS FALSE NEIGHBOUR: 'it returns false'. Refute it at one input. -/
def headerBackWrong : ChangeSpec := { name := "headerBack", fn := fun _ => fun
  | [d1, d2] => { results := [.lit (.bool false)], args := [d1, d2] }
  | _ => none }
def HeaderBackWrongFalsely : Prop := headerBackRow.holds Try.pinned (OpenSpec.ofChange headerBackWrong)

/-- 'sledgelaw04.ChachaTurns': WHATEVER THE INPUT: true; the input reads as it did. -/
def chachaTurnsSpec : ChangeSpec := { name := "chachaTurns", fn := fun _ => fun
  | [d1, d2, d3, d4] => { results := [.lit (.bool true)], args := [d1, d2, d3, d4] }
  | _ => none }
def chachaTurnsRow : OpenClaim := { program := "ythcmkmbnpibnfaa", sum := "a2b32c71f74833c62502c69d179d04b56845a6481d62d391975882a29e4aae33", func := "sledge/sledgelaw04.ChachaTurns", spec := "chachaTurns", apart := false }
def ChachaTurnsSaid : Prop := chachaTurnsRow.holds Try.pinned (OpenSpec.ofChange chachaTurnsSpec)

/-- ITS FALSE NEIGHBOUR: 'it returns false'. Refute it at one input. -/
def chachaTurnsWrong : ChangeSpec := { name := "chachaTurns", fn := fun _ => fun
  | [d1, d2, d3, d4] => { results := [.lit (.bool false)], args := [d1, d2, d3, d4] }
  | _ => none }
def ChachaTurnsWrongFalsely : Prop := chachaTurnsRow.holds Try.pinned (OpenSpec.ofChange chachaTurnsWrong)

/-- 'sledgelaw04.ChachaTwice': WHATEVER THE INPUT: true; the input reads as it did. -/
def chachaTwiceSpec : ChangeSpec := { name := "chachaTwice", fn := fun _ => fun
  | [d1, d2, d3, d4] => { results := [.lit (.bool true)], args := [d1, d2, d3, d4] }
  | _ => none }
def chachaTwiceRow : OpenClaim := { program := "ythcmkmbnpibnfaa", sum := "a2b32c71f74833c62502c69d179d04b56845a6481d62d391975882a29e4aae33", func := "sledge/sledgelaw04.ChachaTwice", spec := "chachaTwice", apart := false }
def ChachaTwiceSaid : Prop := chachaTwiceRow.holds Try.pinned (OpenSpec.ofChange chachaTwiceSpec)

/-- ITS FALSE NEIGHBOUR: 'it returns false'. Refute it at one input. -/
def chachaTwiceWrong : ChangeSpec := { name := "chachaTwice", fn := fun _ => fun
  | [d1, d2, d3, d4] => { results := [.lit (.bool false)], args := [d1, d2, d3, d4] }
  | _ => none }
def ChachaTwiceWrongFalsely : Prop := chachaTwiceRow.holds Try.pinned (OpenSpec.ofChange chachaTwiceWrong)

/-- 'sledgelaw04.ChachaSeeks': WHATEVER THE INPUT: true; the input reads as it did. -/
def chachaSeeksSpec : ChangeSpec := { name := "chachaSeeks", fn := fun _ => fun
  | [d1, d2, d3, d4, d5] => { results := [.lit (.bool true)], args := [d1, d2, d3, d4, d5] }
  | _ => none }
def chachaSeeksRow : OpenClaim := { program := "ythcmkmbnpibnfaa", sum := "a2b32c71f74833c62502c69d179d04b56845a6481d62d391975882a29e4aae33", func := "sledge/sledgelaw04.ChachaSeeks", spec := "chachaSeeks", apart := false }
def ChachaSeeksSaid : Prop := chachaSeeksRow.holds Try.pinned (OpenSpec.ofChange chachaSeeksSpec)

/-- ITS FALSE NEIGHBOUR: 'it returns false'. Refute it at one input. -/
def chachaSeeksWrong : ChangeSpec := { name := "chachaSeeks", fn := fun _ => fun
  | [d1, d2, d3, d4, d5] => { results := [.lit (.bool false)], args := [d1, d2, d3, d4, d5] }
  | _ => none }
def ChachaSeeksWrongFalsely : Prop := chachaSeeksRow.holds Try.pinned (OpenSpec.ofChange chachaSeeksWrong)

/- THE SECOND FORM. 'bulk': how many values and letters a reading holds, each counted each time it is reached (what is shared counts as often as it is met; a slice's spare places count too). A statement '..UptoSaid' is the law's where the arguments, and the package variables that the reading takes, are together of bulk at most 1048576: NARROWER than '..Said'. Prove '..Said' where nothing that the law and all that it calls make is longer than what came in: it says more and counts as full. Else prove '..UptoSaid'. A law counts once. -/
mutual
def uptoBulk {H : Type} : DataW H → Nat
  | .lit (.string bytes) => bytes.length + 1
  | .lit _ => 1
  | .nil => 1
  | .ptr d => uptoBulk d + 1
  | .slice elems spare => uptoBulkAll elems + uptoBulkAll spare + 1
  | .agg parts => uptoBulkAll parts + 1
  | .iface _ d => uptoBulk d + 1
  | .map entries => uptoBulkEntries entries + 1
  | .held _ => 1
def uptoBulkAll {H : Type} : List (DataW H) → Nat
  | [] => 0
  | d :: r => uptoBulk d + uptoBulkAll r
def uptoBulkEntries {H : Type} : List (Lit × DataW H) → Nat
  | [] => 0
  | x :: r => uptoBulkEntry x + uptoBulkEntries r
def uptoBulkEntry {H : Type} : Lit × DataW H → Nat
  | (.string bytes, d) => bytes.length + uptoBulk d + 1
  | (_, d) => uptoBulk d + 1
 end
def uptoSmall : (H : Type) → List (DataW H) → Bool := fun _ ds => decide (uptoBulkAll ds ≤ 1048576)
def OpenSpec.upto (s : _root_.Go.ChangeSpec) : _root_.Go.OpenSpec := { _root_.Go.OpenSpec.ofChange s with cond := some uptoSmall }

/-- 'sledgelaw04.ChachaQuarters', WHERE WHAT IT READS IS OF BULK AT MOST 1048576: true; the input reads as it did. -/
def chachaQuartersUptoRow : OpenClaim := { program := "ythcmkmbnpibnfaa", sum := "a2b32c71f74833c62502c69d179d04b56845a6481d62d391975882a29e4aae33", func := "sledge/sledgelaw04.ChachaQuarters", spec := "chachaQuarters", apart := false, narrowed := true }
def ChachaQuartersUptoSaid : Prop := chachaQuartersUptoRow.holds Try.pinned (OpenSpec.upto chachaQuartersSpec)

/-- 'sledgelaw18.HeaderPuts', WHERE WHAT IT READS IS OF BULK AT MOST 1048576: true; the input reads as it did. -/
def headerPutsUptoRow : OpenClaim := { program := "ythcmkmbnpibnfaa", sum := "a2b32c71f74833c62502c69d179d04b56845a6481d62d391975882a29e4aae33", func := "sledge/sledgelaw18.HeaderPuts", spec := "headerPuts", apart := false, narrowed := true }
def HeaderPutsUptoSaid : Prop := headerPutsUptoRow.holds Try.pinned (OpenSpec.upto headerPutsSpec)

/-- 'sledgelaw04.ChachaBack', WHERE WHAT IT READS IS OF BULK AT MOST 1048576: true; the input reads as it did. -/
def chachaBackUptoRow : OpenClaim := { program := "ythcmkmbnpibnfaa", sum := "a2b32c71f74833c62502c69d179d04b56845a6481d62d391975882a29e4aae33", func := "sledge/sledgelaw04.ChachaBack", spec := "chachaBack", apart := false, narrowed := true }
def ChachaBackUptoSaid : Prop := chachaBackUptoRow.holds Try.pinned (OpenSpec.upto chachaBackSpec)

/-- 'sledgelaw04.ChachaBlocks', WHERE WHAT IT READS IS OF BULK AT MOST 1048576: true; the input reads as it did. -/
def chachaBlocksUptoRow : OpenClaim := { program := "ythcmkmbnpibnfaa", sum := "a2b32c71f74833c62502c69d179d04b56845a6481d62d391975882a29e4aae33", func := "sledge/sledgelaw04.ChachaBlocks", spec := "chachaBlocks", apart := false, narrowed := true }
def ChachaBlocksUptoSaid : Prop := chachaBlocksUptoRow.holds Try.pinned (OpenSpec.upto chachaBlocksSpec)

/-- 'sledgelaw18.HeaderTakes', WHERE WHAT IT READS IS OF BULK AT MOST 1048576: true; the input reads as it did. -/
def headerTakesUptoRow : OpenClaim := { program := "ythcmkmbnpibnfaa", sum := "a2b32c71f74833c62502c69d179d04b56845a6481d62d391975882a29e4aae33", func := "sledge/sledgelaw18.HeaderTakes", spec := "headerTakes", unfollowed := true, recurses := true, apart := false, narrowed := true }
def HeaderTakesUptoSaid : Prop := headerTakesUptoRow.holds Try.pinned (OpenSpec.upto headerTakesSpec)

/-- 'sledgelaw18.HeaderBack', WHERE WHAT IT READS IS OF BULK AT MOST 1048576: true; the input reads as it did. -/
def headerBackUptoRow : OpenClaim := { program := "ythcmkmbnpibnfaa", sum := "a2b32c71f74833c62502c69d179d04b56845a6481d62d391975882a29e4aae33", func := "sledge/sledgelaw18.HeaderBack", spec := "headerBack", unfollowed := true, recurses := true, apart := false, narrowed := true }
def HeaderBackUptoSaid : Prop := headerBackUptoRow.holds Try.pinned (OpenSpec.upto headerBackSpec)

/-- 'sledgelaw04.ChachaTurns', WHERE WHAT IT READS IS OF BULK AT MOST 1048576: true; the input reads as it did. -/
def chachaTurnsUptoRow : OpenClaim := { program := "ythcmkmbnpibnfaa", sum := "a2b32c71f74833c62502c69d179d04b56845a6481d62d391975882a29e4aae33", func := "sledge/sledgelaw04.ChachaTurns", spec := "chachaTurns", apart := false, narrowed := true }
def ChachaTurnsUptoSaid : Prop := chachaTurnsUptoRow.holds Try.pinned (OpenSpec.upto chachaTurnsSpec)

/-- 'sledgelaw04.ChachaTwice', WHERE WHAT IT READS IS OF BULK AT MOST 1048576: true; the input reads as it did. -/
def chachaTwiceUptoRow : OpenClaim := { program := "ythcmkmbnpibnfaa", sum := "a2b32c71f74833c62502c69d179d04b56845a6481d62d391975882a29e4aae33", func := "sledge/sledgelaw04.ChachaTwice", spec := "chachaTwice", apart := false, narrowed := true }
def ChachaTwiceUptoSaid : Prop := chachaTwiceUptoRow.holds Try.pinned (OpenSpec.upto chachaTwiceSpec)

/-- 'sledgelaw04.ChachaSeeks', WHERE WHAT IT READS IS OF BULK AT MOST 1048576: true; the input reads as it did. -/
def chachaSeeksUptoRow : OpenClaim := { program := "ythcmkmbnpibnfaa", sum := "a2b32c71f74833c62502c69d179d04b56845a6481d62d391975882a29e4aae33", func := "sledge/sledgelaw04.ChachaSeeks", spec := "chachaSeeks", apart := false, narrowed := true }
def ChachaSeeksUptoSaid : Prop := chachaSeeksUptoRow.holds Try.pinned (OpenSpec.upto chachaSeeksSpec)

end Rows
end Go.Proofs.Ythcmkmbnpibnfaa
