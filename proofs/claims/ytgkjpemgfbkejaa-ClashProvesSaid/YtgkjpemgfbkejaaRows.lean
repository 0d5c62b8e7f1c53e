/-
  No cell of these rows narrows 'for every input' (looked for: loops, veiled, ifaces, maps, wideKeys, modest, calm, conditions, laid).
  DERIVED. THE GIVEN ROWS OF THIS SEAT. 9 by the template 'for every input the law returns true; each argument reads behind the call as it read before'; 0 by the template 'total and deterministic' (their statements: YtgkjpemgfbkejaaTotals.lean).
  GIVEN WITH THE SEED: the statements are not yours to turn. If you find one false, say at which input.
  Laid BY PROGRAM, IN A SANDBOX (cutbox-rows.mjs): the forced cells as the released guide's own fill.sh prints them over the translation aab15cbddbb06850… (all of the seat's roots in one cut). By AI agents, Wed Nov 11 2026. No macro, syntax, notation, axiom, sorry.
-/
import Derived.Test.YtgkjpemgfbkejaaChecked
import GoSem.Claim
import GoSem.ClaimJoined
import GoSem.ClaimMapViews
import Derived.JoinedTies
import Derived.KernelRfl
namespace Go.Proofs.Ytgkjpemgfbkejaa
/- THE CELL 'sum', in the pinned program and in every row, IS THE sha256 OF THE DUMP (.gsa) THAT YtgkjpemgfbkejaaProg.lean LOADS. Nothing in Lean hashes anything: it is a label: what it is worth is what the hold of that sum in a sandbox is worth. -/
noncomputable def Try.pinned : Pinned := { name := "ytgkjpemgfbkejaa", sum := "aab15cbddbb068501c7dae93a557ffa45e7274c22d7965c1f6b23200068aa34f", checked := Try.checked }
namespace Rows
def none {H : Type} : Left H := { results := [], args := [] }

/-- 'sledgelaw17.ClashValid': WHATEVER THE INPUT: true; the input reads as it did. -/
def clashValidSpec : ChangeSpec := { name := "clashValid", fn := fun _ => fun
  | [d1, d2, d3] => { results := [.lit (.bool true)], args := [d1, d2, d3] }
  | _ => none }
def clashValidRow : OpenClaim := { program := "ytgkjpemgfbkejaa", sum := "aab15cbddbb068501c7dae93a557ffa45e7274c22d7965c1f6b23200068aa34f", func := "sledge/sledgelaw17.ClashValid", spec := "clashValid", recurses := true, apart := false }
def ClashValidSaid : Prop := clashValidRow.holds Try.pinned (OpenSpec.ofChange clashValidSpec)

/-- ITS FALSE NEIGHBOUR: 'it returns false'. Refute it at one input. -/
def clashValidWrong : ChangeSpec := { name := "clashValid", fn := fun _ => fun
  | [d1, d2, d3] => { results := [.lit (.bool false)], args := [d1, d2, d3] }
  | _ => none }
def ClashValidWrongFalsely : Prop := clashValidRow.holds Try.pinned (OpenSpec.ofChange clashValidWrong)

/-- 'sledgelaw17.ClashLists': WHATEVER THE INPUT: true; the input reads as it did. -/
def clashListsSpec : ChangeSpec := { name := "clashLists", fn := fun _ => fun
  | [d1, d2, d3] => { results := [.lit (.bool true)], args := [d1, d2, d3] }
  | _ => none }
def clashListsRow : OpenClaim := { program := "ytgkjpemgfbkejaa", sum := "aab15cbddbb068501c7dae93a557ffa45e7274c22d7965c1f6b23200068aa34f", func := "sledge/sledgelaw17.ClashLists", spec := "clashLists", recurses := true, apart := false }
def ClashListsSaid : Prop := clashListsRow.holds Try.pinned (OpenSpec.ofChange clashListsSpec)

/-- ITS FALSE NEIGHBOUR: 'it returns false'. Refute it at one input. -/
def clashListsWrong : ChangeSpec := { name := "clashLists", fn := fun _ => fun
  | [d1, d2, d3] => { results := [.lit (.bool false)], args := [d1, d2, d3] }
  | _ => none }
def ClashListsWrongFalsely : Prop := clashListsRow.holds Try.pinned (OpenSpec.ofChange clashListsWrong)

/-- 'sledgelaw17.ClashFinds': WHATEVER THE INPUT: true; the input reads as it did. -/
def clashFindsSpec : ChangeSpec := { name := "clashFinds", fn := fun _ => fun
  | [d1, d2, d3] => { results := [.lit (.bool true)], args := [d1, d2, d3] }
  | _ => none }
def clashFindsRow : OpenClaim := { program := "ytgkjpemgfbkejaa", sum := "aab15cbddbb068501c7dae93a557ffa45e7274c22d7965c1f6b23200068aa34f", func := "sledge/sledgelaw17.ClashFinds", spec := "clashFinds", recurses := true, apart := false }
def ClashFindsSaid : Prop := clashFindsRow.holds Try.pinned (OpenSpec.ofChange clashFindsSpec)

/-- ITS FALSE NEIGHBOUR: 'it returns false'. Refute it at one input. -/
def clashFindsWrong : ChangeSpec := { name := "clashFinds", fn := fun _ => fun
  | [d1, d2, d3] => { results := [.lit (.bool false)], args := [d1, d2, d3] }
  | _ => none }
def ClashFindsWrongFalsely : Prop := clashFindsRow.holds Try.pinned (OpenSpec.ofChange clashFindsWrong)

/-- 'sledgelaw16.GrowRoots': WHATEVER THE INPUT: true; the input reads as it did. -/
def growRootsSpec : ChangeSpec := { name := "growRoots", fn := fun _ => fun
  | [d1, d2] => { results := [.lit (.bool true)], args := [d1, d2] }
  | _ => none }
def growRootsRow : OpenClaim := { program := "ytgkjpemgfbkejaa", sum := "aab15cbddbb068501c7dae93a557ffa45e7274c22d7965c1f6b23200068aa34f", func := "sledge/sledgelaw16.GrowRoots", spec := "growRoots", recurses := true, apart := false }
def GrowRootsSaid : Prop := growRootsRow.holds Try.pinned (OpenSpec.ofChange growRootsSpec)

/-- ITS FALSE NEIGHBOUR: 'it returns false'. Refute it at one input. -/
def growRootsWrong : ChangeSpec := { name := "growRoots", fn := fun _ => fun
  | [d1, d2] => { results := [.lit (.bool false)], args := [d1, d2] }
  | _ => none }
def GrowRootsWrongFalsely : Prop := growRootsRow.holds Try.pinned (OpenSpec.ofChange growRootsWrong)

/-- 'sledgelaw16.GrowWidths': WHATEVER THE INPUT: true; the input reads as it did. -/
def growWidthsSpec : ChangeSpec := { name := "growWidths", fn := fun _ => fun
  | [d1, d2, d3] => { results := [.lit (.bool true)], args := [d1, d2, d3] }
  | _ => none }
def growWidthsRow : OpenClaim := { program := "ytgkjpemgfbkejaa", sum := "aab15cbddbb068501c7dae93a557ffa45e7274c22d7965c1f6b23200068aa34f", func := "sledge/sledgelaw16.GrowWidths", spec := "growWidths", recurses := true, apart := false }
def GrowWidthsSaid : Prop := growWidthsRow.holds Try.pinned (OpenSpec.ofChange growWidthsSpec)

/-- ITS FALSE NEIGHBOUR: 'it returns false'. Refute it at one input. -/
def growWidthsWrong : ChangeSpec := { name := "growWidths", fn := fun _ => fun
  | [d1, d2, d3] => { results := [.lit (.bool false)], args := [d1, d2, d3] }
  | _ => none }
def GrowWidthsWrongFalsely : Prop := growWidthsRow.holds Try.pinned (OpenSpec.ofChange growWidthsWrong)

/-- 'sledgelaw17.ClashClaims': WHATEVER THE INPUT: true; the input reads as it did. -/
def clashClaimsSpec : ChangeSpec := { name := "clashClaims", fn := fun _ => fun
  | [d1, d2, d3, d4, d5, d6, d7] => { results := [.lit (.bool true)], args := [d1, d2, d3, d4, d5, d6, d7] }
  | _ => none }
def clashClaimsRow : OpenClaim := { program := "ytgkjpemgfbkejaa", sum := "aab15cbddbb068501c7dae93a557ffa45e7274c22d7965c1f6b23200068aa34f", func := "sledge/sledgelaw17.ClashClaims", spec := "clashClaims", recurses := true, apart := false }
def ClashClaimsSaid : Prop := clashClaimsRow.holds Try.pinned (OpenSpec.ofChange clashClaimsSpec)

/-- ITS FALSE NEIGHBOUR: 'it returns false'. Refute it at one input. -/
def clashClaimsWrong : ChangeSpec := { name := "clashClaims", fn := fun _ => fun
  | [d1, d2, d3, d4, d5, d6, d7] => { results := [.lit (.bool false)], args := [d1, d2, d3, d4, d5, d6, d7] }
  | _ => none }
def ClashClaimsWrongFalsely : Prop := clashClaimsRow.holds Try.pinned (OpenSpec.ofChange clashClaimsWrong)

/-- 'sledgelaw17.ClashProves': WHATEVER THE INPUT: true; the input reads as it did. -/
def clashProvesSpec : ChangeSpec := { name := "clashProves", fn := fun _ => fun
  | [d1, d2, d3, d4, d5] => { results := [.lit (.bool true)], args := [d1, d2, d3, d4, d5] }
  | _ => none }
def clashProvesRow : OpenClaim := { program := "ytgkjpemgfbkejaa", sum := "aab15cbddbb068501c7dae93a557ffa45e7274c22d7965c1f6b23200068aa34f", func := "sledge/sledgelaw17.ClashProves", spec := "clashProves", recurses := true, apart := false }
def ClashProvesSaid : Prop := clashProvesRow.holds Try.pinned (OpenSpec.ofChange clashProvesSpec)

/-- ITS FALSE NEIGHBOUR: 'it returns false'. Refute it at one input. -/
def clashProvesWrong : ChangeSpec := { name := "clashProves", fn := fun _ => fun
  | [d1, d2, d3, d4, d5] => { results := [.lit (.bool false)], args := [d1, d2, d3, d4, d5] }
  | _ => none }
def ClashProvesWrongFalsely : Prop := clashProvesRow.holds Try.pinned (OpenSpec.ofChange clashProvesWrong)

/-- 'sledgelaw16.GrowGoes': WHATEVER THE INPUT: true; the input reads as it did. -/
def growGoesSpec : ChangeSpec := { name := "growGoes", fn := fun _ => fun
  | [d1, d2, d3] => { results := [.lit (.bool true)], args := [d1, d2, d3] }
  | _ => none }
def growGoesRow : OpenClaim := { program := "ytgkjpemgfbkejaa", sum := "aab15cbddbb068501c7dae93a557ffa45e7274c22d7965c1f6b23200068aa34f", func := "sledge/sledgelaw16.GrowGoes", spec := "growGoes", recurses := true, apart := false }
def GrowGoesSaid : Prop := growGoesRow.holds Try.pinned (OpenSpec.ofChange growGoesSpec)

/-- ITS FALSE NEIGHBOUR: 'it returns false'. Refute it at one input. -/
def growGoesWrong : ChangeSpec := { name := "growGoes", fn := fun _ => fun
  | [d1, d2, d3] => { results := [.lit (.bool false)], args := [d1, d2, d3] }
  | _ => none }
def GrowGoesWrongFalsely : Prop := growGoesRow.holds Try.pinned (OpenSpec.ofChange growGoesWrong)

/-- 'sledgelaw16.GrowFroms': WHATEVER THE INPUT: true; the input reads as it did. -/
def growFromsSpec : ChangeSpec := { name := "growFroms", fn := fun _ => fun
  | [d1, d2, d3] => { results := [.lit (.bool true)], args := [d1, d2, d3] }
  | _ => none }
def growFromsRow : OpenClaim := { program := "ytgkjpemgfbkejaa", sum := "aab15cbddbb068501c7dae93a557ffa45e7274c22d7965c1f6b23200068aa34f", func := "sledge/sledgelaw16.GrowFroms", spec := "growFroms", recurses := true, apart := false }
def GrowFromsSaid : Prop := growFromsRow.holds Try.pinned (OpenSpec.ofChange growFromsSpec)

/-- ITS FALSE NEIGHBOUR: 'it returns false'. Refute it at one input. -/
def growFromsWrong : ChangeSpec := { name := "growFroms", fn := fun _ => fun
  | [d1, d2, d3] => { results := [.lit (.bool false)], args := [d1, d2, d3] }
  | _ => none }
def GrowFromsWrongFalsely : Prop := growFromsRow.holds Try.pinned (OpenSpec.ofChange growFromsWrong)

/- THE SECOND FORM. 'bulk': how many values and letters a reading holds, each counted each time it is reached (what is shared counts as often as it is met; a slice's spare places count too). A statement '..UptoSaid' is the law's where the arguments, and the package variables that the reading takes, are together of bulk at most 1048576: NARROWER than '..Said'. Prove '..Said' where nothing that the law and all that it calls make is longer than what came in: it says more and counts as full. Else prove '..UptoSaid'. A law counts once. -/
mutual
def uptoBulk {H : Type} : DataW H → Nat
  | .lit (.string bytes) => bytes.length + 1
  | .lit _ => 1
  | .nil => 1
  | .ptr d => uptoBulk d + 1
  | .slice elems spare => uptoBulkAll elems + uptoBulkAll spare + 1
  | .agg parts => uptoBulkAll parts + 1
  | .iface _ d => uptoBulk d + 1
  | .map entries => uptoBulkEntries entries + 1
  | .held _ => 1
def uptoBulkAll {H : Type} : List (DataW H) → Nat
  | [] => 0
  | d :: r => uptoBulk d + uptoBulkAll r
def uptoBulkEntries {H : Type} : List (Lit × DataW H) → Nat
  | [] => 0
  | x :: r => uptoBulkEntry x + uptoBulkEntries r
def uptoBulkEntry {H : Type} : Lit × DataW H → Nat
  | (.string bytes, d) => bytes.length + uptoBulk d + 1
  | (_, d) => uptoBulk d + 1
 end
def uptoSmall : (H : Type) → List (DataW H) → Bool := fun _ ds => decide (uptoBulkAll ds ≤ 1048576)
def OpenSpec.upto (s : _root_.Go.ChangeSpec) : _root_.Go.OpenSpec := { _root_.Go.OpenSpec.ofChange s with cond := some uptoSmall }

/-- 'sledgelaw17.ClashValid', WHERE WHAT IT READS IS OF BULK AT MOST 1048576: true; the input reads as it did. -/
def clashValidUptoRow : OpenClaim := { program := "ytgkjpemgfbkejaa", sum := "aab15cbddbb068501c7dae93a557ffa45e7274c22d7965c1f6b23200068aa34f", func := "sledge/sledgelaw17.ClashValid", spec := "clashValid", recurses := true, apart := false, narrowed := true }
def ClashValidUptoSaid : Prop := clashValidUptoRow.holds Try.pinned (OpenSpec.upto clashValidSpec)

/-- 'sledgelaw17.ClashLists', WHERE WHAT IT READS IS OF BULK AT MOST 1048576: true; the input reads as it did. -/
def clashListsUptoRow : OpenClaim := { program := "ytgkjpemgfbkejaa", sum := "aab15cbddbb068501c7dae93a557ffa45e7274c22d7965c1f6b23200068aa34f", func := "sledge/sledgelaw17.ClashLists", spec := "clashLists", recurses := true, apart := false, narrowed := true }
def ClashListsUptoSaid : Prop := clashListsUptoRow.holds Try.pinned (OpenSpec.upto clashListsSpec)

/-- 'sledgelaw17.ClashFinds', WHERE WHAT IT READS IS OF BULK AT MOST 1048576: true; the input reads as it did. -/
def clashFindsUptoRow : OpenClaim := { program := "ytgkjpemgfbkejaa", sum := "aab15cbddbb068501c7dae93a557ffa45e7274c22d7965c1f6b23200068aa34f", func := "sledge/sledgelaw17.ClashFinds", spec := "clashFinds", recurses := true, apart := false, narrowed := true }
def ClashFindsUptoSaid : Prop := clashFindsUptoRow.holds Try.pinned (OpenSpec.upto clashFindsSpec)

/-- 'sledgelaw16.GrowRoots', WHERE WHAT IT READS IS OF BULK AT MOST 1048576: true; the input reads as it did. -/
def growRootsUptoRow : OpenClaim := { program := "ytgkjpemgfbkejaa", sum := "aab15cbddbb068501c7dae93a557ffa45e7274c22d7965c1f6b23200068aa34f", func := "sledge/sledgelaw16.GrowRoots", spec := "growRoots", recurses := true, apart := false, narrowed := true }
def GrowRootsUptoSaid : Prop := growRootsUptoRow.holds Try.pinned (OpenSpec.upto growRootsSpec)

/-- 'sledgelaw16.GrowWidths', WHERE WHAT IT READS IS OF BULK AT MOST 1048576: true; the input reads as it did. -/
def growWidthsUptoRow : OpenClaim := { program := "ytgkjpemgfbkejaa", sum := "aab15cbddbb068501c7dae93a557ffa45e7274c22d7965c1f6b23200068aa34f", func := "sledge/sledgelaw16.GrowWidths", spec := "growWidths", recurses := true, apart := false, narrowed := true }
def GrowWidthsUptoSaid : Prop := growWidthsUptoRow.holds Try.pinned (OpenSpec.upto growWidthsSpec)

/-- 'sledgelaw17.ClashClaims', WHERE WHAT IT READS IS OF BULK AT MOST 1048576: true; the input reads as it did. -/
def clashClaimsUptoRow : OpenClaim := { program := "ytgkjpemgfbkejaa", sum := "aab15cbddbb068501c7dae93a557ffa45e7274c22d7965c1f6b23200068aa34f", func := "sledge/sledgelaw17.ClashClaims", spec := "clashClaims", recurses := true, apart := false, narrowed := true }
def ClashClaimsUptoSaid : Prop := clashClaimsUptoRow.holds Try.pinned (OpenSpec.upto clashClaimsSpec)

/-- 'sledgelaw17.ClashProves', WHERE WHAT IT READS IS OF BULK AT MOST 1048576: true; the input reads as it did. -/
def clashProvesUptoRow : OpenClaim := { program := "ytgkjpemgfbkejaa", sum := "aab15cbddbb068501c7dae93a557ffa45e7274c22d7965c1f6b23200068aa34f", func := "sledge/sledgelaw17.ClashProves", spec := "clashProves", recurses := true, apart := false, narrowed := true }
def ClashProvesUptoSaid : Prop := clashProvesUptoRow.holds Try.pinned (OpenSpec.upto clashProvesSpec)

/-- 'sledgelaw16.GrowGoes', WHERE WHAT IT READS IS OF BULK AT MOST 1048576: true; the input reads as it did. -/
def growGoesUptoRow : OpenClaim := { program := "ytgkjpemgfbkejaa", sum := "aab15cbddbb068501c7dae93a557ffa45e7274c22d7965c1f6b23200068aa34f", func := "sledge/sledgelaw16.GrowGoes", spec := "growGoes", recurses := true, apart := false, narrowed := true }
def GrowGoesUptoSaid : Prop := growGoesUptoRow.holds Try.pinned (OpenSpec.upto growGoesSpec)

/-- 'sledgelaw16.GrowFroms', WHERE WHAT IT READS IS OF BULK AT MOST 1048576: true; the input reads as it did. -/
def growFromsUptoRow : OpenClaim := { program := "ytgkjpemgfbkejaa", sum := "aab15cbddbb068501c7dae93a557ffa45e7274c22d7965c1f6b23200068aa34f", func := "sledge/sledgelaw16.GrowFroms", spec := "growFroms", recurses := true, apart := false, narrowed := true }
def GrowFromsUptoSaid : Prop := growFromsUptoRow.holds Try.pinned (OpenSpec.upto growFromsSpec)

end Rows
end Go.Proofs.Ytgkjpemgfbkejaa
