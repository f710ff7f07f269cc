/-
  No cell of these rows narrows 'for every input' (looked for: loops, veiled, ifaces, maps, wideKeys, modest, calm, conditions, laid).
  DERIVED. THE GIVEN ROWS OF THIS SEAT. 4 by the template 'for every input the law returns true; each argument reads behind the call as it read before'; 0 by the template 'total and deterministic' (their statements: YtlfckpmdmkccjaaTotals.lean).
  GIVEN WITH THE SEED: the statements are not yours to turn. If you find one false, say at which input.
  Laid BY PROGRAM, IN A SANDBOX (cutbox-rows.mjs): the forced cells as the released guide's own fill.sh prints them over the translation 7489564ebf606529… (all of the seat's roots in one cut). By AI agents, Wed Nov 11 2026. No macro, syntax, notation, axiom, sorry.
-/
import Derived.Test.YtlfckpmdmkccjaaChecked
import GoSem.Claim
import GoSem.ClaimJoined
import GoSem.ClaimMapViews
import Derived.JoinedTies
import Derived.KernelRfl
namespace Go.Proofs.Ytlfckpmdmkccjaa
/- THE CELL 'sum', in the pinned program and in every row, IS THE sha256 OF THE DUMP (.gsa) THAT YtlfckpmdmkccjaaProg.lean LOADS. Nothing in Lean hashes anything: it is a label: what it is worth is what the hold of that sum in a sandbox is worth. -/
noncomputable def Try.pinned : Pinned := { name := "ytlfckpmdmkccjaa", sum := "7489564ebf6065296193ecae69e5661e5e3078b4b240495f69775567195c5279", checked := Try.checked }
namespace Rows
def none {H : Type} : Left H := { results := [], args := [] }

/-- 'sapperlaw09.BlockNames': WHATEVER THE INPUT: true; the input reads as it did. -/
def blockNamesSpec : ChangeSpec := { name := "blockNames", fn := fun _ => fun
  | [] => { results := [.lit (.bool true)], args := [] }
  | _ => none }
def blockNamesRow : OpenClaim := { program := "ytlfckpmdmkccjaa", sum := "7489564ebf6065296193ecae69e5661e5e3078b4b240495f69775567195c5279", func := "sapper/sapperlaw09.BlockNames", spec := "blockNames", unfollowed := true, recurses := true, apart := false }
def BlockNamesSaid : Prop := blockNamesRow.holds Try.pinned (OpenSpec.ofChange blockNamesSpec)

/-- ITS FALSE NEIGHBOUR: 'it returns false'. Refute it at one input. -/
def blockNamesWrong : ChangeSpec := { name := "blockNames", fn := fun _ => fun
  | [] => { results := [.lit (.bool false)], args := [] }
  | _ => none }
def BlockNamesWrongFalsely : Prop := blockNamesRow.holds Try.pinned (OpenSpec.ofChange blockNamesWrong)

/-- 'sapperlaw09.BlockLens': WHATEVER THE INPUT: true; the input reads as it did. -/
def blockLensSpec : ChangeSpec := { name := "blockLens", fn := fun _ => fun
  | [d] => { results := [.lit (.bool true)], args := [d] }
  | _ => none }
def blockLensRow : OpenClaim := { program := "ytlfckpmdmkccjaa", sum := "7489564ebf6065296193ecae69e5661e5e3078b4b240495f69775567195c5279", func := "sapper/sapperlaw09.BlockLens", spec := "blockLens", unfollowed := true, recurses := true, apart := false }
def BlockLensSaid : Prop := blockLensRow.holds Try.pinned (OpenSpec.ofChange blockLensSpec)

/-- ITS FALSE NEIGHBOUR: 'it returns false'. Refute it at one input. -/
def blockLensWrong : ChangeSpec := { name := "blockLens", fn := fun _ => fun
  | [d] => { results := [.lit (.bool false)], args := [d] }
  | _ => none }
def BlockLensWrongFalsely : Prop := blockLensRow.holds Try.pinned (OpenSpec.ofChange blockLensWrong)

/-- 'sapperlaw09.BlockSymbols': WHATEVER THE INPUT: true; the input reads as it did. -/
def blockSymbolsSpec : ChangeSpec := { name := "blockSymbols", fn := fun _ => fun
  | [d1, d2] => { results := [.lit (.bool true)], args := [d1, d2] }
  | _ => none }
def blockSymbolsRow : OpenClaim := { program := "ytlfckpmdmkccjaa", sum := "7489564ebf6065296193ecae69e5661e5e3078b4b240495f69775567195c5279", func := "sapper/sapperlaw09.BlockSymbols", spec := "blockSymbols", unfollowed := true, recurses := true, apart := false }
def BlockSymbolsSaid : Prop := blockSymbolsRow.holds Try.pinned (OpenSpec.ofChange blockSymbolsSpec)

/-- ITS FALSE NEIGHBOUR: 'it returns false'. Refute it at one input. -/
def blockSymbolsWrong : ChangeSpec := { name := "blockSymbols", fn := fun _ => fun
  | [d1, d2] => { results := [.lit (.bool false)], args := [d1, d2] }
  | _ => none }
def BlockSymbolsWrongFalsely : Prop := blockSymbolsRow.holds Try.pinned (OpenSpec.ofChange blockSymbolsWrong)

/-- 'sapperlaw09.BlockSplits': WHATEVER THE INPUT: true; the input reads as it did. -/
def blockSplitsSpec : ChangeSpec := { name := "blockSplits", fn := fun _ => fun
  | [d1, d2] => { results := [.lit (.bool true)], args := [d1, d2] }
  | _ => none }
def blockSplitsRow : OpenClaim := { program := "ytlfckpmdmkccjaa", sum := "7489564ebf6065296193ecae69e5661e5e3078b4b240495f69775567195c5279", func := "sapper/sapperlaw09.BlockSplits", spec := "blockSplits", unfollowed := true, recurses := true, apart := false }
def BlockSplitsSaid : Prop := blockSplitsRow.holds Try.pinned (OpenSpec.ofChange blockSplitsSpec)

/-- ITS FALSE NEIGHBOUR: 'it returns false'. Refute it at one input. -/
def blockSplitsWrong : ChangeSpec := { name := "blockSplits", fn := fun _ => fun
  | [d1, d2] => { results := [.lit (.bool false)], args := [d1, d2] }
  | _ => none }
def BlockSplitsWrongFalsely : Prop := blockSplitsRow.holds Try.pinned (OpenSpec.ofChange blockSplitsWrong)

/- THE SECOND FORM. 'bulk': how many values and letters a reading holds, each counted each time it is reached (what is shared counts as often as it is met; a slice's spare places count too). A statement '..UptoSaid' is the law's where the arguments, and the package variables that the reading takes, are together of bulk at most 1048576: NARROWER than '..Said'. Prove '..Said' where nothing that the law and all that it calls make is longer than what came in: it says more and counts as full. Else prove '..UptoSaid'. A law counts once. -/
mutual
def uptoBulk {H : Type} : DataW H → Nat
  | .lit (.string bytes) => bytes.length + 1
  | .lit _ => 1
  | .nil => 1
  | .ptr d => uptoBulk d + 1
  | .slice elems spare => uptoBulkAll elems + uptoBulkAll spare + 1
  | .agg parts => uptoBulkAll parts + 1
  | .iface _ d => uptoBulk d + 1
  | .map entries => uptoBulkEntries entries + 1
  | .held _ => 1
def uptoBulkAll {H : Type} : List (DataW H) → Nat
  | [] => 0
  | d :: r => uptoBulk d + uptoBulkAll r
def uptoBulkEntries {H : Type} : List (Lit × DataW H) → Nat
  | [] => 0
  | x :: r => uptoBulkEntry x + uptoBulkEntries r
def uptoBulkEntry {H : Type} : Lit × DataW H → Nat
  | (.string bytes, d) => bytes.length + uptoBulk d + 1
  | (_, d) => uptoBulk d + 1
 end
def uptoSmall : (H : Type) → List (DataW H) → Bool := fun _ ds => decide (uptoBulkAll ds ≤ 1048576)
def OpenSpec.upto (s : _root_.Go.ChangeSpec) : _root_.Go.OpenSpec := { _root_.Go.OpenSpec.ofChange s with cond := some uptoSmall }

/-- 'sapperlaw09.BlockNames', WHERE WHAT IT READS IS OF BULK AT MOST 1048576: true; the input reads as it did. -/
def blockNamesUptoRow : OpenClaim := { program := "ytlfckpmdmkccjaa", sum := "7489564ebf6065296193ecae69e5661e5e3078b4b240495f69775567195c5279", func := "sapper/sapperlaw09.BlockNames", spec := "blockNames", unfollowed := true, recurses := true, apart := false, narrowed := true }
def BlockNamesUptoSaid : Prop := blockNamesUptoRow.holds Try.pinned (OpenSpec.upto blockNamesSpec)

/-- 'sapperlaw09.BlockLens', WHERE WHAT IT READS IS OF BULK AT MOST 1048576: true; the input reads as it did. -/
def blockLensUptoRow : OpenClaim := { program := "ytlfckpmdmkccjaa", sum := "7489564ebf6065296193ecae69e5661e5e3078b4b240495f69775567195c5279", func := "sapper/sapperlaw09.BlockLens", spec := "blockLens", unfollowed := true, recurses := true, apart := false, narrowed := true }
def BlockLensUptoSaid : Prop := blockLensUptoRow.holds Try.pinned (OpenSpec.upto blockLensSpec)

/-- 'sapperlaw09.BlockSymbols', WHERE WHAT IT READS IS OF BULK AT MOST 1048576: true; the input reads as it did. -/
def blockSymbolsUptoRow : OpenClaim := { program := "ytlfckpmdmkccjaa", sum := "7489564ebf6065296193ecae69e5661e5e3078b4b240495f69775567195c5279", func := "sapper/sapperlaw09.BlockSymbols", spec := "blockSymbols", unfollowed := true, recurses := true, apart := false, narrowed := true }
def BlockSymbolsUptoSaid : Prop := blockSymbolsUptoRow.holds Try.pinned (OpenSpec.upto blockSymbolsSpec)

/-- 'sapperlaw09.BlockSplits', WHERE WHAT IT READS IS OF BULK AT MOST 1048576: true; the input reads as it did. -/
def blockSplitsUptoRow : OpenClaim := { program := "ytlfckpmdmkccjaa", sum := "7489564ebf6065296193ecae69e5661e5e3078b4b240495f69775567195c5279", func := "sapper/sapperlaw09.BlockSplits", spec := "blockSplits", unfollowed := true, recurses := true, apart := false, narrowed := true }
def BlockSplitsUptoSaid : Prop := blockSplitsUptoRow.holds Try.pinned (OpenSpec.upto blockSplitsSpec)

end Rows
end Go.Proofs.Ytlfckpmdmkccjaa
