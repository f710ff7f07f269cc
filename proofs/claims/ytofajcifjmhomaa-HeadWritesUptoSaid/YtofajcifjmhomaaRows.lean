/-
  No cell of these rows narrows 'for every input' (looked for: loops, veiled, ifaces, maps, wideKeys, modest, calm, conditions, laid).
  DERIVED. THE GIVEN ROWS OF THIS SEAT. 9 by the template 'for every input the law returns true; each argument reads behind the call as it read before'; 0 by the template 'total and deterministic' (their statements: YtofajcifjmhomaaTotals.lean).
  GIVEN WITH THE SEED: the statements are not yours to turn. If you find one false, say at which input.
  Laid BY PROGRAM, IN A SANDBOX (cutbox-rows.mjs): the forced cells as the released guide's own fill.sh prints them over the translation bec104101c067a38… (all of the seat's roots in one cut). By AI agents, Wed Nov 11 2026. No macro, syntax, notation, axiom, sorry.
-/
import Derived.Test.YtofajcifjmhomaaChecked
import GoSem.Claim
import GoSem.ClaimJoined
import GoSem.ClaimMapViews
import Derived.JoinedTies
import Derived.KernelRfl
namespace Go.Proofs.Ytofajcifjmhomaa
/- THE CELL 'sum', in the pinned program and in every row, IS THE sha256 OF THE DUMP (.gsa) THAT YtofajcifjmhomaaProg.lean LOADS. Nothing in Lean hashes anything: it is a label: what it is worth is what the hold of that sum in a sandbox is worth. -/
noncomputable def Try.pinned : Pinned := { name := "ytofajcifjmhomaa", sum := "bec104101c067a3812703b2923b23661ffd172bbe19520077c541ab84f6c63df", checked := Try.checked }
namespace Rows
def none {H : Type} : Left H := { results := [], args := [] }

/-- 'sapperlaw08.HeadRuns': WHATEVER THE INPUT: true; the input reads as it did. -/
def headRunsSpec : ChangeSpec := { name := "headRuns", fn := fun _ => fun
  | [d] => { results := [.lit (.bool true)], args := [d] }
  | _ => none }
def headRunsRow : OpenClaim := { program := "ytofajcifjmhomaa", sum := "bec104101c067a3812703b2923b23661ffd172bbe19520077c541ab84f6c63df", func := "sapper/sapperlaw08.HeadRuns", spec := "headRuns", apart := false }
def HeadRunsSaid : Prop := headRunsRow.holds Try.pinned (OpenSpec.ofChange headRunsSpec)

/-- ITS FALSE NEIGHBOUR: 'it returns false'. Refute it at one input. -/
def headRunsWrong : ChangeSpec := { name := "headRuns", fn := fun _ => fun
  | [d] => { results := [.lit (.bool false)], args := [d] }
  | _ => none }
def HeadRunsWrongFalsely : Prop := headRunsRow.holds Try.pinned (OpenSpec.ofChange headRunsWrong)

/-- 'sapperlaw08.HeadLens': WHATEVER THE INPUT: true; the input reads as it did. -/
def headLensSpec : ChangeSpec := { name := "headLens", fn := fun _ => fun
  | [d] => { results := [.lit (.bool true)], args := [d] }
  | _ => none }
def headLensRow : OpenClaim := { program := "ytofajcifjmhomaa", sum := "bec104101c067a3812703b2923b23661ffd172bbe19520077c541ab84f6c63df", func := "sapper/sapperlaw08.HeadLens", spec := "headLens", apart := false }
def HeadLensSaid : Prop := headLensRow.holds Try.pinned (OpenSpec.ofChange headLensSpec)

/-- ITS FALSE NEIGHBOUR: 'it returns false'. Refute it at one input. -/
def headLensWrong : ChangeSpec := { name := "headLens", fn := fun _ => fun
  | [d] => { results := [.lit (.bool false)], args := [d] }
  | _ => none }
def HeadLensWrongFalsely : Prop := headLensRow.holds Try.pinned (OpenSpec.ofChange headLensWrong)

/-- 'sapperlaw08.HeadBack': WHATEVER THE INPUT: true; the input reads as it did. -/
def headBackSpec : ChangeSpec := { name := "headBack", fn := fun _ => fun
  | [d] => { results := [.lit (.bool true)], args := [d] }
  | _ => none }
def headBackRow : OpenClaim := { program := "ytofajcifjmhomaa", sum := "bec104101c067a3812703b2923b23661ffd172bbe19520077c541ab84f6c63df", func := "sapper/sapperlaw08.HeadBack", spec := "headBack", apart := false }
def HeadBackSaid : Prop := headBackRow.holds Try.pinned (OpenSpec.ofChange headBackSpec)

/-- ITS FALSE NEIGHBOUR: 'it returns false'. Refute it at one input. -/
def headBackWrong : ChangeSpec := { name := "headBack", fn := fun _ => fun
  | [d] => { results := [.lit (.bool false)], args := [d] }
  | _ => none }
def HeadBackWrongFalsely : Prop := headBackRow.holds Try.pinned (OpenSpec.ofChange headBackWrong)

/-- 'sapperlaw08.HeadNone': WHATEVER THE INPUT: true; the input reads as it did. -/
def headNoneSpec : ChangeSpec := { name := "headNone", fn := fun _ => fun
  | [d] => { results := [.lit (.bool true)], args := [d] }
  | _ => none }
def headNoneRow : OpenClaim := { program := "ytofajcifjmhomaa", sum := "bec104101c067a3812703b2923b23661ffd172bbe19520077c541ab84f6c63df", func := "sapper/sapperlaw08.HeadNone", spec := "headNone", unfollowed := true, recurses := true, apart := false }
def HeadNoneSaid : Prop := headNoneRow.holds Try.pinned (OpenSpec.ofChange headNoneSpec)

/-- ITS FALSE NEIGHBOUR: 'it returns false'. Refute it at one input. -/
def headNoneWrong : ChangeSpec := { name := "headNone", fn := fun _ => fun
  | [d] => { results := [.lit (.bool false)], args := [d] }
  | _ => none }
def HeadNoneWrongFalsely : Prop := headNoneRow.holds Try.pinned (OpenSpec.ofChange headNoneWrong)

/-- 'sapperlaw08.HeadReads': WHATEVER THE INPUT: true; the input reads as it did. -/
def headReadsSpec : ChangeSpec := { name := "headReads", fn := fun _ => fun
  | [d] => { results := [.lit (.bool true)], args := [d] }
  | _ => none }
def headReadsRow : OpenClaim := { program := "ytofajcifjmhomaa", sum := "bec104101c067a3812703b2923b23661ffd172bbe19520077c541ab84f6c63df", func := "sapper/sapperlaw08.HeadReads", spec := "headReads", unfollowed := true, recurses := true, apart := false }
def HeadReadsSaid : Prop := headReadsRow.holds Try.pinned (OpenSpec.ofChange headReadsSpec)

/-- ITS FALSE NEIGHBOUR: 'it returns false'. Refute it at one input. -/
def headReadsWrong : ChangeSpec := { name := "headReads", fn := fun _ => fun
  | [d] => { results := [.lit (.bool false)], args := [d] }
  | _ => none }
def HeadReadsWrongFalsely : Prop := headReadsRow.holds Try.pinned (OpenSpec.ofChange headReadsWrong)

/-- 'sapperlaw08.HeadNames': WHATEVER THE INPUT: true; the input reads as it did. -/
def headNamesSpec : ChangeSpec := { name := "headNames", fn := fun _ => fun
  | [] => { results := [.lit (.bool true)], args := [] }
  | _ => none }
def headNamesRow : OpenClaim := { program := "ytofajcifjmhomaa", sum := "bec104101c067a3812703b2923b23661ffd172bbe19520077c541ab84f6c63df", func := "sapper/sapperlaw08.HeadNames", spec := "headNames", unfollowed := true, recurses := true, apart := false }
def HeadNamesSaid : Prop := headNamesRow.holds Try.pinned (OpenSpec.ofChange headNamesSpec)

/-- ITS FALSE NEIGHBOUR: 'it returns false'. Refute it at one input. -/
def headNamesWrong : ChangeSpec := { name := "headNames", fn := fun _ => fun
  | [] => { results := [.lit (.bool false)], args := [] }
  | _ => none }
def HeadNamesWrongFalsely : Prop := headNamesRow.holds Try.pinned (OpenSpec.ofChange headNamesWrong)

/-- 'sapperlaw08.HeadWrites': WHATEVER THE INPUT: true; the input reads as it did. -/
def headWritesSpec : ChangeSpec := { name := "headWrites", fn := fun _ => fun
  | [d] => { results := [.lit (.bool true)], args := [d] }
  | _ => none }
def headWritesRow : OpenClaim := { program := "ytofajcifjmhomaa", sum := "bec104101c067a3812703b2923b23661ffd172bbe19520077c541ab84f6c63df", func := "sapper/sapperlaw08.HeadWrites", spec := "headWrites", unfollowed := true, recurses := true, apart := false }
def HeadWritesSaid : Prop := headWritesRow.holds Try.pinned (OpenSpec.ofChange headWritesSpec)

/-- ITS FALSE NEIGHBOUR: 'it returns false'. Refute it at one input. -/
def headWritesWrong : ChangeSpec := { name := "headWrites", fn := fun _ => fun
  | [d] => { results := [.lit (.bool false)], args := [d] }
  | _ => none }
def HeadWritesWrongFalsely : Prop := headWritesRow.holds Try.pinned (OpenSpec.ofChange headWritesWrong)

/-- 'sapperlaw08.HeadTold': WHATEVER THE INPUT: true; the input reads as it did. -/
def headToldSpec : ChangeSpec := { name := "headTold", fn := fun _ => fun
  | [d] => { results := [.lit (.bool true)], args := [d] }
  | _ => none }
def headToldRow : OpenClaim := { program := "ytofajcifjmhomaa", sum := "bec104101c067a3812703b2923b23661ffd172bbe19520077c541ab84f6c63df", func := "sapper/sapperlaw08.HeadTold", spec := "headTold", unfollowed := true, recurses := true, apart := false }
def HeadToldSaid : Prop := headToldRow.holds Try.pinned (OpenSpec.ofChange headToldSpec)

/-- ITS FALSE NEIGHBOUR: 'it returns false'. Refute it at one input. -/
def headToldWrong : ChangeSpec := { name := "headTold", fn := fun _ => fun
  | [d] => { results := [.lit (.bool false)], args := [d] }
  | _ => none }
def HeadToldWrongFalsely : Prop := headToldRow.holds Try.pinned (OpenSpec.ofChange headToldWrong)

/-- 'sapperlaw08.HeadThrough': WHATEVER THE INPUT: true; the input reads as it did. -/
def headThroughSpec : ChangeSpec := { name := "headThrough", fn := fun _ => fun
  | [d1, d2] => { results := [.lit (.bool true)], args := [d1, d2] }
  | _ => none }
def headThroughRow : OpenClaim := { program := "ytofajcifjmhomaa", sum := "bec104101c067a3812703b2923b23661ffd172bbe19520077c541ab84f6c63df", func := "sapper/sapperlaw08.HeadThrough", spec := "headThrough", unfollowed := true, recurses := true, apart := false }
def HeadThroughSaid : Prop := headThroughRow.holds Try.pinned (OpenSpec.ofChange headThroughSpec)

/-- ITS FALSE NEIGHBOUR: 'it returns false'. Refute it at one input. -/
def headThroughWrong : ChangeSpec := { name := "headThrough", fn := fun _ => fun
  | [d1, d2] => { results := [.lit (.bool false)], args := [d1, d2] }
  | _ => none }
def HeadThroughWrongFalsely : Prop := headThroughRow.holds Try.pinned (OpenSpec.ofChange headThroughWrong)

/- THE SECOND FORM. 'bulk': how many values and letters a reading holds, each counted each time it is reached (what is shared counts as often as it is met; a slice's spare places count too). A statement '..UptoSaid' is the law's where the arguments, and the package variables that the reading takes, are together of bulk at most 1048576: NARROWER than '..Said'. Prove '..Said' where nothing that the law and all that it calls make is longer than what came in: it says more and counts as full. Else prove '..UptoSaid'. A law counts once. -/
mutual
def uptoBulk {H : Type} : DataW H → Nat
  | .lit (.string bytes) => bytes.length + 1
  | .lit _ => 1
  | .nil => 1
  | .ptr d => uptoBulk d + 1
  | .slice elems spare => uptoBulkAll elems + uptoBulkAll spare + 1
  | .agg parts => uptoBulkAll parts + 1
  | .iface _ d => uptoBulk d + 1
  | .map entries => uptoBulkEntries entries + 1
  | .held _ => 1
def uptoBulkAll {H : Type} : List (DataW H) → Nat
  | [] => 0
  | d :: r => uptoBulk d + uptoBulkAll r
def uptoBulkEntries {H : Type} : List (Lit × DataW H) → Nat
  | [] => 0
  | x :: r => uptoBulkEntry x + uptoBulkEntries r
def uptoBulkEntry {H : Type} : Lit × DataW H → Nat
  | (.string bytes, d) => bytes.length + uptoBulk d + 1
  | (_, d) => uptoBulk d + 1
 end
def uptoSmall : (H : Type) → List (DataW H) → Bool := fun _ ds => decide (uptoBulkAll ds ≤ 1048576)
def OpenSpec.upto (s : _root_.Go.ChangeSpec) : _root_.Go.OpenSpec := { _root_.Go.OpenSpec.ofChange s with cond := some uptoSmall }

/-- 'sapperlaw08.HeadRuns', WHERE WHAT IT READS IS OF BULK AT MOST 1048576: true; the input reads as it did. -/
def headRunsUptoRow : OpenClaim := { program := "ytofajcifjmhomaa", sum := "bec104101c067a3812703b2923b23661ffd172bbe19520077c541ab84f6c63df", func := "sapper/sapperlaw08.HeadRuns", spec := "headRuns", apart := false, narrowed := true }
def HeadRunsUptoSaid : Prop := headRunsUptoRow.holds Try.pinned (OpenSpec.upto headRunsSpec)

/-- 'sapperlaw08.HeadLens', WHERE WHAT IT READS IS OF BULK AT MOST 1048576: true; the input reads as it did. -/
def headLensUptoRow : OpenClaim := { program := "ytofajcifjmhomaa", sum := "bec104101c067a3812703b2923b23661ffd172bbe19520077c541ab84f6c63df", func := "sapper/sapperlaw08.HeadLens", spec := "headLens", apart := false, narrowed := true }
def HeadLensUptoSaid : Prop := headLensUptoRow.holds Try.pinned (OpenSpec.upto headLensSpec)

/-- 'sapperlaw08.HeadBack', WHERE WHAT IT READS IS OF BULK AT MOST 1048576: true; the input reads as it did. -/
def headBackUptoRow : OpenClaim := { program := "ytofajcifjmhomaa", sum := "bec104101c067a3812703b2923b23661ffd172bbe19520077c541ab84f6c63df", func := "sapper/sapperlaw08.HeadBack", spec := "headBack", apart := false, narrowed := true }
def HeadBackUptoSaid : Prop := headBackUptoRow.holds Try.pinned (OpenSpec.upto headBackSpec)

/-- 'sapperlaw08.HeadNone', WHERE WHAT IT READS IS OF BULK AT MOST 1048576: true; the input reads as it did. -/
def headNoneUptoRow : OpenClaim := { program := "ytofajcifjmhomaa", sum := "bec104101c067a3812703b2923b23661ffd172bbe19520077c541ab84f6c63df", func := "sapper/sapperlaw08.HeadNone", spec := "headNone", unfollowed := true, recurses := true, apart := false, narrowed := true }
def HeadNoneUptoSaid : Prop := headNoneUptoRow.holds Try.pinned (OpenSpec.upto headNoneSpec)

/-- 'sapperlaw08.HeadReads', WHERE WHAT IT READS IS OF BULK AT MOST 1048576: true; the input reads as it did. -/
def headReadsUptoRow : OpenClaim := { program := "ytofajcifjmhomaa", sum := "bec104101c067a3812703b2923b23661ffd172bbe19520077c541ab84f6c63df", func := "sapper/sapperlaw08.HeadReads", spec := "headReads", unfollowed := true, recurses := true, apart := false, narrowed := true }
def HeadReadsUptoSaid : Prop := headReadsUptoRow.holds Try.pinned (OpenSpec.upto headReadsSpec)

/-- 'sapperlaw08.HeadNames', WHERE WHAT IT READS IS OF BULK AT MOST 1048576: true; the input reads as it did. -/
def headNamesUptoRow : OpenClaim := { program := "ytofajcifjmhomaa", sum := "bec104101c067a3812703b2923b23661ffd172bbe19520077c541ab84f6c63df", func := "sapper/sapperlaw08.HeadNames", spec := "headNames", unfollowed := true, recurses := true, apart := false, narrowed := true }
def HeadNamesUptoSaid : Prop := headNamesUptoRow.holds Try.pinned (OpenSpec.upto headNamesSpec)

/-- 'sapperlaw08.HeadWrites', WHERE WHAT IT READS IS OF BULK AT MOST 1048576: true; the input reads as it did. -/
def headWritesUptoRow : OpenClaim := { program := "ytofajcifjmhomaa", sum := "bec104101c067a3812703b2923b23661ffd172bbe19520077c541ab84f6c63df", func := "sapper/sapperlaw08.HeadWrites", spec := "headWrites", unfollowed := true, recurses := true, apart := false, narrowed := true }
def HeadWritesUptoSaid : Prop := headWritesUptoRow.holds Try.pinned (OpenSpec.upto headWritesSpec)

/-- 'sapperlaw08.HeadTold', WHERE WHAT IT READS IS OF BULK AT MOST 1048576: true; the input reads as it did. -/
def headToldUptoRow : OpenClaim := { program := "ytofajcifjmhomaa", sum := "bec104101c067a3812703b2923b23661ffd172bbe19520077c541ab84f6c63df", func := "sapper/sapperlaw08.HeadTold", spec := "headTold", unfollowed := true, recurses := true, apart := false, narrowed := true }
def HeadToldUptoSaid : Prop := headToldUptoRow.holds Try.pinned (OpenSpec.upto headToldSpec)

/-- 'sapperlaw08.HeadThrough', WHERE WHAT IT READS IS OF BULK AT MOST 1048576: true; the input reads as it did. -/
def headThroughUptoRow : OpenClaim := { program := "ytofajcifjmhomaa", sum := "bec104101c067a3812703b2923b23661ffd172bbe19520077c541ab84f6c63df", func := "sapper/sapperlaw08.HeadThrough", spec := "headThrough", unfollowed := true, recurses := true, apart := false, narrowed := true }
def HeadThroughUptoSaid : Prop := headThroughUptoRow.holds Try.pinned (OpenSpec.upto headThroughSpec)

end Rows
end Go.Proofs.Ytofajcifjmhomaa
