/-
  No cell of these rows narrows 'for every input' (looked for: loops, veiled, ifaces, maps, wideKeys, modest, calm, conditions, laid).
  DERIVED. THE GIVEN ROWS OF THIS SEAT. 8 by the template 'for every input the law returns true; each argument reads behind the call as it read before'; 0 by the template 'total and deterministic' (their statements: YtkdgfioigkijgaaGreatTotals.lean).
  GIVEN WITH THE SEED: the statements are not yours to turn. If you find one false, say at which input.
  Laid BY PROGRAM, IN A SANDBOX (cutbox-rows.mjs): the forced cells as the released guide's own fill.sh prints them over the translation 0c68c49be3002373… (all of the seat's roots in one cut). By AI agents, Wed Nov 11 2026. No macro, syntax, notation, axiom, sorry.
-/
import Derived.Test.YtkdgfioigkijgaaGreatChecked
import GoSem.Claim
import GoSem.ClaimJoined
import GoSem.ClaimMapViews
import Derived.JoinedTies
import Derived.KernelRfl
namespace Go.Proofs.YtkdgfioigkijgaaGreat
/- THE CELL 'sum', in the pinned program and in every row, IS THE sha256 OF THE DUMP (.gsa) THAT YtkdgfioigkijgaaGreatProg.lean LOADS. Nothing in Lean hashes anything: it is a label: what it is worth is what the hold of that sum in a sandbox is worth. -/
noncomputable def Tryz.pinned : Pinned := { name := "ytkdgfioigkijgaagreat", sum := "0c68c49be3002373702e96ae2e27cf15943af60eaedb730f2cb810c64a2addb0", checked := Tryz.checked }
namespace Rows
def none {H : Type} : Left H := { results := [], args := [] }

/-- 'sapperlaw09.BlockWrites': WHATEVER THE INPUT: true; the input reads as it did. -/
def blockWritesSpec : ChangeSpec := { name := "blockWrites", fn := fun _ => fun
  | [d1, d2] => { results := [.lit (.bool true)], args := [d1, d2] }
  | _ => none }
def blockWritesRow : OpenClaim := { program := "ytkdgfioigkijgaagreat", sum := "0c68c49be3002373702e96ae2e27cf15943af60eaedb730f2cb810c64a2addb0", func := "sapper/sapperlaw09.BlockWrites", spec := "blockWrites", unfollowed := true, recurses := true, plainKeys := false, apart := false }
def BlockWritesSaid : Prop := blockWritesRow.holds Tryz.pinned (OpenSpec.ofChange blockWritesSpec)

/-- ITS FALSE NEIGHBOUR: 'it returns false'. Refute it at one input. -/
def blockWritesWrong : ChangeSpec := { name := "blockWrites", fn := fun _ => fun
  | [d1, d2] => { results := [.lit (.bool false)], args := [d1, d2] }
  | _ => none }
def BlockWritesWrongFalsely : Prop := blockWritesRow.holds Tryz.pinned (OpenSpec.ofChange blockWritesWrong)

/-- 'sapperlaw09.BlockCosts': WHATEVER THE INPUT: true; the input reads as it did. -/
def blockCostsSpec : ChangeSpec := { name := "blockCosts", fn := fun _ => fun
  | [d1, d2, d3] => { results := [.lit (.bool true)], args := [d1, d2, d3] }
  | _ => none }
def blockCostsRow : OpenClaim := { program := "ytkdgfioigkijgaagreat", sum := "0c68c49be3002373702e96ae2e27cf15943af60eaedb730f2cb810c64a2addb0", func := "sapper/sapperlaw09.BlockCosts", spec := "blockCosts", unfollowed := true, recurses := true, plainKeys := false, apart := false }
def BlockCostsSaid : Prop := blockCostsRow.holds Tryz.pinned (OpenSpec.ofChange blockCostsSpec)

/-- ITS FALSE NEIGHBOUR: 'it returns false'. Refute it at one input. -/
def blockCostsWrong : ChangeSpec := { name := "blockCosts", fn := fun _ => fun
  | [d1, d2, d3] => { results := [.lit (.bool false)], args := [d1, d2, d3] }
  | _ => none }
def BlockCostsWrongFalsely : Prop := blockCostsRow.holds Tryz.pinned (OpenSpec.ofChange blockCostsWrong)

/-- 'sapperlaw09.BlockReads': WHATEVER THE INPUT: true; the input reads as it did. -/
def blockReadsSpec : ChangeSpec := { name := "blockReads", fn := fun _ => fun
  | [d1, d2] => { results := [.lit (.bool true)], args := [d1, d2] }
  | _ => none }
def blockReadsRow : OpenClaim := { program := "ytkdgfioigkijgaagreat", sum := "0c68c49be3002373702e96ae2e27cf15943af60eaedb730f2cb810c64a2addb0", func := "sapper/sapperlaw09.BlockReads", spec := "blockReads", unfollowed := true, recurses := true, plainKeys := false, apart := false }
def BlockReadsSaid : Prop := blockReadsRow.holds Tryz.pinned (OpenSpec.ofChange blockReadsSpec)

/-- ITS FALSE NEIGHBOUR: 'it returns false'. Refute it at one input. -/
def blockReadsWrong : ChangeSpec := { name := "blockReads", fn := fun _ => fun
  | [d1, d2] => { results := [.lit (.bool false)], args := [d1, d2] }
  | _ => none }
def BlockReadsWrongFalsely : Prop := blockReadsRow.holds Tryz.pinned (OpenSpec.ofChange blockReadsWrong)

/-- 'sapperlaw09.BlockBack': WHATEVER THE INPUT: true; the input reads as it did. -/
def blockBackSpec : ChangeSpec := { name := "blockBack", fn := fun _ => fun
  | [d1, d2] => { results := [.lit (.bool true)], args := [d1, d2] }
  | _ => none }
def blockBackRow : OpenClaim := { program := "ytkdgfioigkijgaagreat", sum := "0c68c49be3002373702e96ae2e27cf15943af60eaedb730f2cb810c64a2addb0", func := "sapper/sapperlaw09.BlockBack", spec := "blockBack", unfollowed := true, recurses := true, plainKeys := false, apart := false }
def BlockBackSaid : Prop := blockBackRow.holds Tryz.pinned (OpenSpec.ofChange blockBackSpec)

/-- ITS FALSE NEIGHBOUR: 'it returns false'. Refute it at one input. -/
def blockBackWrong : ChangeSpec := { name := "blockBack", fn := fun _ => fun
  | [d1, d2] => { results := [.lit (.bool false)], args := [d1, d2] }
  | _ => none }
def BlockBackWrongFalsely : Prop := blockBackRow.holds Tryz.pinned (OpenSpec.ofChange blockBackWrong)

/-- 'sapperlaw10.PressStreams': WHATEVER THE INPUT: true; the input reads as it did. -/
def pressStreamsSpec : ChangeSpec := { name := "pressStreams", fn := fun _ => fun
  | [d1, d2] => { results := [.lit (.bool true)], args := [d1, d2] }
  | _ => none }
def pressStreamsRow : OpenClaim := { program := "ytkdgfioigkijgaagreat", sum := "0c68c49be3002373702e96ae2e27cf15943af60eaedb730f2cb810c64a2addb0", func := "sapper/sapperlaw10.PressStreams", spec := "pressStreams", unfollowed := true, recurses := true, plainKeys := false, apart := false }
def PressStreamsSaid : Prop := pressStreamsRow.holds Tryz.pinned (OpenSpec.ofChange pressStreamsSpec)

/-- ITS FALSE NEIGHBOUR: 'it returns false'. Refute it at one input. -/
def pressStreamsWrong : ChangeSpec := { name := "pressStreams", fn := fun _ => fun
  | [d1, d2] => { results := [.lit (.bool false)], args := [d1, d2] }
  | _ => none }
def PressStreamsWrongFalsely : Prop := pressStreamsRow.holds Tryz.pinned (OpenSpec.ofChange pressStreamsWrong)

/-- 'sapperlaw10.PressSqueezes': WHATEVER THE INPUT: true; the input reads as it did. -/
def pressSqueezesSpec : ChangeSpec := { name := "pressSqueezes", fn := fun _ => fun
  | [d1, d2, d3] => { results := [.lit (.bool true)], args := [d1, d2, d3] }
  | _ => none }
def pressSqueezesRow : OpenClaim := { program := "ytkdgfioigkijgaagreat", sum := "0c68c49be3002373702e96ae2e27cf15943af60eaedb730f2cb810c64a2addb0", func := "sapper/sapperlaw10.PressSqueezes", spec := "pressSqueezes", unfollowed := true, recurses := true, plainKeys := false, apart := false }
def PressSqueezesSaid : Prop := pressSqueezesRow.holds Tryz.pinned (OpenSpec.ofChange pressSqueezesSpec)

/-- ITS FALSE NEIGHBOUR: 'it returns false'. Refute it at one input. -/
def pressSqueezesWrong : ChangeSpec := { name := "pressSqueezes", fn := fun _ => fun
  | [d1, d2, d3] => { results := [.lit (.bool false)], args := [d1, d2, d3] }
  | _ => none }
def PressSqueezesWrongFalsely : Prop := pressSqueezesRow.holds Tryz.pinned (OpenSpec.ofChange pressSqueezesWrong)

/-- 'sapperlaw10.PressBack': WHATEVER THE INPUT: true; the input reads as it did. -/
def pressBackSpec : ChangeSpec := { name := "pressBack", fn := fun _ => fun
  | [d1, d2] => { results := [.lit (.bool true)], args := [d1, d2] }
  | _ => none }
def pressBackRow : OpenClaim := { program := "ytkdgfioigkijgaagreat", sum := "0c68c49be3002373702e96ae2e27cf15943af60eaedb730f2cb810c64a2addb0", func := "sapper/sapperlaw10.PressBack", spec := "pressBack", unfollowed := true, recurses := true, plainKeys := false, apart := false }
def PressBackSaid : Prop := pressBackRow.holds Tryz.pinned (OpenSpec.ofChange pressBackSpec)

/-- ITS FALSE NEIGHBOUR: 'it returns false'. Refute it at one input. -/
def pressBackWrong : ChangeSpec := { name := "pressBack", fn := fun _ => fun
  | [d1, d2] => { results := [.lit (.bool false)], args := [d1, d2] }
  | _ => none }
def PressBackWrongFalsely : Prop := pressBackRow.holds Tryz.pinned (OpenSpec.ofChange pressBackWrong)

/-- 'sapperlaw10.PressShorter': WHATEVER THE INPUT: true; the input reads as it did. -/
def pressShorterSpec : ChangeSpec := { name := "pressShorter", fn := fun _ => fun
  | [d1, d2, d3] => { results := [.lit (.bool true)], args := [d1, d2, d3] }
  | _ => none }
def pressShorterRow : OpenClaim := { program := "ytkdgfioigkijgaagreat", sum := "0c68c49be3002373702e96ae2e27cf15943af60eaedb730f2cb810c64a2addb0", func := "sapper/sapperlaw10.PressShorter", spec := "pressShorter", unfollowed := true, recurses := true, plainKeys := false, apart := false }
def PressShorterSaid : Prop := pressShorterRow.holds Tryz.pinned (OpenSpec.ofChange pressShorterSpec)

/-- ITS FALSE NEIGHBOUR: 'it returns false'. Refute it at one input. -/
def pressShorterWrong : ChangeSpec := { name := "pressShorter", fn := fun _ => fun
  | [d1, d2, d3] => { results := [.lit (.bool false)], args := [d1, d2, d3] }
  | _ => none }
def PressShorterWrongFalsely : Prop := pressShorterRow.holds Tryz.pinned (OpenSpec.ofChange pressShorterWrong)

/- THE SECOND FORM. 'bulk': how many values and letters a reading holds, each counted each time it is reached (what is shared counts as often as it is met; a slice's spare places count too). A statement '..UptoSaid' is the law's where the arguments, and the package variables that the reading takes, are together of bulk at most 1048576: NARROWER than '..Said'. Prove '..Said' where nothing that the law and all that it calls make is longer than what came in: it says more and counts as full. Else prove '..UptoSaid'. A law counts once. -/
mutual
def uptoBulk {H : Type} : DataW H → Nat
  | .lit (.string bytes) => bytes.length + 1
  | .lit _ => 1
  | .nil => 1
  | .ptr d => uptoBulk d + 1
  | .slice elems spare => uptoBulkAll elems + uptoBulkAll spare + 1
  | .agg parts => uptoBulkAll parts + 1
  | .iface _ d => uptoBulk d + 1
  | .map entries => uptoBulkEntries entries + 1
  | .held _ => 1
def uptoBulkAll {H : Type} : List (DataW H) → Nat
  | [] => 0
  | d :: r => uptoBulk d + uptoBulkAll r
def uptoBulkEntries {H : Type} : List (Lit × DataW H) → Nat
  | [] => 0
  | x :: r => uptoBulkEntry x + uptoBulkEntries r
def uptoBulkEntry {H : Type} : Lit × DataW H → Nat
  | (.string bytes, d) => bytes.length + uptoBulk d + 1
  | (_, d) => uptoBulk d + 1
 end
def uptoSmall : (H : Type) → List (DataW H) → Bool := fun _ ds => decide (uptoBulkAll ds ≤ 1048576)
def OpenSpec.upto (s : _root_.Go.ChangeSpec) : _root_.Go.OpenSpec := { _root_.Go.OpenSpec.ofChange s with cond := some uptoSmall }

/-- 'sapperlaw09.BlockWrites', WHERE WHAT IT READS IS OF BULK AT MOST 1048576: true; the input reads as it did. -/
def blockWritesUptoRow : OpenClaim := { program := "ytkdgfioigkijgaagreat", sum := "0c68c49be3002373702e96ae2e27cf15943af60eaedb730f2cb810c64a2addb0", func := "sapper/sapperlaw09.BlockWrites", spec := "blockWrites", unfollowed := true, recurses := true, plainKeys := false, apart := false, narrowed := true }
def BlockWritesUptoSaid : Prop := blockWritesUptoRow.holds Tryz.pinned (OpenSpec.upto blockWritesSpec)

/-- 'sapperlaw09.BlockCosts', WHERE WHAT IT READS IS OF BULK AT MOST 1048576: true; the input reads as it did. -/
def blockCostsUptoRow : OpenClaim := { program := "ytkdgfioigkijgaagreat", sum := "0c68c49be3002373702e96ae2e27cf15943af60eaedb730f2cb810c64a2addb0", func := "sapper/sapperlaw09.BlockCosts", spec := "blockCosts", unfollowed := true, recurses := true, plainKeys := false, apart := false, narrowed := true }
def BlockCostsUptoSaid : Prop := blockCostsUptoRow.holds Tryz.pinned (OpenSpec.upto blockCostsSpec)

/-- 'sapperlaw09.BlockReads', WHERE WHAT IT READS IS OF BULK AT MOST 1048576: true; the input reads as it did. -/
def blockReadsUptoRow : OpenClaim := { program := "ytkdgfioigkijgaagreat", sum := "0c68c49be3002373702e96ae2e27cf15943af60eaedb730f2cb810c64a2addb0", func := "sapper/sapperlaw09.BlockReads", spec := "blockReads", unfollowed := true, recurses := true, plainKeys := false, apart := false, narrowed := true }
def BlockReadsUptoSaid : Prop := blockReadsUptoRow.holds Tryz.pinned (OpenSpec.upto blockReadsSpec)

/-- 'sapperlaw09.BlockBack', WHERE WHAT IT READS IS OF BULK AT MOST 1048576: true; the input reads as it did. -/
def blockBackUptoRow : OpenClaim := { program := "ytkdgfioigkijgaagreat", sum := "0c68c49be3002373702e96ae2e27cf15943af60eaedb730f2cb810c64a2addb0", func := "sapper/sapperlaw09.BlockBack", spec := "blockBack", unfollowed := true, recurses := true, plainKeys := false, apart := false, narrowed := true }
def BlockBackUptoSaid : Prop := blockBackUptoRow.holds Tryz.pinned (OpenSpec.upto blockBackSpec)

/-- 'sapperlaw10.PressStreams', WHERE WHAT IT READS IS OF BULK AT MOST 1048576: true; the input reads as it did. -/
def pressStreamsUptoRow : OpenClaim := { program := "ytkdgfioigkijgaagreat", sum := "0c68c49be3002373702e96ae2e27cf15943af60eaedb730f2cb810c64a2addb0", func := "sapper/sapperlaw10.PressStreams", spec := "pressStreams", unfollowed := true, recurses := true, plainKeys := false, apart := false, narrowed := true }
def PressStreamsUptoSaid : Prop := pressStreamsUptoRow.holds Tryz.pinned (OpenSpec.upto pressStreamsSpec)

/-- 'sapperlaw10.PressSqueezes', WHERE WHAT IT READS IS OF BULK AT MOST 1048576: true; the input reads as it did. -/
def pressSqueezesUptoRow : OpenClaim := { program := "ytkdgfioigkijgaagreat", sum := "0c68c49be3002373702e96ae2e27cf15943af60eaedb730f2cb810c64a2addb0", func := "sapper/sapperlaw10.PressSqueezes", spec := "pressSqueezes", unfollowed := true, recurses := true, plainKeys := false, apart := false, narrowed := true }
def PressSqueezesUptoSaid : Prop := pressSqueezesUptoRow.holds Tryz.pinned (OpenSpec.upto pressSqueezesSpec)

/-- 'sapperlaw10.PressBack', WHERE WHAT IT READS IS OF BULK AT MOST 1048576: true; the input reads as it did. -/
def pressBackUptoRow : OpenClaim := { program := "ytkdgfioigkijgaagreat", sum := "0c68c49be3002373702e96ae2e27cf15943af60eaedb730f2cb810c64a2addb0", func := "sapper/sapperlaw10.PressBack", spec := "pressBack", unfollowed := true, recurses := true, plainKeys := false, apart := false, narrowed := true }
def PressBackUptoSaid : Prop := pressBackUptoRow.holds Tryz.pinned (OpenSpec.upto pressBackSpec)

/-- 'sapperlaw10.PressShorter', WHERE WHAT IT READS IS OF BULK AT MOST 1048576: true; the input reads as it did. -/
def pressShorterUptoRow : OpenClaim := { program := "ytkdgfioigkijgaagreat", sum := "0c68c49be3002373702e96ae2e27cf15943af60eaedb730f2cb810c64a2addb0", func := "sapper/sapperlaw10.PressShorter", spec := "pressShorter", unfollowed := true, recurses := true, plainKeys := false, apart := false, narrowed := true }
def PressShorterUptoSaid : Prop := pressShorterUptoRow.holds Tryz.pinned (OpenSpec.upto pressShorterSpec)

end Rows
end Go.Proofs.YtkdgfioigkijgaaGreat
