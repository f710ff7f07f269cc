/-
  No cell of these rows narrows 'for every input' (looked for: loops, veiled, ifaces, maps, wideKeys, modest, calm, conditions, laid).
  DERIVED. THE GIVEN ROWS OF THIS SEAT. 6 by the template 'for every input the law returns true; each argument reads behind the call as it read before'; 0 by the template 'total and deterministic' (their statements: YtkdgfioigkijgaaTotals.lean).
  GIVEN WITH THE SEED: the statements are not yours to turn. If you find one false, say at which input.
  Laid BY PROGRAM, IN A SANDBOX (cutbox-rows.mjs): the forced cells as the released guide's own fill.sh prints them over the translation 880fa36217f1be77… (all of the seat's roots in one cut). By AI agents, Wed Nov 11 2026. No macro, syntax, notation, axiom, sorry.
-/
import Derived.Test.YtkdgfioigkijgaaChecked
import GoSem.Claim
import GoSem.ClaimJoined
import GoSem.ClaimMapViews
import Derived.JoinedTies
import Derived.KernelRfl
namespace Go.Proofs.Ytkdgfioigkijgaa
/- THE CELL 'sum', in the pinned program and in every row, IS THE sha256 OF THE DUMP (.gsa) THAT YtkdgfioigkijgaaProg.lean LOADS. Nothing in Lean hashes anything: it is a label: what it is worth is what the hold of that sum in a sandbox is worth. -/
noncomputable def Try.pinned : Pinned := { name := "ytkdgfioigkijgaa", sum := "880fa36217f1be7739fed8c02a7f4fa00d619a00f2d302e915099c31c08d4b2e", checked := Try.checked }
namespace Rows
def none {H : Type} : Left H := { results := [], args := [] }

/-- 'sapperlaw10.PressNames': WHATEVER THE INPUT: true; the input reads as it did. -/
def pressNamesSpec : ChangeSpec := { name := "pressNames", fn := fun _ => fun
  | [] => { results := [.lit (.bool true)], args := [] }
  | _ => none }
def pressNamesRow : OpenClaim := { program := "ytkdgfioigkijgaa", sum := "880fa36217f1be7739fed8c02a7f4fa00d619a00f2d302e915099c31c08d4b2e", func := "sapper/sapperlaw10.PressNames", spec := "pressNames", unfollowed := true, recurses := true, plainKeys := false, apart := false }
def PressNamesSaid : Prop := pressNamesRow.holds Try.pinned (OpenSpec.ofChange pressNamesSpec)

/-- ITS FALSE NEIGHBOUR: 'it returns false'. Refute it at one input. -/
def pressNamesWrong : ChangeSpec := { name := "pressNames", fn := fun _ => fun
  | [] => { results := [.lit (.bool false)], args := [] }
  | _ => none }
def PressNamesWrongFalsely : Prop := pressNamesRow.holds Try.pinned (OpenSpec.ofChange pressNamesWrong)

/-- 'sapperlaw10.PressOptions': WHATEVER THE INPUT: true; the input reads as it did. -/
def pressOptionsSpec : ChangeSpec := { name := "pressOptions", fn := fun _ => fun
  | [d] => { results := [.lit (.bool true)], args := [d] }
  | _ => none }
def pressOptionsRow : OpenClaim := { program := "ytkdgfioigkijgaa", sum := "880fa36217f1be7739fed8c02a7f4fa00d619a00f2d302e915099c31c08d4b2e", func := "sapper/sapperlaw10.PressOptions", spec := "pressOptions", unfollowed := true, recurses := true, plainKeys := false, apart := false }
def PressOptionsSaid : Prop := pressOptionsRow.holds Try.pinned (OpenSpec.ofChange pressOptionsSpec)

/-- ITS FALSE NEIGHBOUR: 'it returns false'. Refute it at one input. -/
def pressOptionsWrong : ChangeSpec := { name := "pressOptions", fn := fun _ => fun
  | [d] => { results := [.lit (.bool false)], args := [d] }
  | _ => none }
def PressOptionsWrongFalsely : Prop := pressOptionsRow.holds Try.pinned (OpenSpec.ofChange pressOptionsWrong)

/-- 'sapperlaw10.PressParts': WHATEVER THE INPUT: true; the input reads as it did. -/
def pressPartsSpec : ChangeSpec := { name := "pressParts", fn := fun _ => fun
  | [d1, d2] => { results := [.lit (.bool true)], args := [d1, d2] }
  | _ => none }
def pressPartsRow : OpenClaim := { program := "ytkdgfioigkijgaa", sum := "880fa36217f1be7739fed8c02a7f4fa00d619a00f2d302e915099c31c08d4b2e", func := "sapper/sapperlaw10.PressParts", spec := "pressParts", unfollowed := true, recurses := true, plainKeys := false, apart := false }
def PressPartsSaid : Prop := pressPartsRow.holds Try.pinned (OpenSpec.ofChange pressPartsSpec)

/-- ITS FALSE NEIGHBOUR: 'it returns false'. Refute it at one input. -/
def pressPartsWrong : ChangeSpec := { name := "pressParts", fn := fun _ => fun
  | [d1, d2] => { results := [.lit (.bool false)], args := [d1, d2] }
  | _ => none }
def PressPartsWrongFalsely : Prop := pressPartsRow.holds Try.pinned (OpenSpec.ofChange pressPartsWrong)

/-- 'sapperlaw10.PressMost': WHATEVER THE INPUT: true; the input reads as it did. -/
def pressMostSpec : ChangeSpec := { name := "pressMost", fn := fun _ => fun
  | [d1, d2] => { results := [.lit (.bool true)], args := [d1, d2] }
  | _ => none }
def pressMostRow : OpenClaim := { program := "ytkdgfioigkijgaa", sum := "880fa36217f1be7739fed8c02a7f4fa00d619a00f2d302e915099c31c08d4b2e", func := "sapper/sapperlaw10.PressMost", spec := "pressMost", unfollowed := true, recurses := true, plainKeys := false, apart := false }
def PressMostSaid : Prop := pressMostRow.holds Try.pinned (OpenSpec.ofChange pressMostSpec)

/-- ITS FALSE NEIGHBOUR: 'it returns false'. Refute it at one input. -/
def pressMostWrong : ChangeSpec := { name := "pressMost", fn := fun _ => fun
  | [d1, d2] => { results := [.lit (.bool false)], args := [d1, d2] }
  | _ => none }
def PressMostWrongFalsely : Prop := pressMostRow.holds Try.pinned (OpenSpec.ofChange pressMostWrong)

/-- 'sapperlaw10.PressBytes': WHATEVER THE INPUT: true; the input reads as it did. -/
def pressBytesSpec : ChangeSpec := { name := "pressBytes", fn := fun _ => fun
  | [d1, d2] => { results := [.lit (.bool true)], args := [d1, d2] }
  | _ => none }
def pressBytesRow : OpenClaim := { program := "ytkdgfioigkijgaa", sum := "880fa36217f1be7739fed8c02a7f4fa00d619a00f2d302e915099c31c08d4b2e", func := "sapper/sapperlaw10.PressBytes", spec := "pressBytes", unfollowed := true, recurses := true, plainKeys := false, apart := false }
def PressBytesSaid : Prop := pressBytesRow.holds Try.pinned (OpenSpec.ofChange pressBytesSpec)

/-- ITS FALSE NEIGHBOUR: 'it returns false'. Refute it at one input. -/
def pressBytesWrong : ChangeSpec := { name := "pressBytes", fn := fun _ => fun
  | [d1, d2] => { results := [.lit (.bool false)], args := [d1, d2] }
  | _ => none }
def PressBytesWrongFalsely : Prop := pressBytesRow.holds Try.pinned (OpenSpec.ofChange pressBytesWrong)

/-- 'sapperlaw10.PressPrices': WHATEVER THE INPUT: true; the input reads as it did. -/
def pressPricesSpec : ChangeSpec := { name := "pressPrices", fn := fun _ => fun
  | [d] => { results := [.lit (.bool true)], args := [d] }
  | _ => none }
def pressPricesRow : OpenClaim := { program := "ytkdgfioigkijgaa", sum := "880fa36217f1be7739fed8c02a7f4fa00d619a00f2d302e915099c31c08d4b2e", func := "sapper/sapperlaw10.PressPrices", spec := "pressPrices", unfollowed := true, recurses := true, plainKeys := false, apart := false }
def PressPricesSaid : Prop := pressPricesRow.holds Try.pinned (OpenSpec.ofChange pressPricesSpec)

/-- ITS FALSE NEIGHBOUR: 'it returns false'. Refute it at one input. -/
def pressPricesWrong : ChangeSpec := { name := "pressPrices", fn := fun _ => fun
  | [d] => { results := [.lit (.bool false)], args := [d] }
  | _ => none }
def PressPricesWrongFalsely : Prop := pressPricesRow.holds Try.pinned (OpenSpec.ofChange pressPricesWrong)

/- THE SECOND FORM. 'bulk': how many values and letters a reading holds, each counted each time it is reached (what is shared counts as often as it is met; a slice's spare places count too). A statement '..UptoSaid' is the law's where the arguments, and the package variables that the reading takes, are together of bulk at most 1048576: NARROWER than '..Said'. Prove '..Said' where nothing that the law and all that it calls make is longer than what came in: it says more and counts as full. Else prove '..UptoSaid'. A law counts once. -/
mutual
def uptoBulk {H : Type} : DataW H → Nat
  | .lit (.string bytes) => bytes.length + 1
  | .lit _ => 1
  | .nil => 1
  | .ptr d => uptoBulk d + 1
  | .slice elems spare => uptoBulkAll elems + uptoBulkAll spare + 1
  | .agg parts => uptoBulkAll parts + 1
  | .iface _ d => uptoBulk d + 1
  | .map entries => uptoBulkEntries entries + 1
  | .held _ => 1
def uptoBulkAll {H : Type} : List (DataW H) → Nat
  | [] => 0
  | d :: r => uptoBulk d + uptoBulkAll r
def uptoBulkEntries {H : Type} : List (Lit × DataW H) → Nat
  | [] => 0
  | x :: r => uptoBulkEntry x + uptoBulkEntries r
def uptoBulkEntry {H : Type} : Lit × DataW H → Nat
  | (.string bytes, d) => bytes.length + uptoBulk d + 1
  | (_, d) => uptoBulk d + 1
 end
def uptoSmall : (H : Type) → List (DataW H) → Bool := fun _ ds => decide (uptoBulkAll ds ≤ 1048576)
def OpenSpec.upto (s : _root_.Go.ChangeSpec) : _root_.Go.OpenSpec := { _root_.Go.OpenSpec.ofChange s with cond := some uptoSmall }

/-- 'sapperlaw10.PressNames', WHERE WHAT IT READS IS OF BULK AT MOST 1048576: true; the input reads as it did. -/
def pressNamesUptoRow : OpenClaim := { program := "ytkdgfioigkijgaa", sum := "880fa36217f1be7739fed8c02a7f4fa00d619a00f2d302e915099c31c08d4b2e", func := "sapper/sapperlaw10.PressNames", spec := "pressNames", unfollowed := true, recurses := true, plainKeys := false, apart := false, narrowed := true }
def PressNamesUptoSaid : Prop := pressNamesUptoRow.holds Try.pinned (OpenSpec.upto pressNamesSpec)

/-- 'sapperlaw10.PressOptions', WHERE WHAT IT READS IS OF BULK AT MOST 1048576: true; the input reads as it did. -/
def pressOptionsUptoRow : OpenClaim := { program := "ytkdgfioigkijgaa", sum := "880fa36217f1be7739fed8c02a7f4fa00d619a00f2d302e915099c31c08d4b2e", func := "sapper/sapperlaw10.PressOptions", spec := "pressOptions", unfollowed := true, recurses := true, plainKeys := false, apart := false, narrowed := true }
def PressOptionsUptoSaid : Prop := pressOptionsUptoRow.holds Try.pinned (OpenSpec.upto pressOptionsSpec)

/-- 'sapperlaw10.PressParts', WHERE WHAT IT READS IS OF BULK AT MOST 1048576: true; the input reads as it did. -/
def pressPartsUptoRow : OpenClaim := { program := "ytkdgfioigkijgaa", sum := "880fa36217f1be7739fed8c02a7f4fa00d619a00f2d302e915099c31c08d4b2e", func := "sapper/sapperlaw10.PressParts", spec := "pressParts", unfollowed := true, recurses := true, plainKeys := false, apart := false, narrowed := true }
def PressPartsUptoSaid : Prop := pressPartsUptoRow.holds Try.pinned (OpenSpec.upto pressPartsSpec)

/-- 'sapperlaw10.PressMost', WHERE WHAT IT READS IS OF BULK AT MOST 1048576: true; the input reads as it did. -/
def pressMostUptoRow : OpenClaim := { program := "ytkdgfioigkijgaa", sum := "880fa36217f1be7739fed8c02a7f4fa00d619a00f2d302e915099c31c08d4b2e", func := "sapper/sapperlaw10.PressMost", spec := "pressMost", unfollowed := true, recurses := true, plainKeys := false, apart := false, narrowed := true }
def PressMostUptoSaid : Prop := pressMostUptoRow.holds Try.pinned (OpenSpec.upto pressMostSpec)

/-- 'sapperlaw10.PressBytes', WHERE WHAT IT READS IS OF BULK AT MOST 1048576: true; the input reads as it did. -/
def pressBytesUptoRow : OpenClaim := { program := "ytkdgfioigkijgaa", sum := "880fa36217f1be7739fed8c02a7f4fa00d619a00f2d302e915099c31c08d4b2e", func := "sapper/sapperlaw10.PressBytes", spec := "pressBytes", unfollowed := true, recurses := true, plainKeys := false, apart := false, narrowed := true }
def PressBytesUptoSaid : Prop := pressBytesUptoRow.holds Try.pinned (OpenSpec.upto pressBytesSpec)

/-- 'sapperlaw10.PressPrices', WHERE WHAT IT READS IS OF BULK AT MOST 1048576: true; the input reads as it did. -/
def pressPricesUptoRow : OpenClaim := { program := "ytkdgfioigkijgaa", sum := "880fa36217f1be7739fed8c02a7f4fa00d619a00f2d302e915099c31c08d4b2e", func := "sapper/sapperlaw10.PressPrices", spec := "pressPrices", unfollowed := true, recurses := true, plainKeys := false, apart := false, narrowed := true }
def PressPricesUptoSaid : Prop := pressPricesUptoRow.holds Try.pinned (OpenSpec.upto pressPricesSpec)

end Rows
end Go.Proofs.Ytkdgfioigkijgaa
