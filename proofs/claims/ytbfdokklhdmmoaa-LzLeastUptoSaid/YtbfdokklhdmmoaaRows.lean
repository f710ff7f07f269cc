/-
  No cell of these rows narrows 'for every input' (looked for: loops, veiled, ifaces, maps, wideKeys, modest, calm, conditions, laid).
  DERIVED. THE GIVEN ROWS OF THIS SEAT. 8 by the template 'for every input the law returns true; each argument reads behind the call as it read before'; 0 by the template 'total and deterministic' (their statements: YtbfdokklhdmmoaaTotals.lean).
  GIVEN WITH THE SEED: the statements are not yours to turn. If you find one false, say at which input.
  Laid BY PROGRAM, IN A SANDBOX (cutbox-rows.mjs): the forced cells as the released guide's own fill.sh prints them over the translation 52444057117b7589… (all of the seat's roots in one cut). By AI agents, Wed Nov 11 2026. No macro, syntax, notation, axiom, sorry.
-/
import Derived.Test.YtbfdokklhdmmoaaChecked
import GoSem.Claim
import GoSem.ClaimJoined
import GoSem.ClaimMapViews
import Derived.JoinedTies
import Derived.KernelRfl
namespace Go.Proofs.Ytbfdokklhdmmoaa
/- THE CELL 'sum', in the pinned program and in every row, IS THE sha256 OF THE DUMP (.gsa) THAT YtbfdokklhdmmoaaProg.lean LOADS. Nothing in Lean hashes anything: it is a label: what it is worth is what the hold of that sum in a sandbox is worth. -/
noncomputable def Try.pinned : Pinned := { name := "ytbfdokklhdmmoaa", sum := "52444057117b7589f335c311dcf9c2dcadc997138f028ffbe6b5fe98c87a675e", checked := Try.checked }
namespace Rows
def none {H : Type} : Left H := { results := [], args := [] }

/-- 'sapperlaw07.LzNames': WHATEVER THE INPUT: true; the input reads as it did. -/
def lzNamesSpec : ChangeSpec := { name := "lzNames", fn := fun _ => fun
  | [] => { results := [.lit (.bool true)], args := [] }
  | _ => none }
def lzNamesRow : OpenClaim := { program := "ytbfdokklhdmmoaa", sum := "52444057117b7589f335c311dcf9c2dcadc997138f028ffbe6b5fe98c87a675e", func := "sapper/sapperlaw07.LzNames", spec := "lzNames", unfollowed := true, recurses := true, plainKeys := false, apart := false }
def LzNamesSaid : Prop := lzNamesRow.holds Try.pinned (OpenSpec.ofChange lzNamesSpec)

/-- ITS FALSE NEIGHBOUR: 'it returns false'. Refute it at one input. -/
def lzNamesWrong : ChangeSpec := { name := "lzNames", fn := fun _ => fun
  | [] => { results := [.lit (.bool false)], args := [] }
  | _ => none }
def LzNamesWrongFalsely : Prop := lzNamesRow.holds Try.pinned (OpenSpec.ofChange lzNamesWrong)

/-- 'sapperlaw07.LzChecks': WHATEVER THE INPUT: true; the input reads as it did. -/
def lzChecksSpec : ChangeSpec := { name := "lzChecks", fn := fun _ => fun
  | [d1, d2] => { results := [.lit (.bool true)], args := [d1, d2] }
  | _ => none }
def lzChecksRow : OpenClaim := { program := "ytbfdokklhdmmoaa", sum := "52444057117b7589f335c311dcf9c2dcadc997138f028ffbe6b5fe98c87a675e", func := "sapper/sapperlaw07.LzChecks", spec := "lzChecks", unfollowed := true, recurses := true, plainKeys := false, apart := false }
def LzChecksSaid : Prop := lzChecksRow.holds Try.pinned (OpenSpec.ofChange lzChecksSpec)

/-- ITS FALSE NEIGHBOUR: 'it returns false'. Refute it at one input. -/
def lzChecksWrong : ChangeSpec := { name := "lzChecks", fn := fun _ => fun
  | [d1, d2] => { results := [.lit (.bool false)], args := [d1, d2] }
  | _ => none }
def LzChecksWrongFalsely : Prop := lzChecksRow.holds Try.pinned (OpenSpec.ofChange lzChecksWrong)

/-- 'sapperlaw07.LzParses': WHATEVER THE INPUT: true; the input reads as it did. -/
def lzParsesSpec : ChangeSpec := { name := "lzParses", fn := fun _ => fun
  | [d1, d2] => { results := [.lit (.bool true)], args := [d1, d2] }
  | _ => none }
def lzParsesRow : OpenClaim := { program := "ytbfdokklhdmmoaa", sum := "52444057117b7589f335c311dcf9c2dcadc997138f028ffbe6b5fe98c87a675e", func := "sapper/sapperlaw07.LzParses", spec := "lzParses", unfollowed := true, recurses := true, plainKeys := false, apart := false }
def LzParsesSaid : Prop := lzParsesRow.holds Try.pinned (OpenSpec.ofChange lzParsesSpec)

/-- ITS FALSE NEIGHBOUR: 'it returns false'. Refute it at one input. -/
def lzParsesWrong : ChangeSpec := { name := "lzParses", fn := fun _ => fun
  | [d1, d2] => { results := [.lit (.bool false)], args := [d1, d2] }
  | _ => none }
def LzParsesWrongFalsely : Prop := lzParsesRow.holds Try.pinned (OpenSpec.ofChange lzParsesWrong)

/-- 'sapperlaw07.LzBack': WHATEVER THE INPUT: true; the input reads as it did. -/
def lzBackSpec : ChangeSpec := { name := "lzBack", fn := fun _ => fun
  | [d1, d2] => { results := [.lit (.bool true)], args := [d1, d2] }
  | _ => none }
def lzBackRow : OpenClaim := { program := "ytbfdokklhdmmoaa", sum := "52444057117b7589f335c311dcf9c2dcadc997138f028ffbe6b5fe98c87a675e", func := "sapper/sapperlaw07.LzBack", spec := "lzBack", unfollowed := true, recurses := true, plainKeys := false, apart := false }
def LzBackSaid : Prop := lzBackRow.holds Try.pinned (OpenSpec.ofChange lzBackSpec)

/-- ITS FALSE NEIGHBOUR: 'it returns false'. Refute it at one input. -/
def lzBackWrong : ChangeSpec := { name := "lzBack", fn := fun _ => fun
  | [d1, d2] => { results := [.lit (.bool false)], args := [d1, d2] }
  | _ => none }
def LzBackWrongFalsely : Prop := lzBackRow.holds Try.pinned (OpenSpec.ofChange lzBackWrong)

/-- 'sapperlaw07.LzBegins': WHATEVER THE INPUT: true; the input reads as it did. -/
def lzBeginsSpec : ChangeSpec := { name := "lzBegins", fn := fun _ => fun
  | [d1, d2, d3] => { results := [.lit (.bool true)], args := [d1, d2, d3] }
  | _ => none }
def lzBeginsRow : OpenClaim := { program := "ytbfdokklhdmmoaa", sum := "52444057117b7589f335c311dcf9c2dcadc997138f028ffbe6b5fe98c87a675e", func := "sapper/sapperlaw07.LzBegins", spec := "lzBegins", unfollowed := true, recurses := true, plainKeys := false, apart := false }
def LzBeginsSaid : Prop := lzBeginsRow.holds Try.pinned (OpenSpec.ofChange lzBeginsSpec)

/-- ITS FALSE NEIGHBOUR: 'it returns false'. Refute it at one input. -/
def lzBeginsWrong : ChangeSpec := { name := "lzBegins", fn := fun _ => fun
  | [d1, d2, d3] => { results := [.lit (.bool false)], args := [d1, d2, d3] }
  | _ => none }
def LzBeginsWrongFalsely : Prop := lzBeginsRow.holds Try.pinned (OpenSpec.ofChange lzBeginsWrong)

/-- 'sapperlaw07.LzBests': WHATEVER THE INPUT: true; the input reads as it did. -/
def lzBestsSpec : ChangeSpec := { name := "lzBests", fn := fun _ => fun
  | [d1, d2, d3] => { results := [.lit (.bool true)], args := [d1, d2, d3] }
  | _ => none }
def lzBestsRow : OpenClaim := { program := "ytbfdokklhdmmoaa", sum := "52444057117b7589f335c311dcf9c2dcadc997138f028ffbe6b5fe98c87a675e", func := "sapper/sapperlaw07.LzBests", spec := "lzBests", unfollowed := true, recurses := true, plainKeys := false, apart := false }
def LzBestsSaid : Prop := lzBestsRow.holds Try.pinned (OpenSpec.ofChange lzBestsSpec)

/-- ITS FALSE NEIGHBOUR: 'it returns false'. Refute it at one input. -/
def lzBestsWrong : ChangeSpec := { name := "lzBests", fn := fun _ => fun
  | [d1, d2, d3] => { results := [.lit (.bool false)], args := [d1, d2, d3] }
  | _ => none }
def LzBestsWrongFalsely : Prop := lzBestsRow.holds Try.pinned (OpenSpec.ofChange lzBestsWrong)

/-- 'sapperlaw07.LzCheapests': WHATEVER THE INPUT: true; the input reads as it did. -/
def lzCheapestsSpec : ChangeSpec := { name := "lzCheapests", fn := fun _ => fun
  | [d1, d2, d3] => { results := [.lit (.bool true)], args := [d1, d2, d3] }
  | _ => none }
def lzCheapestsRow : OpenClaim := { program := "ytbfdokklhdmmoaa", sum := "52444057117b7589f335c311dcf9c2dcadc997138f028ffbe6b5fe98c87a675e", func := "sapper/sapperlaw07.LzCheapests", spec := "lzCheapests", unfollowed := true, recurses := true, plainKeys := false, apart := false }
def LzCheapestsSaid : Prop := lzCheapestsRow.holds Try.pinned (OpenSpec.ofChange lzCheapestsSpec)

/-- ITS FALSE NEIGHBOUR: 'it returns false'. Refute it at one input. -/
def lzCheapestsWrong : ChangeSpec := { name := "lzCheapests", fn := fun _ => fun
  | [d1, d2, d3] => { results := [.lit (.bool false)], args := [d1, d2, d3] }
  | _ => none }
def LzCheapestsWrongFalsely : Prop := lzCheapestsRow.holds Try.pinned (OpenSpec.ofChange lzCheapestsWrong)

/-- 'sapperlaw07.LzLeast': WHATEVER THE INPUT: true; the input reads as it did. -/
def lzLeastSpec : ChangeSpec := { name := "lzLeast", fn := fun _ => fun
  | [d1, d2, d3] => { results := [.lit (.bool true)], args := [d1, d2, d3] }
  | _ => none }
def lzLeastRow : OpenClaim := { program := "ytbfdokklhdmmoaa", sum := "52444057117b7589f335c311dcf9c2dcadc997138f028ffbe6b5fe98c87a675e", func := "sapper/sapperlaw07.LzLeast", spec := "lzLeast", unfollowed := true, recurses := true, plainKeys := false, apart := false }
def LzLeastSaid : Prop := lzLeastRow.holds Try.pinned (OpenSpec.ofChange lzLeastSpec)

/-- ITS FALSE NEIGHBOUR: 'it returns false'. Refute it at one input. -/
def lzLeastWrong : ChangeSpec := { name := "lzLeast", fn := fun _ => fun
  | [d1, d2, d3] => { results := [.lit (.bool false)], args := [d1, d2, d3] }
  | _ => none }
def LzLeastWrongFalsely : Prop := lzLeastRow.holds Try.pinned (OpenSpec.ofChange lzLeastWrong)

/- THE SECOND FORM. 'bulk': how many values and letters a reading holds, each counted each time it is reached (what is shared counts as often as it is met; a slice's spare places count too). A statement '..UptoSaid' is the law's where the arguments, and the package variables that the reading takes, are together of bulk at most 1048576: NARROWER than '..Said'. Prove '..Said' where nothing that the law and all that it calls make is longer than what came in: it says more and counts as full. Else prove '..UptoSaid'. A law counts once. -/
mutual
def uptoBulk {H : Type} : DataW H → Nat
  | .lit (.string bytes) => bytes.length + 1
  | .lit _ => 1
  | .nil => 1
  | .ptr d => uptoBulk d + 1
  | .slice elems spare => uptoBulkAll elems + uptoBulkAll spare + 1
  | .agg parts => uptoBulkAll parts + 1
  | .iface _ d => uptoBulk d + 1
  | .map entries => uptoBulkEntries entries + 1
  | .held _ => 1
def uptoBulkAll {H : Type} : List (DataW H) → Nat
  | [] => 0
  | d :: r => uptoBulk d + uptoBulkAll r
def uptoBulkEntries {H : Type} : List (Lit × DataW H) → Nat
  | [] => 0
  | x :: r => uptoBulkEntry x + uptoBulkEntries r
def uptoBulkEntry {H : Type} : Lit × DataW H → Nat
  | (.string bytes, d) => bytes.length + uptoBulk d + 1
  | (_, d) => uptoBulk d + 1
 end
def uptoSmall : (H : Type) → List (DataW H) → Bool := fun _ ds => decide (uptoBulkAll ds ≤ 1048576)
def OpenSpec.upto (s : _root_.Go.ChangeSpec) : _root_.Go.OpenSpec := { _root_.Go.OpenSpec.ofChange s with cond := some uptoSmall }

/-- 'sapperlaw07.LzNames', WHERE WHAT IT READS IS OF BULK AT MOST 1048576: true; the input reads as it did. -/
def lzNamesUptoRow : OpenClaim := { program := "ytbfdokklhdmmoaa", sum := "52444057117b7589f335c311dcf9c2dcadc997138f028ffbe6b5fe98c87a675e", func := "sapper/sapperlaw07.LzNames", spec := "lzNames", unfollowed := true, recurses := true, plainKeys := false, apart := false, narrowed := true }
def LzNamesUptoSaid : Prop := lzNamesUptoRow.holds Try.pinned (OpenSpec.upto lzNamesSpec)

/-- 'sapperlaw07.LzChecks', WHERE WHAT IT READS IS OF BULK AT MOST 1048576: true; the input reads as it did. -/
def lzChecksUptoRow : OpenClaim := { program := "ytbfdokklhdmmoaa", sum := "52444057117b7589f335c311dcf9c2dcadc997138f028ffbe6b5fe98c87a675e", func := "sapper/sapperlaw07.LzChecks", spec := "lzChecks", unfollowed := true, recurses := true, plainKeys := false, apart := false, narrowed := true }
def LzChecksUptoSaid : Prop := lzChecksUptoRow.holds Try.pinned (OpenSpec.upto lzChecksSpec)

/-- 'sapperlaw07.LzParses', WHERE WHAT IT READS IS OF BULK AT MOST 1048576: true; the input reads as it did. -/
def lzParsesUptoRow : OpenClaim := { program := "ytbfdokklhdmmoaa", sum := "52444057117b7589f335c311dcf9c2dcadc997138f028ffbe6b5fe98c87a675e", func := "sapper/sapperlaw07.LzParses", spec := "lzParses", unfollowed := true, recurses := true, plainKeys := false, apart := false, narrowed := true }
def LzParsesUptoSaid : Prop := lzParsesUptoRow.holds Try.pinned (OpenSpec.upto lzParsesSpec)

/-- 'sapperlaw07.LzBack', WHERE WHAT IT READS IS OF BULK AT MOST 1048576: true; the input reads as it did. -/
def lzBackUptoRow : OpenClaim := { program := "ytbfdokklhdmmoaa", sum := "52444057117b7589f335c311dcf9c2dcadc997138f028ffbe6b5fe98c87a675e", func := "sapper/sapperlaw07.LzBack", spec := "lzBack", unfollowed := true, recurses := true, plainKeys := false, apart := false, narrowed := true }
def LzBackUptoSaid : Prop := lzBackUptoRow.holds Try.pinned (OpenSpec.upto lzBackSpec)

/-- 'sapperlaw07.LzBegins', WHERE WHAT IT READS IS OF BULK AT MOST 1048576: true; the input reads as it did. -/
def lzBeginsUptoRow : OpenClaim := { program := "ytbfdokklhdmmoaa", sum := "52444057117b7589f335c311dcf9c2dcadc997138f028ffbe6b5fe98c87a675e", func := "sapper/sapperlaw07.LzBegins", spec := "lzBegins", unfollowed := true, recurses := true, plainKeys := false, apart := false, narrowed := true }
def LzBeginsUptoSaid : Prop := lzBeginsUptoRow.holds Try.pinned (OpenSpec.upto lzBeginsSpec)

/-- 'sapperlaw07.LzBests', WHERE WHAT IT READS IS OF BULK AT MOST 1048576: true; the input reads as it did. -/
def lzBestsUptoRow : OpenClaim := { program := "ytbfdokklhdmmoaa", sum := "52444057117b7589f335c311dcf9c2dcadc997138f028ffbe6b5fe98c87a675e", func := "sapper/sapperlaw07.LzBests", spec := "lzBests", unfollowed := true, recurses := true, plainKeys := false, apart := false, narrowed := true }
def LzBestsUptoSaid : Prop := lzBestsUptoRow.holds Try.pinned (OpenSpec.upto lzBestsSpec)

/-- 'sapperlaw07.LzCheapests', WHERE WHAT IT READS IS OF BULK AT MOST 1048576: true; the input reads as it did. -/
def lzCheapestsUptoRow : OpenClaim := { program := "ytbfdokklhdmmoaa", sum := "52444057117b7589f335c311dcf9c2dcadc997138f028ffbe6b5fe98c87a675e", func := "sapper/sapperlaw07.LzCheapests", spec := "lzCheapests", unfollowed := true, recurses := true, plainKeys := false, apart := false, narrowed := true }
def LzCheapestsUptoSaid : Prop := lzCheapestsUptoRow.holds Try.pinned (OpenSpec.upto lzCheapestsSpec)

/-- 'sapperlaw07.LzLeast', WHERE WHAT IT READS IS OF BULK AT MOST 1048576: true; the input reads as it did. -/
def lzLeastUptoRow : OpenClaim := { program := "ytbfdokklhdmmoaa", sum := "52444057117b7589f335c311dcf9c2dcadc997138f028ffbe6b5fe98c87a675e", func := "sapper/sapperlaw07.LzLeast", spec := "lzLeast", unfollowed := true, recurses := true, plainKeys := false, apart := false, narrowed := true }
def LzLeastUptoSaid : Prop := lzLeastUptoRow.holds Try.pinned (OpenSpec.upto lzLeastSpec)

end Rows
end Go.Proofs.Ytbfdokklhdmmoaa
