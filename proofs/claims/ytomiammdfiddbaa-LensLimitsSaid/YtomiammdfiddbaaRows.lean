/-
  No cell of these rows narrows 'for every input' (looked for: loops, veiled, ifaces, maps, wideKeys, modest, calm, conditions, laid).
  DERIVED. THE GIVEN ROWS OF THIS SEAT. 8 by the template 'for every input the law returns true; each argument reads behind the call as it read before'; 0 by the template 'total and deterministic' (their statements: YtomiammdfiddbaaTotals.lean).
  GIVEN WITH THE SEED: the statements are not yours to turn. If you find one false, say at which input.
  Laid BY PROGRAM, IN A SANDBOX (cutbox-rows.mjs): the forced cells as the released guide's own fill.sh prints them over the translation f028fb9205e9ef78… (all of the seat's roots in one cut). By AI agents, Wed Nov 11 2026. No macro, syntax, notation, axiom, sorry.
-/
import Derived.Test.YtomiammdfiddbaaChecked
import GoSem.Claim
import GoSem.ClaimJoined
import GoSem.ClaimMapViews
import Derived.JoinedTies
import Derived.KernelRfl
namespace Go.Proofs.Ytomiammdfiddbaa
/- THE CELL 'sum', in the pinned program and in every row, IS THE sha256 OF THE DUMP (.gsa) THAT YtomiammdfiddbaaProg.lean LOADS. Nothing in Lean hashes anything: it is a label: what it is worth is what the hold of that sum in a sandbox is worth. -/
noncomputable def Try.pinned : Pinned := { name := "ytomiammdfiddbaa", sum := "f028fb9205e9ef7849596c0c6a24f06805a5086a35bc8e8a09abebd8b37b50ba", checked := Try.checked }
namespace Rows
def none {H : Type} : Left H := { results := [], args := [] }

/-- 'sapperlaw04.LensCosts': WHATEVER THE INPUT: true; the input reads as it did. -/
def lensCostsSpec : ChangeSpec := { name := "lensCosts", fn := fun _ => fun
  | [d1, d2] => { results := [.lit (.bool true)], args := [d1, d2] }
  | _ => none }
def lensCostsRow : OpenClaim := { program := "ytomiammdfiddbaa", sum := "f028fb9205e9ef7849596c0c6a24f06805a5086a35bc8e8a09abebd8b37b50ba", func := "sapper/sapperlaw04.LensCosts", spec := "lensCosts", apart := false }
def LensCostsSaid : Prop := lensCostsRow.holds Try.pinned (OpenSpec.ofChange lensCostsSpec)

/-- ITS FALSE NEIGHBOUR: 'it returns false'. Refute it at one input. -/
def lensCostsWrong : ChangeSpec := { name := "lensCosts", fn := fun _ => fun
  | [d1, d2] => { results := [.lit (.bool false)], args := [d1, d2] }
  | _ => none }
def LensCostsWrongFalsely : Prop := lensCostsRow.holds Try.pinned (OpenSpec.ofChange lensCostsWrong)

/-- 'sapperlaw04.LensLeast': WHATEVER THE INPUT: true; the input reads as it did. -/
def lensLeastSpec : ChangeSpec := { name := "lensLeast", fn := fun _ => fun
  | [d] => { results := [.lit (.bool true)], args := [d] }
  | _ => none }
def lensLeastRow : OpenClaim := { program := "ytomiammdfiddbaa", sum := "f028fb9205e9ef7849596c0c6a24f06805a5086a35bc8e8a09abebd8b37b50ba", func := "sapper/sapperlaw04.LensLeast", spec := "lensLeast", unfollowed := true, recurses := true, apart := false }
def LensLeastSaid : Prop := lensLeastRow.holds Try.pinned (OpenSpec.ofChange lensLeastSpec)

/-- ITS FALSE NEIGHBOUR: 'it returns false'. Refute it at one input. -/
def lensLeastWrong : ChangeSpec := { name := "lensLeast", fn := fun _ => fun
  | [d] => { results := [.lit (.bool false)], args := [d] }
  | _ => none }
def LensLeastWrongFalsely : Prop := lensLeastRow.holds Try.pinned (OpenSpec.ofChange lensLeastWrong)

/-- 'sapperlaw04.LensLengths': WHATEVER THE INPUT: true; the input reads as it did. -/
def lensLengthsSpec : ChangeSpec := { name := "lensLengths", fn := fun _ => fun
  | [d1, d2] => { results := [.lit (.bool true)], args := [d1, d2] }
  | _ => none }
def lensLengthsRow : OpenClaim := { program := "ytomiammdfiddbaa", sum := "f028fb9205e9ef7849596c0c6a24f06805a5086a35bc8e8a09abebd8b37b50ba", func := "sapper/sapperlaw04.LensLengths", spec := "lensLengths", unfollowed := true, recurses := true, apart := false }
def LensLengthsSaid : Prop := lensLengthsRow.holds Try.pinned (OpenSpec.ofChange lensLengthsSpec)

/-- ITS FALSE NEIGHBOUR: 'it returns false'. Refute it at one input. -/
def lensLengthsWrong : ChangeSpec := { name := "lensLengths", fn := fun _ => fun
  | [d1, d2] => { results := [.lit (.bool false)], args := [d1, d2] }
  | _ => none }
def LensLengthsWrongFalsely : Prop := lensLengthsRow.holds Try.pinned (OpenSpec.ofChange lensLengthsWrong)

/-- 'sapperlaw04.LensWhole': WHATEVER THE INPUT: true; the input reads as it did. -/
def lensWholeSpec : ChangeSpec := { name := "lensWhole", fn := fun _ => fun
  | [d1, d2] => { results := [.lit (.bool true)], args := [d1, d2] }
  | _ => none }
def lensWholeRow : OpenClaim := { program := "ytomiammdfiddbaa", sum := "f028fb9205e9ef7849596c0c6a24f06805a5086a35bc8e8a09abebd8b37b50ba", func := "sapper/sapperlaw04.LensWhole", spec := "lensWhole", unfollowed := true, recurses := true, apart := false }
def LensWholeSaid : Prop := lensWholeRow.holds Try.pinned (OpenSpec.ofChange lensWholeSpec)

/-- ITS FALSE NEIGHBOUR: 'it returns false'. Refute it at one input. -/
def lensWholeWrong : ChangeSpec := { name := "lensWhole", fn := fun _ => fun
  | [d1, d2] => { results := [.lit (.bool false)], args := [d1, d2] }
  | _ => none }
def LensWholeWrongFalsely : Prop := lensWholeRow.holds Try.pinned (OpenSpec.ofChange lensWholeWrong)

/-- 'sapperlaw04.LensBest': WHATEVER THE INPUT: true; the input reads as it did. -/
def lensBestSpec : ChangeSpec := { name := "lensBest", fn := fun _ => fun
  | [d1, d2, d3] => { results := [.lit (.bool true)], args := [d1, d2, d3] }
  | _ => none }
def lensBestRow : OpenClaim := { program := "ytomiammdfiddbaa", sum := "f028fb9205e9ef7849596c0c6a24f06805a5086a35bc8e8a09abebd8b37b50ba", func := "sapper/sapperlaw04.LensBest", spec := "lensBest", unfollowed := true, recurses := true, apart := false }
def LensBestSaid : Prop := lensBestRow.holds Try.pinned (OpenSpec.ofChange lensBestSpec)

/-- ITS FALSE NEIGHBOUR: 'it returns false'. Refute it at one input. -/
def lensBestWrong : ChangeSpec := { name := "lensBest", fn := fun _ => fun
  | [d1, d2, d3] => { results := [.lit (.bool false)], args := [d1, d2, d3] }
  | _ => none }
def LensBestWrongFalsely : Prop := lensBestRow.holds Try.pinned (OpenSpec.ofChange lensBestWrong)

/-- 'sapperlaw04.LensOrder': WHATEVER THE INPUT: true; the input reads as it did. -/
def lensOrderSpec : ChangeSpec := { name := "lensOrder", fn := fun _ => fun
  | [d1, d2] => { results := [.lit (.bool true)], args := [d1, d2] }
  | _ => none }
def lensOrderRow : OpenClaim := { program := "ytomiammdfiddbaa", sum := "f028fb9205e9ef7849596c0c6a24f06805a5086a35bc8e8a09abebd8b37b50ba", func := "sapper/sapperlaw04.LensOrder", spec := "lensOrder", unfollowed := true, recurses := true, apart := false }
def LensOrderSaid : Prop := lensOrderRow.holds Try.pinned (OpenSpec.ofChange lensOrderSpec)

/-- ITS FALSE NEIGHBOUR: 'it returns false'. Refute it at one input. -/
def lensOrderWrong : ChangeSpec := { name := "lensOrder", fn := fun _ => fun
  | [d1, d2] => { results := [.lit (.bool false)], args := [d1, d2] }
  | _ => none }
def LensOrderWrongFalsely : Prop := lensOrderRow.holds Try.pinned (OpenSpec.ofChange lensOrderWrong)

/-- 'sapperlaw04.LensNames': WHATEVER THE INPUT: true; the input reads as it did. -/
def lensNamesSpec : ChangeSpec := { name := "lensNames", fn := fun _ => fun
  | [] => { results := [.lit (.bool true)], args := [] }
  | _ => none }
def lensNamesRow : OpenClaim := { program := "ytomiammdfiddbaa", sum := "f028fb9205e9ef7849596c0c6a24f06805a5086a35bc8e8a09abebd8b37b50ba", func := "sapper/sapperlaw04.LensNames", spec := "lensNames", unfollowed := true, recurses := true, apart := false }
def LensNamesSaid : Prop := lensNamesRow.holds Try.pinned (OpenSpec.ofChange lensNamesSpec)

/-- ITS FALSE NEIGHBOUR: 'it returns false'. Refute it at one input. -/
def lensNamesWrong : ChangeSpec := { name := "lensNames", fn := fun _ => fun
  | [] => { results := [.lit (.bool false)], args := [] }
  | _ => none }
def LensNamesWrongFalsely : Prop := lensNamesRow.holds Try.pinned (OpenSpec.ofChange lensNamesWrong)

/-- 'sapperlaw04.LensLimits': WHATEVER THE INPUT: true; the input reads as it did. -/
def lensLimitsSpec : ChangeSpec := { name := "lensLimits", fn := fun _ => fun
  | [d1, d2] => { results := [.lit (.bool true)], args := [d1, d2] }
  | _ => none }
def lensLimitsRow : OpenClaim := { program := "ytomiammdfiddbaa", sum := "f028fb9205e9ef7849596c0c6a24f06805a5086a35bc8e8a09abebd8b37b50ba", func := "sapper/sapperlaw04.LensLimits", spec := "lensLimits", unfollowed := true, recurses := true, apart := false }
def LensLimitsSaid : Prop := lensLimitsRow.holds Try.pinned (OpenSpec.ofChange lensLimitsSpec)

/-- ITS FALSE NEIGHBOUR: 'it returns false'. Refute it at one input. -/
def lensLimitsWrong : ChangeSpec := { name := "lensLimits", fn := fun _ => fun
  | [d1, d2] => { results := [.lit (.bool false)], args := [d1, d2] }
  | _ => none }
def LensLimitsWrongFalsely : Prop := lensLimitsRow.holds Try.pinned (OpenSpec.ofChange lensLimitsWrong)

/- THE SECOND FORM. 'bulk': how many values and letters a reading holds, each counted each time it is reached (what is shared counts as often as it is met; a slice's spare places count too). A statement '..UptoSaid' is the law's where the arguments, and the package variables that the reading takes, are together of bulk at most 1048576: NARROWER than '..Said'. Prove '..Said' where nothing that the law and all that it calls make is longer than what came in: it says more and counts as full. Else prove '..UptoSaid'. A law counts once. -/
mutual
def uptoBulk {H : Type} : DataW H → Nat
  | .lit (.string bytes) => bytes.length + 1
  | .lit _ => 1
  | .nil => 1
  | .ptr d => uptoBulk d + 1
  | .slice elems spare => uptoBulkAll elems + uptoBulkAll spare + 1
  | .agg parts => uptoBulkAll parts + 1
  | .iface _ d => uptoBulk d + 1
  | .map entries => uptoBulkEntries entries + 1
  | .held _ => 1
def uptoBulkAll {H : Type} : List (DataW H) → Nat
  | [] => 0
  | d :: r => uptoBulk d + uptoBulkAll r
def uptoBulkEntries {H : Type} : List (Lit × DataW H) → Nat
  | [] => 0
  | x :: r => uptoBulkEntry x + uptoBulkEntries r
def uptoBulkEntry {H : Type} : Lit × DataW H → Nat
  | (.string bytes, d) => bytes.length + uptoBulk d + 1
  | (_, d) => uptoBulk d + 1
 end
def uptoSmall : (H : Type) → List (DataW H) → Bool := fun _ ds => decide (uptoBulkAll ds ≤ 1048576)
def OpenSpec.upto (s : _root_.Go.ChangeSpec) : _root_.Go.OpenSpec := { _root_.Go.OpenSpec.ofChange s with cond := some uptoSmall }

/-- 'sapperlaw04.LensCosts', WHERE WHAT IT READS IS OF BULK AT MOST 1048576: true; the input reads as it did. -/
def lensCostsUptoRow : OpenClaim := { program := "ytomiammdfiddbaa", sum := "f028fb9205e9ef7849596c0c6a24f06805a5086a35bc8e8a09abebd8b37b50ba", func := "sapper/sapperlaw04.LensCosts", spec := "lensCosts", apart := false, narrowed := true }
def LensCostsUptoSaid : Prop := lensCostsUptoRow.holds Try.pinned (OpenSpec.upto lensCostsSpec)

/-- 'sapperlaw04.LensLeast', WHERE WHAT IT READS IS OF BULK AT MOST 1048576: true; the input reads as it did. -/
def lensLeastUptoRow : OpenClaim := { program := "ytomiammdfiddbaa", sum := "f028fb9205e9ef7849596c0c6a24f06805a5086a35bc8e8a09abebd8b37b50ba", func := "sapper/sapperlaw04.LensLeast", spec := "lensLeast", unfollowed := true, recurses := true, apart := false, narrowed := true }
def LensLeastUptoSaid : Prop := lensLeastUptoRow.holds Try.pinned (OpenSpec.upto lensLeastSpec)

/-- 'sapperlaw04.LensLengths', WHERE WHAT IT READS IS OF BULK AT MOST 1048576: true; the input reads as it did. -/
def lensLengthsUptoRow : OpenClaim := { program := "ytomiammdfiddbaa", sum := "f028fb9205e9ef7849596c0c6a24f06805a5086a35bc8e8a09abebd8b37b50ba", func := "sapper/sapperlaw04.LensLengths", spec := "lensLengths", unfollowed := true, recurses := true, apart := false, narrowed := true }
def LensLengthsUptoSaid : Prop := lensLengthsUptoRow.holds Try.pinned (OpenSpec.upto lensLengthsSpec)

/-- 'sapperlaw04.LensWhole', WHERE WHAT IT READS IS OF BULK AT MOST 1048576: true; the input reads as it did. -/
def lensWholeUptoRow : OpenClaim := { program := "ytomiammdfiddbaa", sum := "f028fb9205e9ef7849596c0c6a24f06805a5086a35bc8e8a09abebd8b37b50ba", func := "sapper/sapperlaw04.LensWhole", spec := "lensWhole", unfollowed := true, recurses := true, apart := false, narrowed := true }
def LensWholeUptoSaid : Prop := lensWholeUptoRow.holds Try.pinned (OpenSpec.upto lensWholeSpec)

/-- 'sapperlaw04.LensBest', WHERE WHAT IT READS IS OF BULK AT MOST 1048576: true; the input reads as it did. -/
def lensBestUptoRow : OpenClaim := { program := "ytomiammdfiddbaa", sum := "f028fb9205e9ef7849596c0c6a24f06805a5086a35bc8e8a09abebd8b37b50ba", func := "sapper/sapperlaw04.LensBest", spec := "lensBest", unfollowed := true, recurses := true, apart := false, narrowed := true }
def LensBestUptoSaid : Prop := lensBestUptoRow.holds Try.pinned (OpenSpec.upto lensBestSpec)

/-- 'sapperlaw04.LensOrder', WHERE WHAT IT READS IS OF BULK AT MOST 1048576: true; the input reads as it did. -/
def lensOrderUptoRow : OpenClaim := { program := "ytomiammdfiddbaa", sum := "f028fb9205e9ef7849596c0c6a24f06805a5086a35bc8e8a09abebd8b37b50ba", func := "sapper/sapperlaw04.LensOrder", spec := "lensOrder", unfollowed := true, recurses := true, apart := false, narrowed := true }
def LensOrderUptoSaid : Prop := lensOrderUptoRow.holds Try.pinned (OpenSpec.upto lensOrderSpec)

/-- 'sapperlaw04.LensNames', WHERE WHAT IT READS IS OF BULK AT MOST 1048576: true; the input reads as it did. -/
def lensNamesUptoRow : OpenClaim := { program := "ytomiammdfiddbaa", sum := "f028fb9205e9ef7849596c0c6a24f06805a5086a35bc8e8a09abebd8b37b50ba", func := "sapper/sapperlaw04.LensNames", spec := "lensNames", unfollowed := true, recurses := true, apart := false, narrowed := true }
def LensNamesUptoSaid : Prop := lensNamesUptoRow.holds Try.pinned (OpenSpec.upto lensNamesSpec)

/-- 'sapperlaw04.LensLimits', WHERE WHAT IT READS IS OF BULK AT MOST 1048576: true; the input reads as it did. -/
def lensLimitsUptoRow : OpenClaim := { program := "ytomiammdfiddbaa", sum := "f028fb9205e9ef7849596c0c6a24f06805a5086a35bc8e8a09abebd8b37b50ba", func := "sapper/sapperlaw04.LensLimits", spec := "lensLimits", unfollowed := true, recurses := true, apart := false, narrowed := true }
def LensLimitsUptoSaid : Prop := lensLimitsUptoRow.holds Try.pinned (OpenSpec.upto lensLimitsSpec)

end Rows
end Go.Proofs.Ytomiammdfiddbaa
