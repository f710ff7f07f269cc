/-
  No cell of these rows narrows 'for every input' (looked for: loops, veiled, ifaces, maps, wideKeys, modest, calm, conditions, laid).
  DERIVED. THE GIVEN ROWS OF THIS SEAT. 7 by the template 'for every input the law returns true; each argument reads behind the call as it read before'; 0 by the template 'total and deterministic' (their statements: YtpblcbfjlmekeaaTotals.lean).
  GIVEN WITH THE SEED: the statements are not yours to turn. If you find one false, say at which input.
  Laid BY PROGRAM, IN A SANDBOX (cutbox-rows.mjs): the forced cells as the released guide's own fill.sh prints them over the translation 6d9ca864bd77a0f9… (all of the seat's roots in one cut). By AI agents, Wed Nov 11 2026. No macro, syntax, notation, axiom, sorry.
-/
import Derived.Test.YtpblcbfjlmekeaaChecked
import GoSem.Claim
import GoSem.ClaimJoined
import GoSem.ClaimMapViews
import Derived.JoinedTies
import Derived.KernelRfl
namespace Go.Proofs.Ytpblcbfjlmekeaa
/- THE CELL 'sum', in the pinned program and in every row, IS THE sha256 OF THE DUMP (.gsa) THAT YtpblcbfjlmekeaaProg.lean LOADS. Nothing in Lean hashes anything: it is a label: what it is worth is what the hold of that sum in a sandbox is worth. -/
noncomputable def Try.pinned : Pinned := { name := "ytpblcbfjlmekeaa", sum := "6d9ca864bd77a0f972b52a977ee5ea11d62c5b149d6e99e14408ed12a903295d", checked := Try.checked }
namespace Rows
def none {H : Type} : Left H := { results := [], args := [] }

/-- 'sapperlaw03.BitsFlips': WHATEVER THE INPUT: true; the input reads as it did. -/
def bitsFlipsSpec : ChangeSpec := { name := "bitsFlips", fn := fun _ => fun
  | [d1, d2] => { results := [.lit (.bool true)], args := [d1, d2] }
  | _ => none }
def bitsFlipsRow : OpenClaim := { program := "ytpblcbfjlmekeaa", sum := "6d9ca864bd77a0f972b52a977ee5ea11d62c5b149d6e99e14408ed12a903295d", func := "sapper/sapperlaw03.BitsFlips", spec := "bitsFlips", apart := false }
def BitsFlipsSaid : Prop := bitsFlipsRow.holds Try.pinned (OpenSpec.ofChange bitsFlipsSpec)

/-- ITS FALSE NEIGHBOUR: 'it returns false'. Refute it at one input. -/
def bitsFlipsWrong : ChangeSpec := { name := "bitsFlips", fn := fun _ => fun
  | [d1, d2] => { results := [.lit (.bool false)], args := [d1, d2] }
  | _ => none }
def BitsFlipsWrongFalsely : Prop := bitsFlipsRow.holds Try.pinned (OpenSpec.ofChange bitsFlipsWrong)

/-- 'sapperlaw03.BitsNames': WHATEVER THE INPUT: true; the input reads as it did. -/
def bitsNamesSpec : ChangeSpec := { name := "bitsNames", fn := fun _ => fun
  | [] => { results := [.lit (.bool true)], args := [] }
  | _ => none }
def bitsNamesRow : OpenClaim := { program := "ytpblcbfjlmekeaa", sum := "6d9ca864bd77a0f972b52a977ee5ea11d62c5b149d6e99e14408ed12a903295d", func := "sapper/sapperlaw03.BitsNames", spec := "bitsNames", apart := false }
def BitsNamesSaid : Prop := bitsNamesRow.holds Try.pinned (OpenSpec.ofChange bitsNamesSpec)

/-- ITS FALSE NEIGHBOUR: 'it returns false'. Refute it at one input. -/
def bitsNamesWrong : ChangeSpec := { name := "bitsNames", fn := fun _ => fun
  | [] => { results := [.lit (.bool false)], args := [] }
  | _ => none }
def BitsNamesWrongFalsely : Prop := bitsNamesRow.holds Try.pinned (OpenSpec.ofChange bitsNamesWrong)

/-- 'sapperlaw03.BitsReads': WHATEVER THE INPUT: true; the input reads as it did. -/
def bitsReadsSpec : ChangeSpec := { name := "bitsReads", fn := fun _ => fun
  | [d] => { results := [.lit (.bool true)], args := [d] }
  | _ => none }
def bitsReadsRow : OpenClaim := { program := "ytpblcbfjlmekeaa", sum := "6d9ca864bd77a0f972b52a977ee5ea11d62c5b149d6e99e14408ed12a903295d", func := "sapper/sapperlaw03.BitsReads", spec := "bitsReads", apart := false }
def BitsReadsSaid : Prop := bitsReadsRow.holds Try.pinned (OpenSpec.ofChange bitsReadsSpec)

/-- ITS FALSE NEIGHBOUR: 'it returns false'. Refute it at one input. -/
def bitsReadsWrong : ChangeSpec := { name := "bitsReads", fn := fun _ => fun
  | [d] => { results := [.lit (.bool false)], args := [d] }
  | _ => none }
def BitsReadsWrongFalsely : Prop := bitsReadsRow.holds Try.pinned (OpenSpec.ofChange bitsReadsWrong)

/-- 'sapperlaw03.BitsBack': WHATEVER THE INPUT: true; the input reads as it did. -/
def bitsBackSpec : ChangeSpec := { name := "bitsBack", fn := fun _ => fun
  | [d1, d2] => { results := [.lit (.bool true)], args := [d1, d2] }
  | _ => none }
def bitsBackRow : OpenClaim := { program := "ytpblcbfjlmekeaa", sum := "6d9ca864bd77a0f972b52a977ee5ea11d62c5b149d6e99e14408ed12a903295d", func := "sapper/sapperlaw03.BitsBack", spec := "bitsBack", apart := false }
def BitsBackSaid : Prop := bitsBackRow.holds Try.pinned (OpenSpec.ofChange bitsBackSpec)

/-- ITS FALSE NEIGHBOUR: 'it returns false'. Refute it at one input. -/
def bitsBackWrong : ChangeSpec := { name := "bitsBack", fn := fun _ => fun
  | [d1, d2] => { results := [.lit (.bool false)], args := [d1, d2] }
  | _ => none }
def BitsBackWrongFalsely : Prop := bitsBackRow.holds Try.pinned (OpenSpec.ofChange bitsBackWrong)

/-- 'sapperlaw03.BitsWrites': WHATEVER THE INPUT: true; the input reads as it did. -/
def bitsWritesSpec : ChangeSpec := { name := "bitsWrites", fn := fun _ => fun
  | [d] => { results := [.lit (.bool true)], args := [d] }
  | _ => none }
def bitsWritesRow : OpenClaim := { program := "ytpblcbfjlmekeaa", sum := "6d9ca864bd77a0f972b52a977ee5ea11d62c5b149d6e99e14408ed12a903295d", func := "sapper/sapperlaw03.BitsWrites", spec := "bitsWrites", apart := false }
def BitsWritesSaid : Prop := bitsWritesRow.holds Try.pinned (OpenSpec.ofChange bitsWritesSpec)

/-- ITS FALSE NEIGHBOUR: 'it returns false'. Refute it at one input. -/
def bitsWritesWrong : ChangeSpec := { name := "bitsWrites", fn := fun _ => fun
  | [d] => { results := [.lit (.bool false)], args := [d] }
  | _ => none }
def BitsWritesWrongFalsely : Prop := bitsWritesRow.holds Try.pinned (OpenSpec.ofChange bitsWritesWrong)

/-- 'sapperlaw03.BitsSame': WHATEVER THE INPUT: true; the input reads as it did. -/
def bitsSameSpec : ChangeSpec := { name := "bitsSame", fn := fun _ => fun
  | [d1, d2, d3] => { results := [.lit (.bool true)], args := [d1, d2, d3] }
  | _ => none }
def bitsSameRow : OpenClaim := { program := "ytpblcbfjlmekeaa", sum := "6d9ca864bd77a0f972b52a977ee5ea11d62c5b149d6e99e14408ed12a903295d", func := "sapper/sapperlaw03.BitsSame", spec := "bitsSame", apart := false }
def BitsSameSaid : Prop := bitsSameRow.holds Try.pinned (OpenSpec.ofChange bitsSameSpec)

/-- ITS FALSE NEIGHBOUR: 'it returns false'. Refute it at one input. -/
def bitsSameWrong : ChangeSpec := { name := "bitsSame", fn := fun _ => fun
  | [d1, d2, d3] => { results := [.lit (.bool false)], args := [d1, d2, d3] }
  | _ => none }
def BitsSameWrongFalsely : Prop := bitsSameRow.holds Try.pinned (OpenSpec.ofChange bitsSameWrong)

/-- 'sapperlaw03.BitsMade': WHATEVER THE INPUT: true; the input reads as it did. -/
def bitsMadeSpec : ChangeSpec := { name := "bitsMade", fn := fun _ => fun
  | [d] => { results := [.lit (.bool true)], args := [d] }
  | _ => none }
def bitsMadeRow : OpenClaim := { program := "ytpblcbfjlmekeaa", sum := "6d9ca864bd77a0f972b52a977ee5ea11d62c5b149d6e99e14408ed12a903295d", func := "sapper/sapperlaw03.BitsMade", spec := "bitsMade", apart := false }
def BitsMadeSaid : Prop := bitsMadeRow.holds Try.pinned (OpenSpec.ofChange bitsMadeSpec)

/-- ITS FALSE NEIGHBOUR: 'it returns false'. Refute it at one input. -/
def bitsMadeWrong : ChangeSpec := { name := "bitsMade", fn := fun _ => fun
  | [d] => { results := [.lit (.bool false)], args := [d] }
  | _ => none }
def BitsMadeWrongFalsely : Prop := bitsMadeRow.holds Try.pinned (OpenSpec.ofChange bitsMadeWrong)

/- THE SECOND FORM. 'bulk': how many values and letters a reading holds, each counted each time it is reached (what is shared counts as often as it is met; a slice's spare places count too). A statement '..UptoSaid' is the law's where the arguments, and the package variables that the reading takes, are together of bulk at most 1048576: NARROWER than '..Said'. Prove '..Said' where nothing that the law and all that it calls make is longer than what came in: it says more and counts as full. Else prove '..UptoSaid'. A law counts once. -/
mutual
def uptoBulk {H : Type} : DataW H → Nat
  | .lit (.string bytes) => bytes.length + 1
  | .lit _ => 1
  | .nil => 1
  | .ptr d => uptoBulk d + 1
  | .slice elems spare => uptoBulkAll elems + uptoBulkAll spare + 1
  | .agg parts => uptoBulkAll parts + 1
  | .iface _ d => uptoBulk d + 1
  | .map entries => uptoBulkEntries entries + 1
  | .held _ => 1
def uptoBulkAll {H : Type} : List (DataW H) → Nat
  | [] => 0
  | d :: r => uptoBulk d + uptoBulkAll r
def uptoBulkEntries {H : Type} : List (Lit × DataW H) → Nat
  | [] => 0
  | x :: r => uptoBulkEntry x + uptoBulkEntries r
def uptoBulkEntry {H : Type} : Lit × DataW H → Nat
  | (.string bytes, d) => bytes.length + uptoBulk d + 1
  | (_, d) => uptoBulk d + 1
 end
def uptoSmall : (H : Type) → List (DataW H) → Bool := fun _ ds => decide (uptoBulkAll ds ≤ 1048576)
def OpenSpec.upto (s : _root_.Go.ChangeSpec) : _root_.Go.OpenSpec := { _root_.Go.OpenSpec.ofChange s with cond := some uptoSmall }

/-- 'sapperlaw03.BitsFlips', WHERE WHAT IT READS IS OF BULK AT MOST 1048576: true; the input reads as it did. -/
def bitsFlipsUptoRow : OpenClaim := { program := "ytpblcbfjlmekeaa", sum := "6d9ca864bd77a0f972b52a977ee5ea11d62c5b149d6e99e14408ed12a903295d", func := "sapper/sapperlaw03.BitsFlips", spec := "bitsFlips", apart := false, narrowed := true }
def BitsFlipsUptoSaid : Prop := bitsFlipsUptoRow.holds Try.pinned (OpenSpec.upto bitsFlipsSpec)

/-- 'sapperlaw03.BitsNames', WHERE WHAT IT READS IS OF BULK AT MOST 1048576: true; the input reads as it did. -/
def bitsNamesUptoRow : OpenClaim := { program := "ytpblcbfjlmekeaa", sum := "6d9ca864bd77a0f972b52a977ee5ea11d62c5b149d6e99e14408ed12a903295d", func := "sapper/sapperlaw03.BitsNames", spec := "bitsNames", apart := false, narrowed := true }
def BitsNamesUptoSaid : Prop := bitsNamesUptoRow.holds Try.pinned (OpenSpec.upto bitsNamesSpec)

/-- 'sapperlaw03.BitsReads', WHERE WHAT IT READS IS OF BULK AT MOST 1048576: true; the input reads as it did. -/
def bitsReadsUptoRow : OpenClaim := { program := "ytpblcbfjlmekeaa", sum := "6d9ca864bd77a0f972b52a977ee5ea11d62c5b149d6e99e14408ed12a903295d", func := "sapper/sapperlaw03.BitsReads", spec := "bitsReads", apart := false, narrowed := true }
def BitsReadsUptoSaid : Prop := bitsReadsUptoRow.holds Try.pinned (OpenSpec.upto bitsReadsSpec)

/-- 'sapperlaw03.BitsBack', WHERE WHAT IT READS IS OF BULK AT MOST 1048576: true; the input reads as it did. -/
def bitsBackUptoRow : OpenClaim := { program := "ytpblcbfjlmekeaa", sum := "6d9ca864bd77a0f972b52a977ee5ea11d62c5b149d6e99e14408ed12a903295d", func := "sapper/sapperlaw03.BitsBack", spec := "bitsBack", apart := false, narrowed := true }
def BitsBackUptoSaid : Prop := bitsBackUptoRow.holds Try.pinned (OpenSpec.upto bitsBackSpec)

/-- 'sapperlaw03.BitsWrites', WHERE WHAT IT READS IS OF BULK AT MOST 1048576: true; the input reads as it did. -/
def bitsWritesUptoRow : OpenClaim := { program := "ytpblcbfjlmekeaa", sum := "6d9ca864bd77a0f972b52a977ee5ea11d62c5b149d6e99e14408ed12a903295d", func := "sapper/sapperlaw03.BitsWrites", spec := "bitsWrites", apart := false, narrowed := true }
def BitsWritesUptoSaid : Prop := bitsWritesUptoRow.holds Try.pinned (OpenSpec.upto bitsWritesSpec)

/-- 'sapperlaw03.BitsSame', WHERE WHAT IT READS IS OF BULK AT MOST 1048576: true; the input reads as it did. -/
def bitsSameUptoRow : OpenClaim := { program := "ytpblcbfjlmekeaa", sum := "6d9ca864bd77a0f972b52a977ee5ea11d62c5b149d6e99e14408ed12a903295d", func := "sapper/sapperlaw03.BitsSame", spec := "bitsSame", apart := false, narrowed := true }
def BitsSameUptoSaid : Prop := bitsSameUptoRow.holds Try.pinned (OpenSpec.upto bitsSameSpec)

/-- 'sapperlaw03.BitsMade', WHERE WHAT IT READS IS OF BULK AT MOST 1048576: true; the input reads as it did. -/
def bitsMadeUptoRow : OpenClaim := { program := "ytpblcbfjlmekeaa", sum := "6d9ca864bd77a0f972b52a977ee5ea11d62c5b149d6e99e14408ed12a903295d", func := "sapper/sapperlaw03.BitsMade", spec := "bitsMade", apart := false, narrowed := true }
def BitsMadeUptoSaid : Prop := bitsMadeUptoRow.holds Try.pinned (OpenSpec.upto bitsMadeSpec)

end Rows
end Go.Proofs.Ytpblcbfjlmekeaa
