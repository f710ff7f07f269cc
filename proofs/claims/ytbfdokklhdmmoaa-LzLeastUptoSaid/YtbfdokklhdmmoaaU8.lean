/- Lists of bytes. No condition. -/
import Derived.Test.YtbfdokklhdmmoaaProg
import Derived.Test.YtbfdokklhdmmoaaLib
import Derived.Test.YtbfdokklhdmmoaaNum
import Derived.BigRegion
import Derived.BigQuiet
import Derived.Deep.QuietTactic
import Derived.Deep.LoopGhost
import Derived.Deep.DeepCutAuto
import Derived.KernelRfl
import Derived.Deep.RegionLaw
import Derived.Outline
set_option linter.unusedVariables false
set_option linter.unusedSimpArgs false
namespace Go.Proofs.Ytbfdokklhdmmoaa.Bits
open Go.RowKit Go.Proofs.Ytbfdokklhdmmoaa.Lib Go.Proofs.Ytbfdokklhdmmoaa.Num

theorem infoU8 : (Try.prog.info? 5).map (fun i => (i.zero, i.size, i.bytes)) = some (some (.int .u8 0), 1, 1) := by kernel_rfl
def u8s (xs : List Int) : List Value := xs.map (Value.int .u8)
theorem u8s_length (xs : List Int) : (u8s xs).length = xs.length := by simp [u8s]
theorem u8s_get (xs : List Int) (j : Nat) : (u8s xs)[j]? = (xs[j]?).map (Value.int .u8) := by simp [u8s]
end Go.Proofs.Ytbfdokklhdmmoaa.Bits
