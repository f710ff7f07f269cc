/- Lists of int: lend and Same, as the laws' packages have them. Conditions: fewer than 2^44 numbers. -/
import Derived.Test.YtlfckpmdmkccjaaProg
import Derived.Test.YtlfckpmdmkccjaaLib
import Derived.BigRegion
import Derived.BigQuiet
import Derived.Deep.QuietTactic
import Derived.Deep.LoopGhost
import Derived.Deep.DeepCutAuto
import Derived.KernelRfl
import Derived.Deep.RegionLaw
import Derived.Outline
set_option maxRecDepth 100000
set_option linter.unusedVariables false
set_option linter.unusedSimpArgs false
namespace Go.Proofs.Ytlfckpmdmkccjaa.Ints
open Go.RowKit Go.Proofs.Ytlfckpmdmkccjaa.Lib

theorem infoI64 : (Try.prog.info? 3).map (fun i => (i.zero, i.size, i.bytes)) = some (some (.int .i64 0), 1, 8) := by kernel_rfl
def i64s (xs : List Int) : List Value := xs.map (Value.int .i64)
theorem i64s_length (xs : List Int) : (i64s xs).length = xs.length := by simp [i64s]
theorem i64s_get (xs : List Int) (j : Nat) : (i64s xs)[j]? = (xs[j]?).map (Value.int .i64) := by simp [i64s]
theorem i64s_app (xs ys : List Int) : i64s (xs ++ ys) = i64s xs ++ i64s ys := by simp [i64s]
theorem i64s_one (xs : List Int) : ∀ u ∈ i64s xs, u.oneCell' = true := by intro u hu; simp only [i64s, List.mem_map] at hu; obtain ⟨_, _, rfl⟩ := hu; rfl
def tail4 : List Int := [71, 72, 73, 74]
end Go.Proofs.Ytlfckpmdmkccjaa.Ints
