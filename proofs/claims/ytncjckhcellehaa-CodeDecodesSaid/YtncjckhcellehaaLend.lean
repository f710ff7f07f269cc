/- sapperref01's Lend and Kept. Conditions: fewer than 2^47 bytes. -/
import Derived.Test.YtncjckhcellehaaMem
set_option maxRecDepth 100000
set_option linter.unusedVariables false
set_option linter.unusedSimpArgs false
namespace Go.Proofs.Ytncjckhcellehaa.Bits
open Go.RowKit Go.Proofs.Ytncjckhcellehaa.Lib Go.Proofs.Ytncjckhcellehaa.Num

def lendTail : List Int := [171, 172, 173, 174, 175]
theorem u8s_app (xs ys : List Int) : u8s (xs ++ ys) = u8s xs ++ u8s ys := by simp [u8s]
theorem u8s_one (xs : List Int) : ∀ u ∈ u8s xs, u.oneCell' = true := by intro u hu; simp only [u8s, List.mem_map] at hu; obtain ⟨_, _, rfl⟩ := hu; rfl
theorem lend_range {xs : List Int} (hx : ∀ x ∈ xs, 0 ≤ x ∧ x ≤ 255) : ∀ x ∈ xs ++ lendTail, 0 ≤ x ∧ x ≤ 255 := by
  intro x h
  rcases List.mem_append.1 h with h | h
  · exact hx x h
  · simp [lendTail] at h; omega

end Go.Proofs.Ytncjckhcellehaa.Bits
