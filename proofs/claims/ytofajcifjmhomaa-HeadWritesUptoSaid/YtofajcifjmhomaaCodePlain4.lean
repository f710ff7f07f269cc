/- A symbol is taken up: what the decoder does, bit by bit. Plain Lean, no condition. -/
import Derived.Test.YtofajcifjmhomaaCodePlain3
set_option maxRecDepth 100000
set_option linter.unusedVariables false
set_option linter.unusedSimpArgs false
namespace Go.Proofs.Ytofajcifjmhomaa.Code

/-- (1, j, l): the symbol at place j, of l bits; (0, ..): more bits are wanted; (2, ..): no code begins so -/
def nextF (F : Nat → Nat) (k V h : Nat) : Nat → Nat → Nat → Nat × Nat × Nat
  | 0, _, _ => (2, 0, 0)
  | f + 1, l, c => if h < l then (0, 0, 0) else
      if c + V / 2 ^ (l - 1) % 2 < firstF F l + F l then (1, usedF F l + (c + V / 2 ^ (l - 1) % 2 - firstF F l), l)
      else if usedF F l + F l = k then (2, 0, 0) else nextF F k V h f (l + 1) (2 * (c + V / 2 ^ (l - 1) % 2))
def next (F : Nat → Nat) (k V h : Nat) : Nat × Nat × Nat := if k = 0 then (2, 0, 0) else nextF F k V h 15 1 0
theorem nextF_len (F : Nat → Nat) (k V h : Nat) : ∀ f l c, (nextF F k V h f l c).1 ≠ 1 → (nextF F k V h f l c).2.2 = 0
  | 0, l, c, _ => rfl
  | f + 1, l, c, hn => by
    simp only [nextF] at hn ⊢
    split
    · rfl
    · rename_i h1
      rw [if_neg h1] at hn
      split
      · rename_i h2; rw [if_pos h2] at hn; exact absurd rfl hn
      · rename_i h2
        rw [if_neg h2] at hn
        split
        · rfl
        · rename_i h3
          rw [if_neg h3] at hn
          exact nextF_len F k V h f (l + 1) _ hn
end Go.Proofs.Ytofajcifjmhomaa.Code
