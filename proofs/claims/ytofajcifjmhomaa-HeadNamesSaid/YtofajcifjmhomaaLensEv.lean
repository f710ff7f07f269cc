/- The lengths, by a reckoning that runs: plain. No condition. -/
import Derived.Test.YtofajcifjmhomaaLensP
set_option linter.unusedVariables false
set_option linter.unusedSimpArgs false
set_option maxRecDepth 100000
namespace Go.Proofs.Ytofajcifjmhomaa.Lens
open Go.RowKit Go.Proofs.Ytofajcifjmhomaa.Lib Go.Proofs.Ytofajcifjmhomaa.Ints Go.Proofs.Ytofajcifjmhomaa.Sorts Go.Proofs.Ytofajcifjmhomaa.Sort Go.Proofs.Ytofajcifjmhomaa.Pm Go.Proofs.Ytofajcifjmhomaa.Num

/- The lengths, by a reckoning that runs: plain. No condition. -/
def mgE : Nat → List T → List T → List T
  | 0, _, _ => []
  | k + 1, [], b => b
  | k + 1, a, [] => a
  | k + 1, x :: a, y :: b => if x.wt ≤ y.wt then x :: mgE k a (y :: b) else y :: mgE k (x :: a) b
theorem mgE_eq : ∀ (k : Nat) (a b : List T), a.length + b.length < k → mgE k a b = mg a b
  | k + 1, [], b, _ => by rw [mg_nil]; rfl
  | k + 1, x :: a, [], _ => by rw [mg_nil']; rfl
  | k + 1, x :: a, y :: b, h => by
    rw [mgE]
    simp only [List.length_cons] at h
    by_cases hxy : x.wt ≤ y.wt
    · rw [if_pos hxy, mg_le _ _ hxy, mgE_eq k a (y :: b) (by simp; omega)]
    · rw [if_neg hxy, mg_gt _ _ hxy, mgE_eq k (x :: a) b (by simp; omega)]
def rowE (L : List T) : Nat → List T
  | 0 => L
  | j + 1 => mgE (L.length + (pk (rowE L j)).length + 1) L (pk (rowE L j))
theorem rowE_eq (L : List T) : ∀ j, rowE L j = row L j
  | 0 => rfl
  | j + 1 => by rw [rowE, row, mgE_eq _ _ _ (by omega), rowE_eq L j]
def lenE (limit : Nat) (fs : List Int) (s : Nat) : Nat :=
  if (lvs fs).length = 1 then cl (lvs fs) s else cl ((rowE (lvs fs) (limit - 1)).take (2 * (lvs fs).length - 2)) s
theorem lenE_eq (limit : Nat) (fs : List Int) (s : Nat) : lenOf limit fs s = lenE limit fs s := by unfold lenOf lenE; rw [rowE_eq]
def lensE (limit : Int) (fs : List Int) : List Int × Int :=
  if limit < 1 ∨ 15 < limit then ([], 1) else if cn fs ≠ 0 then ([], cn fs) else if 2 ^ limit.toNat < (lvs fs).length then ([], 41) else ((List.range fs.length).map fun s => (lenE limit.toNat fs s : Int), 0)
theorem lensE_eq (limit : Int) (fs : List Int) : lensN limit fs = lensE limit fs := by unfold lensN lensE; simp only [lenE_eq]
end Go.Proofs.Ytofajcifjmhomaa.Lens
