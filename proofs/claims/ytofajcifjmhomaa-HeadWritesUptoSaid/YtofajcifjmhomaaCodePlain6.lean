/- No code begins another one's. Plain Lean, no condition. -/
import Derived.Test.YtofajcifjmhomaaCodePlain5
set_option maxRecDepth 100000
set_option linter.unusedVariables false
set_option linter.unusedSimpArgs false
namespace Go.Proofs.Ytofajcifjmhomaa.Code

theorem first_ge (f : Nat → Nat) (n : Nat) : ∀ j, (firstF f n + f n) * 2 ^ (j + 1) ≤ firstF f (n + (j + 1))
  | 0 => by simp [firstF]
  | j + 1 => by
    have ih := first_ge f n j
    have e : firstF f (n + (j + 1 + 1)) = (firstF f (n + (j + 1)) + f (n + (j + 1))) * 2 := rfl
    rw [e, Nat.pow_succ, ← Nat.mul_assoc]
    omega
theorem rank_lt {lens : List Int} {i k v : Nat} (hik : i < k) (hi : i < lens.length) (h : lens[i] = (v : Int)) : cnt (lens.take i) v < cnt (lens.take k) v := by
  have h1 := cnt_take hi h
  have h2 := cnt_take_mono lens v (show i + 1 ≤ k by omega)
  rw [h1] at h2
  unfold upd at h2
  rw [if_pos rfl] at h2
  omega
theorem rank_inj {lens : List Int} {i k v : Nat} (hne : k ≠ i) (hi : i < lens.length) (hk : k < lens.length) (h1 : lens[i] = (v : Int)) (h2 : lens[k] = (v : Int)) : cnt (lens.take k) v ≠ cnt (lens.take i) v := by
  rcases Nat.lt_or_gt_of_ne hne with h | h
  · have := rank_lt h hk h2; omega
  · have := rank_lt h hi h1; omega
/-- a code of n bits does not begin another of m -/
theorem prefix_free {lens : List Int} (hc : check lens = 0) {i k n m ci ck : Nat} (hne : k ≠ i) (hi : i < lens.length) (hk : k < lens.length) (h1 : lens[i] = (n : Int)) (h2 : lens[k] = (m : Int)) (hn : 0 < n) (hmn : n ≤ m) (hci : (codes lens)[i]? = some ci) (hck : (codes lens)[k]? = some ck) : ck / 2 ^ (m - n) ≠ ci := by
  obtain ⟨c1, a1, a2, a3, a4⟩ := code_fits hc hi h1 hn
  obtain ⟨c2, b1, b2, b3, b4⟩ := code_fits hc hk h2 (by omega)
  rw [hci] at a1
  rw [hck] at b1
  cases a1
  cases b1
  by_cases e : m = n
  · subst e
    rw [Nat.sub_self, Nat.pow_zero, Nat.div_one, a2, b2]
    have := rank_inj hne hi hk h1 h2
    omega
  · obtain ⟨j, rfl⟩ : ∃ j, m = n + (j + 1) := ⟨m - n - 1, by omega⟩
    have hf := first_ge (cz lens) n j
    have hr := cnt_take_lt hi h1
    have hz : cz lens n = cnt lens n := by unfold cz; rw [if_neg (by omega)]
    have hlt : firstF (cz lens) n + cz lens n ≤ ck / 2 ^ (j + 1) := by
      rw [Nat.le_div_iff_mul_le (Nat.pow_pos (by omega))]
      omega
    rw [show n + (j + 1) - n = j + 1 from by omega]
    omega
theorem check_tail {lens : List Int} (hc : check lens = 0) : spaceR lens = space lens ∧ (spaceR lens = 32768 ∨ usedR lens = 0 ∨ (usedR lens = 1 ∧ spaceR lens = 16384)) := by
  have hb := (check_zero hc).1
  refine ⟨spaceR_eq lens (bad_false hb).2, ?_⟩
  have h := hc
  rw [← checkR_eq] at h
  unfold checkR at h
  rw [if_neg (by rw [hb]; simp)] at h
  split at h
  · cases h
  · split at h
    · assumption
    · cases h
end Go.Proofs.Ytofajcifjmhomaa.Code
