/- What is laid down is taken up. Plain Lean, no condition. -/
import Derived.Test.YtlfckpmdmkccjaaCodePlain4
import Derived.Test.YtlfckpmdmkccjaaCodePlain6
import Derived.Test.YtlfckpmdmkccjaaBackNum
set_option maxRecDepth 100000
set_option linter.unusedVariables false
set_option linter.unusedSimpArgs false
namespace Go.Proofs.Ytlfckpmdmkccjaa.Code
open Go.Proofs.Ytlfckpmdmkccjaa.Num

theorem bit_same {V R M i : Nat} (h : V % 2 ^ M = R % 2 ^ M) (hi : i < M) : V / 2 ^ i % 2 = R / 2 ^ i % 2 := by
  have low : ∀ X : Nat, X % 2 ^ M / 2 ^ i % 2 = X / 2 ^ i % 2 := by
    intro X
    have e : 2 ^ M = 2 ^ i * 2 ^ (M - i) := by rw [← Nat.pow_add]; congr 1; omega
    rw [e, Nat.mod_mul_right_div_self]
    exact Nat.mod_mod_of_dvd _ (by
      have : 2 ^ 1 ∣ 2 ^ (M - i) := Nat.pow_dvd_pow 2 (by omega)
      simpa using this)
  rw [← low V, ← low R, h]
theorem rv_div {cd n i : Nat} (hi : i < n) : rv cd n / 2 ^ i % 2 = cd / 2 ^ (n - 1 - i) % 2 := by
  have h := rv_bit cd n i
  rw [decide_eq_true hi, Bool.true_and, Nat.testBit_eq_decide_div_mod_eq, Nat.testBit_eq_decide_div_mod_eq] at h
  have h1 : rv cd n / 2 ^ i % 2 < 2 := Nat.mod_lt _ (by omega)
  have h2 : cd / 2 ^ (n - 1 - i) % 2 < 2 := Nat.mod_lt _ (by omega)
  by_cases e : rv cd n / 2 ^ i % 2 = 1
  · rw [decide_eq_true e] at h
    have := of_decide_eq_true h.symm
    omega
  · rw [decide_eq_false e] at h
    have := of_decide_eq_false h.symm
    omega
theorem nextF_code {F : Nat → Nat} {k V h n cd : Nat} (hn : n ≤ 15) (hb : ∀ i, i < h → i < n → V / 2 ^ i % 2 = cd / 2 ^ (n - 1 - i) % 2) (h1 : firstF F n ≤ cd) (h2 : cd < firstF F n + F n) (hk : usedF F n < k) : ∀ f l, l + f = 16 → 1 ≤ l → l ≤ n → nextF F k V h f l (2 * (cd / 2 ^ (n - l + 1))) = if h < n then (0, 0, 0) else (1, usedF F n + (cd - firstF F n), n)
  | 0, l, hlf, hl, hln => by omega
  | f + 1, l, hlf, hl, hln => by
    simp only [nextF]
    by_cases hh : h < l
    · rw [if_pos hh, if_pos (by omega)]
    · rw [if_neg hh]
      have hc : 2 * (cd / 2 ^ (n - l + 1)) + V / 2 ^ (l - 1) % 2 = cd / 2 ^ (n - l) := by
        rw [hb (l - 1) (by omega) (by omega), show n - 1 - (l - 1) = n - l from by omega, Nat.pow_succ, ← Nat.div_div_eq_div_mul]
        omega
      rw [hc]
      by_cases e : l = n
      · subst e
        rw [Nat.sub_self, Nat.pow_zero, Nat.div_one, if_pos h2, if_neg hh]
      · have hf := first_ge F l (n - l - 1)
        rw [show l + (n - l - 1 + 1) = n from by omega, show n - l - 1 + 1 = n - l from by omega] at hf
        have hge : firstF F l + F l ≤ cd / 2 ^ (n - l) := by
          rw [Nat.le_div_iff_mul_le (Nat.pow_pos (by omega))]
          omega
        have hu : usedF F (l + 1) ≤ usedF F n := usedF_mono (by omega)
        have hu2 : usedF F (l + 1) = usedF F l + F l := rfl
        rw [if_neg (by omega), if_neg (by omega)]
        have ih := nextF_code hn hb h1 h2 hk f (l + 1) (by omega) (by omega) (by omega)
        rw [show n - (l + 1) + 1 = n - l from by omega] at ih
        exact ih
/-- a symbol whose code the bits begin with, as far as they are there -/
theorem next_code {lens : List Int} {S : Nat → Nat} {V h : Nat} {s : Int} {n cd : Nat} (hc : check lens = 0) (hS : SymOk lens S) (hn : n = bitsOf lens s) (hn0 : n ≠ 0) (hcd : cd = codeOf lens s) (hV : V % 2 ^ (min h n) = rv cd n % 2 ^ (min h n)) :
    ∃ j, next (cz lens) (used lens) V h = (if h < n then (0, 0, 0) else (1, j, n)) ∧ ((S j : Nat) : Int) = s := by
  obtain ⟨k1, k2, k3, k4, k5, k6⟩ := bitsOf_fits hc (s := s) (by rw [← hn]; exact hn0)
  rw [← hn] at k3 k4 k5
  rw [← hcd] at k3 k6
  obtain ⟨i, rfl⟩ := Int.eq_ofNat_of_zero_le k1
  rw [Int.toNat_natCast] at k5 k6
  obtain ⟨hi, hie⟩ := List.getElem?_eq_some_iff.mp k5
  obtain ⟨c2, a1, a2, a3, a4⟩ := code_fits hc hi hie (by omega)
  rw [k6] at a1
  cases a1
  have hr := cnt_take_lt hi hie
  have hz : cz lens n = cnt lens n := by unfold cz; rw [if_neg (by omega)]
  have hkl := kk_lt hi hie (by omega) k4
  refine ⟨usedF (cz lens) n + (cd - firstF (cz lens) n), ?_, ?_⟩
  · unfold next
    rw [if_neg (by omega)]
    have hb : ∀ i, i < h → i < n → V / 2 ^ i % 2 = cd / 2 ^ (n - 1 - i) % 2 := fun i h1 h2 => by rw [bit_same hV (by omega), rv_div h2]
    have := nextF_code (F := cz lens) (k := used lens) k4 hb (by omega) (by omega) (by omega) 15 1 rfl (by omega) (by omega)
    rw [show n - 1 + 1 = n from by omega, Nat.div_eq_of_lt k3] at this
    exact this
  · have := hS i hi n hie (by omega)
    rw [show usedF (cz lens) n + (cd - firstF (cz lens) n) = usedF (cz lens) n + cnt (lens.take i) n from by omega, this]
/-- a symbol's bits -/
def part (lens : List Int) (s : Int) : Nat × Nat := (rv (codeOf lens s) (bitsOf lens s), bitsOf lens s)
theorem part_lt (lens : List Int) (l : List Int) : ∀ p ∈ l.map (part lens), p.1 < 2 ^ p.2 := by
  intro p hp
  obtain ⟨s, _, rfl⟩ := List.mem_map.1 hp
  exact rv_lt _ _
end Go.Proofs.Ytlfckpmdmkccjaa.Code
