/- Plain facts on numbers and bits: what Go's operations on whole numbers come to, as natural numbers. No condition. -/
import Derived.WalkKit
import Derived.Laws.BitsLemmas
import Derived.OpenShut
set_option maxRecDepth 100000
namespace Go.Proofs.Ytofajcifjmhomaa.Num
open Go.RowKit

theorem wrap64_id {n : Int} (h0 : -9223372036854775808 ≤ n) (h1 : n ≤ 9223372036854775807) : wrap64 n = n := by unfold wrap64; omega
theorem n64id {n : Int} (h0 : 0 ≤ n) (h1 : n < 18446744073709551616) : IntKind.u64.wrap n = n := IntWalk.u64_in n ⟨h0, by omega⟩
theorem n64nat (n : Nat) : IntKind.u64.wrap (n : Int) = ((n % 18446744073709551616 : Nat) : Int) := by
  rw [IntKind.wrap_u64]; omega
theorem n64wraps (n : Int) (h₀ : 0 ≤ n) (h₁ : n < 2 ^ 64) : IntKind.u64.wrap n = n := n64id h₀ (by simpa using h₁)
theorem n64and {a b : Nat} (ha : a < 2 ^ 64) (hb : b < 2 ^ 64) : Go.bits .and .u64 a b = ((a &&& b : Nat) : Int) := (bits_nat .u64 64 (by decide) n64wraps a b ha hb).1
theorem n64or {a b : Nat} (ha : a < 2 ^ 64) (hb : b < 2 ^ 64) : Go.bits .or .u64 a b = ((a ||| b : Nat) : Int) := (bits_nat .u64 64 (by decide) n64wraps a b ha hb).2
theorem n64and1 {a : Nat} (ha : a < 2 ^ 64) : Go.bits .and .u64 a 1 = ((a % 2 : Nat) : Int) := by
  have := n64and (b := 1) ha (by decide)
  rw [Nat.and_one_is_mod] at this
  exact_mod_cast this
theorem n64mask {a n : Nat} (ha : a < 2 ^ 64) (hn : n ≤ 64) : Go.bits .and .u64 a ((2 ^ n - 1 : Nat) : Int) = ((a % 2 ^ n : Nat) : Int) := by
  have h : 2 ^ n - 1 < 2 ^ 64 := Nat.lt_of_lt_of_le (Nat.sub_lt (Nat.two_pow_pos n) (by decide)) (Nat.pow_le_pow_right (by decide) hn)
  rw [n64and ha h, Nat.and_two_pow_sub_one_eq_mod]
theorem n8or {a b : Nat} (ha : a < 2 ^ 8) (hb : b < 2 ^ 8) : Go.bits .or .u8 a b = ((a ||| b : Nat) : Int) := (bits_nat .u8 8 (by decide) wraps_u8 a b ha hb).2
theorem n8and {a b : Nat} (ha : a < 2 ^ 8) (hb : b < 2 ^ 8) : Go.bits .and .u8 a b = ((a &&& b : Nat) : Int) := (bits_nat .u8 8 (by decide) wraps_u8 a b ha hb).1
theorem or_add {a b i : Nat} (ha : a < 2 ^ i) : a ||| b * 2 ^ i = a + b * 2 ^ i := by
  rw [Nat.mul_comm b, Nat.or_comm, ← Nat.two_pow_add_eq_or_of_lt ha, Nat.add_comm]
theorem pow_cast (n : Nat) : ((2 ^ n : Nat) : Int) = 2 ^ n := by simp
theorem div_cast (a n : Nat) : (a : Int) / 2 ^ n = ((a / 2 ^ n : Nat) : Int) := by simp
theorem pow_le_64 {n : Nat} (h : n ≤ 64) : 2 ^ n ≤ 18446744073709551616 := by
  have := Nat.pow_le_pow_right (n := 2) (by decide) h
  simpa using this
theorem pow_lt_64 {n : Nat} (h : n < 64) : 2 ^ n < 18446744073709551616 := by
  have := Nat.pow_lt_pow_right (a := 2) (by decide) h
  simpa using this

/-- A number's n low bits turned about. -/
def rv (x : Nat) : Nat → Nat
  | 0 => 0
  | n + 1 => 2 * rv x n + x / 2 ^ n % 2
theorem rv_lt (x n : Nat) : rv x n < 2 ^ n := by
  induction n with
  | zero => simp [rv]
  | succ n ih => simp only [rv, Nat.pow_succ]; omega
theorem rv_bit (x n : Nat) : ∀ i, (rv x n).testBit i = (decide (i < n) && x.testBit (n - 1 - i)) := by
  induction n with
  | zero => intro i; simp [rv]
  | succ n ih =>
    intro i
    cases i with
    | zero =>
      rw [Nat.testBit_zero, rv, show (2 * rv x n + x / 2 ^ n % 2) % 2 = x / 2 ^ n % 2 from by omega]
      simp [Nat.testBit_eq_decide_div_mod_eq]
    | succ i =>
      rw [Nat.testBit_succ, rv, show (2 * rv x n + x / 2 ^ n % 2) / 2 = rv x n from by omega, ih]
      by_cases h : i < n
      · simp [h, show n - 1 - i = n - (i + 1) from by omega]
      · simp [h]
theorem rv_mod (x n i : Nat) (h : i ≤ n) : rv (x % 2 ^ n) i = rv x i := by
  induction i with
  | zero => rfl
  | succ i ih =>
    rw [rv, rv, ih (by omega)]
    congr 1
    have := Nat.testBit_mod_two_pow x n i
    rw [Nat.testBit_eq_decide_div_mod_eq, Nat.testBit_eq_decide_div_mod_eq] at this
    simp only [show i < n from h, decide_true, Bool.true_and, decide_eq_decide] at this
    omega
theorem rv_rv (x n : Nat) : rv (rv x n) n = x % 2 ^ n := by
  refine Nat.eq_of_testBit_eq fun i => ?_
  rw [rv_bit, rv_bit, Nat.testBit_mod_two_pow]
  by_cases h : i < n
  · simp [h, show n - 1 - i < n from by omega, show n - 1 - (n - 1 - i) = i from by omega]
  · simp [h]
/-- The lowest i bits of it, added up. -/
def low (x n : Nat) : Nat → Nat
  | 0 => 0
  | i + 1 => low x n i + (x / 2 ^ (n - 1 - i) % 2) * 2 ^ i
theorem low_eq (x n i : Nat) (h : i ≤ n) : low x n i = rv x n % 2 ^ i := by
  induction i with
  | zero => simp [low, Nat.mod_one]
  | succ i ih =>
    rw [low, ih (by omega)]
    have h1 := rv_bit x n i
    rw [Nat.testBit_eq_decide_div_mod_eq, Nat.testBit_eq_decide_div_mod_eq] at h1
    simp only [show i < n from h, decide_true, Bool.true_and, decide_eq_decide] at h1
    have h2 : x / 2 ^ (n - 1 - i) % 2 = rv x n / 2 ^ i % 2 := by omega
    rw [h2, Nat.pow_succ, Nat.mod_mul]
    rw [Nat.mul_comm (2 ^ i)]
end Go.Proofs.Ytofajcifjmhomaa.Num
