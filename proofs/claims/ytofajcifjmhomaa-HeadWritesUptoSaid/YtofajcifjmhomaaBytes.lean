/- Plain facts on a number's bytes, the lowest first. No condition. -/
import Derived.Test.YtofajcifjmhomaaNum
set_option maxRecDepth 100000
set_option linter.unusedVariables false
set_option linter.unusedSimpArgs false
namespace Go.Proofs.Ytofajcifjmhomaa.Num
open Go.RowKit

/-- the bytes of a number of n bits -/
def bytesOf (N n : Nat) : List Int := (List.range ((n + 7) / 8)).map fun j => ((N / 2 ^ (8 * j) % 256 : Nat) : Int)
theorem bytesOf_length (N n : Nat) : (bytesOf N n).length = (n + 7) / 8 := by simp [bytesOf]
theorem bytesOf_get {N n j : Nat} (h : j < (n + 7) / 8) : (bytesOf N n)[j]? = some ((N / 2 ^ (8 * j) % 256 : Nat) : Int) := by
  simp [bytesOf, h]
theorem bytesOf_range {N n : Nat} : ∀ x ∈ bytesOf N n, 0 ≤ x ∧ x ≤ 255 := by
  intro x hx
  simp only [bytesOf, List.mem_map, List.mem_range] at hx
  obtain ⟨j, _, rfl⟩ := hx
  omega
/-- the bytes, and one more where the last is full -/
def pre (N m : Nat) : List Int := bytesOf N m ++ if m % 8 = 0 then [0] else []
theorem pre_length (N m : Nat) : (pre N m).length = m / 8 + 1 := by
  unfold pre
  split <;> simp [bytesOf_length] <;> omega
theorem top_lt {N m : Nat} (hN : N < 2 ^ m) : N / 2 ^ (8 * (m / 8)) < 2 ^ (m % 8) := by
  rw [Nat.div_lt_iff_lt_mul (Nat.two_pow_pos _), ← Nat.pow_add]
  rwa [show m % 8 + 8 * (m / 8) = m from by omega]
theorem top_lt8 {N m : Nat} (hN : N < 2 ^ m) : N / 2 ^ (8 * (m / 8)) < 256 := by
  have h := top_lt hN
  have : 2 ^ (m % 8) ≤ 2 ^ 8 := Nat.pow_le_pow_right (by decide) (by omega)
  omega
theorem pre_get {N m : Nat} (hN : N < 2 ^ m) : (pre N m)[m / 8]? = some ((N / 2 ^ (8 * (m / 8)) : Nat) : Int) := by
  unfold pre
  by_cases h : m % 8 = 0
  · rw [if_pos h, List.getElem?_append_right (by simp [bytesOf_length]; omega)]
    have := top_lt hN
    rw [h] at this
    simp at this
    rw [show m / 8 - (bytesOf N m).length = 0 from by simp [bytesOf_length]; omega]
    simp only [List.getElem?_cons_zero]
    have h0 : N / 2 ^ (8 * (m / 8)) = 0 := by rw [Nat.div_eq_zero_iff]; right; exact this
    rw [h0]; rfl
  · rw [if_neg h, List.append_nil, bytesOf_get (by omega), Nat.mod_eq_of_lt (top_lt8 hN)]
theorem pre_low {N m j : Nat} (h : j < m / 8) : (pre N m)[j]? = some ((N / 2 ^ (8 * j) % 256 : Nat) : Int) := by
  unfold pre
  rw [List.getElem?_append_left (by rw [bytesOf_length]; omega), bytesOf_get (by omega)]
theorem low_same {N m x j : Nat} (h : j < m / 8) : (N + x * 2 ^ m) / 2 ^ (8 * j) % 256 = N / 2 ^ (8 * j) % 256 := by
  have e : x * 2 ^ m = (x * 2 ^ (m - 8 * j - 8) * 256) * 2 ^ (8 * j) := by
    rw [show (256 : Nat) = 2 ^ 8 from rfl, Nat.mul_assoc, Nat.mul_assoc, ← Nat.pow_add, ← Nat.pow_add]
    congr 2; omega
  rw [e, Nat.add_mul_div_right _ _ (Nat.two_pow_pos _)]
  omega
theorem top_new {N m x : Nat} : (N + x * 2 ^ m) / 2 ^ (8 * (m / 8)) = N / 2 ^ (8 * (m / 8)) + x * 2 ^ (m % 8) := by
  have e : x * 2 ^ m = (x * 2 ^ (m % 8)) * 2 ^ (8 * (m / 8)) := by
    rw [Nat.mul_assoc, ← Nat.pow_add]
    congr 2; omega
  rw [e, Nat.add_mul_div_right _ _ (Nat.two_pow_pos _)]
theorem top_new_lt {N m x k : Nat} (hN : N < 2 ^ m) (hx : x < 2 ^ k) (hk : m % 8 + k ≤ 8) : N / 2 ^ (8 * (m / 8)) + x * 2 ^ (m % 8) < 256 := by
  have h := top_lt hN
  have h2 : (x + 1) * 2 ^ (m % 8) ≤ 2 ^ k * 2 ^ (m % 8) := Nat.mul_le_mul_right _ hx
  rw [← Nat.pow_add] at h2
  have h3 : 2 ^ (k + m % 8) ≤ 2 ^ 8 := Nat.pow_le_pow_right (by decide) (by omega)
  rw [Nat.add_mul] at h2
  omega
theorem pre_set {N m x k : Nat} (hN : N < 2 ^ m) (h1 : 1 ≤ k) (hk : m % 8 + k ≤ 8) (hx : x < 2 ^ k) :
    (pre N m).set (m / 8) ((N / 2 ^ (8 * (m / 8)) + x * 2 ^ (m % 8) : Nat) : Int) = bytesOf (N + x * 2 ^ m) (m + k) := by
  apply List.ext_getElem?
  intro j
  rw [List.getElem?_set]
  by_cases hj : m / 8 = j
  · subst hj
    rw [if_pos rfl, if_pos (by rw [pre_length]; omega), bytesOf_get (by omega), top_new, Nat.mod_eq_of_lt (top_new_lt hN hx hk)]
  · rw [if_neg hj]
    by_cases hlt : j < m / 8
    · rw [pre_low hlt, bytesOf_get (by omega), low_same hlt]
    · rw [List.getElem?_eq_none (by rw [pre_length]; omega), List.getElem?_eq_none (by rw [bytesOf_length]; omega)]
/-- what Go reckons for the byte -/
theorem byte_or {N m x y k : Nat} (hN : N < 2 ^ m) (hx : x = y % 2 ^ k) (hy : y < 2 ^ 64) (hk : m % 8 + k ≤ 8) :
    Go.bits .or .u8 ((N / 2 ^ (8 * (m / 8)) : Nat) : Int) (Go.bits .and .u64 (y : Int) (IntKind.u64.wrap (IntKind.u64.wrap (2 ^ k) - 1)) % 256 * 2 ^ (m % 8) % 256) = ((N / 2 ^ (8 * (m / 8)) + x * 2 ^ (m % 8) : Nat) : Int) := by
  have hp : (2 : Nat) ^ k ≤ 2 ^ 8 := Nat.pow_le_pow_right (by decide) (by omega)
  have hp0 := Nat.two_pow_pos k
  have hx' : x < 2 ^ k := by rw [hx]; exact Nat.mod_lt _ hp0
  have e1 : IntKind.u64.wrap (IntKind.u64.wrap (2 ^ k) - 1) = ((2 ^ k - 1 : Nat) : Int) := by
    rw [← pow_cast, n64id (n := ((2 ^ k : Nat) : Int)) (by omega) (by omega), show ((2 ^ k : Nat) : Int) - 1 = ((2 ^ k - 1 : Nat) : Int) from by omega]
    exact n64id (by omega) (by omega)
  rw [e1, n64mask hy (by omega), ← hx]
  have ht := top_new_lt hN hx' hk
  have ht1 : x * 2 ^ (m % 8) < 256 := Nat.lt_of_le_of_lt (Nat.le_add_left _ _) ht
  have ht2 : N / 2 ^ (8 * (m / 8)) < 256 := top_lt8 hN
  have e2 : ((x : Nat) : Int) % 256 * 2 ^ (m % 8) % 256 = ((x * 2 ^ (m % 8) : Nat) : Int) := by
    rw [← pow_cast]
    have : ((x : Nat) : Int) % 256 = (x : Int) := by omega
    rw [this, ← Int.natCast_mul]; omega
  rw [e2, n8or (a := N / 2 ^ (8 * (m / 8))) (b := x * 2 ^ (m % 8)) (by omega) (by omega), or_add (top_lt hN)]
theorem grow_lt {N m x k : Nat} (hN : N < 2 ^ m) (hx : x < 2 ^ k) : N + x * 2 ^ m < 2 ^ (m + k) := by
  have h2 : (x + 1) * 2 ^ m ≤ 2 ^ k * 2 ^ m := Nat.mul_le_mul_right _ hx
  rw [← Nat.pow_add, Nat.add_mul, Nat.add_comm k m] at h2
  omega
/-- the low bits, some more of them -/
theorem mod_more (v i k : Nat) : v % 2 ^ (i + k) = v % 2 ^ i + v / 2 ^ i % 2 ^ k * 2 ^ i := by
  rw [Nat.pow_add, Nat.mod_mul, Nat.mul_comm (2 ^ i)]

/-- bytes as one number, the lowest first -/
def valB : List Int → Nat
  | [] => 0
  | x :: xs => x.toNat + 256 * valB xs
theorem valB_lt {xs : List Int} (h : ∀ x ∈ xs, 0 ≤ x ∧ x ≤ 255) : valB xs < 2 ^ (8 * xs.length) := by
  induction xs with
  | nil => simp [valB]
  | cons x xs ih =>
    have hx := h x (by simp)
    have := ih fun y hy => h y (by simp [hy])
    rw [valB, List.length_cons, Nat.mul_add, Nat.pow_add, show 2 ^ (8 * 1) = 256 from rfl]
    omega
theorem valB_get {xs : List Int} (h : ∀ x ∈ xs, 0 ≤ x ∧ x ≤ 255) : ∀ t, t < xs.length → xs[t]? = some ((valB xs / 2 ^ (8 * t) % 256 : Nat) : Int) := by
  induction xs with
  | nil => intro t ht; simp at ht
  | cons x xs ih =>
    intro t ht
    have hx := h x (by simp)
    cases t with
    | zero =>
      simp only [List.getElem?_cons_zero, valB, Nat.mul_zero, Nat.pow_zero, Nat.div_one]
      congr 1; omega
    | succ t =>
      rw [List.getElem?_cons_succ, ih (fun y hy => h y (by simp [hy])) t (by simpa using ht)]
      congr 2
      rw [valB, Nat.mul_add, Nat.add_comm (8 * t), Nat.pow_add, show 2 ^ (8 * 1) = 256 from rfl, ← Nat.div_div_eq_div_mul]
      congr 2
      omega
theorem bytes_app {N m : Nat} {xs : List Int} (hN : N < 2 ^ m) (h8 : m % 8 = 0) (h : ∀ x ∈ xs, 0 ≤ x ∧ x ≤ 255) :
    bytesOf N m ++ xs = bytesOf (N + valB xs * 2 ^ m) (m + 8 * xs.length) := by
  apply List.ext_getElem?
  intro j
  by_cases hj : j < m / 8
  · rw [List.getElem?_append_left (by rw [bytesOf_length]; omega), bytesOf_get (by omega), bytesOf_get (by omega), low_same hj]
  · rw [List.getElem?_append_right (by rw [bytesOf_length]; omega), bytesOf_length]
    by_cases hl : j - m / 8 < xs.length
    · rw [bytesOf_get (by omega), show j - (m + 7) / 8 = j - m / 8 from by omega, valB_get h _ hl]
      congr 3
      rw [show 8 * j = m + 8 * (j - m / 8) from by omega, Nat.pow_add, ← Nat.div_div_eq_div_mul, Nat.add_mul_div_right _ _ (Nat.two_pow_pos _), Nat.div_eq_of_lt hN, Nat.zero_add]
    · rw [List.getElem?_eq_none (by omega), List.getElem?_eq_none (by rw [bytesOf_length]; omega)]
theorem valB_snoc (xs : List Int) (x : Int) : valB (xs ++ [x]) = valB xs + x.toNat * 2 ^ (8 * xs.length) := by
  induction xs with
  | nil => simp [valB]
  | cons y ys ih =>
    rw [List.cons_append, valB, valB, ih, List.length_cons, Nat.mul_add 8, Nat.pow_add, show 2 ^ (8 * 1) = 256 from rfl, Nat.mul_add, ← Nat.mul_assoc, Nat.add_assoc]
    congr 2
    rw [Nat.mul_comm 256, Nat.mul_assoc, Nat.mul_comm 256]
theorem valB_take (xs : List Int) (j : Nat) (h : j < xs.length) : valB (xs.take (j + 1)) = valB (xs.take j) + (xs[j]).toNat * 2 ^ (8 * j) := by
  rw [List.take_succ_eq_append_getElem h, valB_snoc, List.length_take, Nat.min_eq_left (by omega)]
/-- what Go reckons for the reader's bits -/
theorem bits_or {V b x : Nat} (hV : V < 2 ^ b) (hx : x ≤ 255) (hb : b + 8 ≤ 64) :
    Go.bits .or .u64 (V : Int) (IntKind.u64.wrap ((x : Int) * 2 ^ b)) = ((V + x * 2 ^ b : Nat) : Int) := by
  have h1 : (x + 1) * 2 ^ b ≤ 2 ^ 8 * 2 ^ b := Nat.mul_le_mul_right _ (by omega)
  rw [← Nat.pow_add] at h1
  have h2 : 2 ^ (8 + b) ≤ 18446744073709551616 := pow_le_64 (by omega)
  have h3 : 2 ^ b ≤ 18446744073709551616 := pow_le_64 (by omega)
  have h0 := Nat.two_pow_pos b
  rw [Nat.add_mul] at h1
  rw [← pow_cast, ← Int.natCast_mul, n64id (by omega) (by omega), n64or (a := V) (b := x * 2 ^ b) (by simp; omega) (by simp; omega), or_add hV]
end Go.Proofs.Ytofajcifjmhomaa.Num
