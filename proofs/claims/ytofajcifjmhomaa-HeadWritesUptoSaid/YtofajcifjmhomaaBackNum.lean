/- Numbers of so many bits, one behind the other. No condition. -/
import Derived.Test.YtofajcifjmhomaaBytes
set_option maxRecDepth 100000
set_option linter.unusedVariables false
set_option linter.unusedSimpArgs false
namespace Go.Proofs.Ytofajcifjmhomaa.Num
open Go.RowKit

def numOf : List (Nat × Nat) → Nat
  | [] => 0
  | (x, n) :: r => x + numOf r * 2 ^ n
def totOf : List (Nat × Nat) → Nat
  | [] => 0
  | (_, n) :: r => n + totOf r
theorem totOf_app (l r : List (Nat × Nat)) : totOf (l ++ r) = totOf l + totOf r := by
  induction l with
  | nil => simp [totOf]
  | cons p l ih => obtain ⟨x, n⟩ := p; simp [totOf, ih, Nat.add_assoc]
theorem numOf_app (l r : List (Nat × Nat)) : numOf (l ++ r) = numOf l + numOf r * 2 ^ totOf l := by
  induction l with
  | nil => simp [numOf, totOf]
  | cons p l ih =>
    obtain ⟨x, n⟩ := p
    simp only [List.cons_append, numOf, totOf, ih, Nat.add_mul, Nat.pow_add, Nat.mul_assoc, Nat.add_assoc]
    rw [Nat.mul_comm (2 ^ totOf l)]
theorem numOf_lt {l : List (Nat × Nat)} (h : ∀ p ∈ l, p.1 < 2 ^ p.2) : numOf l < 2 ^ totOf l := by
  induction l with
  | nil => simp [numOf, totOf]
  | cons p l ih =>
    obtain ⟨x, n⟩ := p
    have h1 := h (x, n) (by simp)
    have h2 := ih fun q hq => h q (by simp [hq])
    simp only [numOf, totOf]
    exact grow_lt h1 h2
theorem numOf_drop {l : List (Nat × Nat)} (h : ∀ p ∈ l, p.1 < 2 ^ p.2) (k : Nat) : numOf l / 2 ^ totOf (l.take k) = numOf (l.drop k) := by
  conv => lhs; rw [← List.take_append_drop k l, numOf_app]
  have hl : numOf (l.take k) < 2 ^ totOf (l.take k) := numOf_lt fun p hp => h p (List.mem_of_mem_take hp)
  have e : (List.take k (l.take k ++ l.drop k)) = l.take k := by rw [List.take_append_drop]
  rw [e, Nat.add_mul_div_right _ _ (Nat.two_pow_pos _), Nat.div_eq_of_lt hl, Nat.zero_add]
theorem numOf_head {l : List (Nat × Nat)} {k : Nat} (hk : k < l.length) (h : ∀ p ∈ l, p.1 < 2 ^ p.2) : numOf (l.drop k) % 2 ^ (l[k]).2 = (l[k]).1 := by
  rw [List.drop_eq_getElem_cons hk]
  have := h l[k] (List.getElem_mem _)
  generalize l[k] = p at *
  obtain ⟨x, n⟩ := p
  simp only [numOf]
  rw [Nat.add_mul_mod_self_right, Nat.mod_eq_of_lt this]
theorem totOf_take {l : List (Nat × Nat)} {k : Nat} (hk : k < l.length) : totOf (l.take (k + 1)) = totOf (l.take k) + (l[k]).2 := by
  rw [List.take_succ_eq_append_getElem hk, totOf_app]
  generalize l[k] = p
  obtain ⟨x, n⟩ := p
  simp [totOf]
theorem numOf_take {l : List (Nat × Nat)} {k : Nat} (hk : k < l.length) : numOf (l.take (k + 1)) = numOf (l.take k) + (l[k]).1 * 2 ^ totOf (l.take k) := by
  rw [List.take_succ_eq_append_getElem hk, numOf_app]
  generalize l[k] = p
  obtain ⟨x, n⟩ := p
  simp [numOf]
theorem totOf_take_le (l : List (Nat × Nat)) (k : Nat) : totOf (l.take k) ≤ totOf l := by
  conv => rhs; rw [← List.take_append_drop k l, totOf_app]
  omega
theorem totOf_le {l : List (Nat × Nat)} (h : ∀ p ∈ l, p.2 ≤ 56) : totOf l ≤ 56 * l.length := by
  induction l with
  | nil => simp [totOf]
  | cons p l ih =>
    obtain ⟨x, n⟩ := p
    have h1 := h (x, n) (by simp)
    have h2 := ih fun q hq => h q (by simp [hq])
    simp only [totOf, List.length_cons]
    omega
theorem mod_div (a h n : Nat) (hn : n ≤ h) : a % 2 ^ h / 2 ^ n = a / 2 ^ n % 2 ^ (h - n) := by
  obtain ⟨d, rfl⟩ := Nat.exists_eq_add_of_le hn
  rw [Nat.add_sub_cancel_left, Nat.pow_add, Nat.mod_mul_right_div_self]
theorem mod_mod (a h n : Nat) (hn : n ≤ h) : a % 2 ^ h % 2 ^ n = a % 2 ^ n := Nat.mod_mod_of_dvd _ (Nat.pow_dvd_pow 2 hn)
/-- a piece of the bytes, as a number -/
theorem valB_piece (N n a : Nat) : ∀ m, a + m ≤ (n + 7) / 8 → valB (((bytesOf N n).drop a).take m) = N / 2 ^ (8 * a) % 2 ^ (8 * m)
  | 0, _ => by simp [valB, Nat.mod_one]
  | m + 1, h => by
    have hl : m < ((bytesOf N n).drop a).length := by simp [bytesOf_length]; omega
    rw [valB_take _ _ hl, valB_piece N n a m (by omega)]
    have hg : ((bytesOf N n).drop a)[m] = ((N / 2 ^ (8 * (a + m)) % 256 : Nat) : Int) := by
      have := bytesOf_get (N := N) (n := n) (j := a + m) (by omega)
      rw [List.getElem_drop]
      rw [List.getElem?_eq_some_iff] at this
      exact this.2
    rw [hg, Int.toNat_natCast, show 8 * (m + 1) = 8 * m + 8 from by omega, mod_more (N / 2 ^ (8 * a)) (8 * m) 8, Nat.div_div_eq_div_mul, ← Nat.pow_add, ← Nat.mul_add]
/-- a reader's bits and a piece more of the number -/
theorem more_bits (N t h m : Nat) : N / 2 ^ t % 2 ^ h + N / 2 ^ (t + h) % 2 ^ m * 2 ^ h = N / 2 ^ t % 2 ^ (h + m) := by
  rw [mod_more (N / 2 ^ t) h m, Nat.div_div_eq_div_mul, ← Nat.pow_add]

/-- a count of bits that goes at one time -/
def fitN (n : Int) : Nat := (n.tmod 57).natAbs
theorem fitN_le (n : Int) : fitN n ≤ 56 := by
  unfold fitN
  rw [Int.natAbs_tmod]
  have := Nat.mod_lt n.natAbs (show (57 : Int).natAbs > 0 by decide)
  have e : (57 : Int).natAbs = 57 := rfl
  omega
/-- a field: its number, its count, the highest first or not -/
structure Fld where
  V : Nat
  N : Int
  H : Bool
def Fld.cells (f : Fld) : List Value := [.int .u64 f.V, .int .i64 f.N, .bool f.H]
def Fld.low (f : Fld) : Nat := f.V % 2 ^ fitN f.N
def Fld.part (f : Fld) : Nat × Nat := (if f.H then rv f.low (fitN f.N) else f.low, fitN f.N)
theorem Fld.part_lt (f : Fld) : f.part.1 < 2 ^ f.part.2 := by
  unfold part
  split
  · exact rv_lt _ _
  · exact Nat.mod_lt _ (Nat.two_pow_pos _)
theorem parts_lt (l : List Fld) : ∀ p ∈ l.map Fld.part, p.1 < 2 ^ p.2 := by
  intro p hp
  obtain ⟨f, _, rfl⟩ := List.mem_map.1 hp
  exact f.part_lt
theorem parts_le (l : List Fld) : ∀ p ∈ l.map Fld.part, p.2 ≤ 56 := by
  intro p hp
  obtain ⟨f, _, rfl⟩ := List.mem_map.1 hp
  exact fitN_le _
/-- what Go reckons for the low bits -/
theorem low_bits {V n : Nat} (hV : V < 2 ^ 64) (hn : n ≤ 56) : Go.bits .and .u64 (V : Int) (IntKind.u64.wrap (IntKind.u64.wrap (2 ^ n) - 1)) = ((V % 2 ^ n : Nat) : Int) := by
  have hp := pow_lt_64 (n := n) (by omega)
  have hp0 := Nat.two_pow_pos n
  have e1 : IntKind.u64.wrap (IntKind.u64.wrap (2 ^ n) - 1) = ((2 ^ n - 1 : Nat) : Int) := by
    rw [← pow_cast, n64id (n := ((2 ^ n : Nat) : Int)) (by omega) (by omega), show ((2 ^ n : Nat) : Int) - 1 = ((2 ^ n - 1 : Nat) : Int) from by omega]
    exact n64id (by omega) (by omega)
  rw [e1, n64mask hV (by omega)]
end Go.Proofs.Ytofajcifjmhomaa.Num
