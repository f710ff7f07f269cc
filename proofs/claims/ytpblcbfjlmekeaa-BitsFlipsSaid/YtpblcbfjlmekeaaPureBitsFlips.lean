/- BitsFlips: whatever the number and the count, Flip answers as the document's, and twice is nothing. No condition. -/
import Derived.Test.YtpblcbfjlmekeaaPBitsFlipsx1
import Derived.Test.YtpblcbfjlmekeaaNum
namespace Go.Proofs.Ytpblcbfjlmekeaa.Pure
open Go.RowKit Go.Proofs.Ytpblcbfjlmekeaa.PBitsFlips Go.Proofs.YtpblcbfjlmekeaaW.PrintWords Go.Proofs.YtpblcbfjlmekeaaW.PrintLast Go.Proofs.YtpblcbfjlmekeaaW.PrintMore Go.Proofs.Ytpblcbfjlmekeaa.Num

theorem flip_loop (x n : Nat) (hx : x < 2 ^ 64) (hn : n ≤ 64) (d : Nat) : ∀ (k j : Nat), j ≤ n → n - j = d → d < k →
    bits_Flip.l0 k ((x / 2 ^ j : Nat) : Int) ((rv x j : Nat) : Int) n j = some ((rv x n : Nat) : Int) := by
  induction d with
  | zero =>
    intro k j h0 h1 hk
    obtain ⟨k, rfl⟩ : ∃ m, k = m + 1 := ⟨k - 1, by omega⟩
    obtain rfl : j = n := by omega
    simp only [bits_Flip.l0]; rw [if_neg (by omega)]
  | succ d ih =>
    intro k j h0 h1 hk
    obtain ⟨k, rfl⟩ : ∃ m, k = m + 1 := ⟨k - 1, by omega⟩
    simp only [bits_Flip.l0]; rw [if_pos (by omega)]
    have hr := rv_lt x j
    have hp := pow_lt_64 (n := j) (by omega)
    have hq : x / 2 ^ j < 2 ^ 64 := Nat.lt_of_le_of_lt (Nat.div_le_self _ _) hx
    have e1 : ((x / 2 ^ j : Nat) : Int) / 2 = ((x / 2 ^ (j + 1) : Nat) : Int) := by
      rw [Nat.pow_succ, ← Nat.div_div_eq_div_mul]; omega
    have e2 : IntKind.u64.wrap ((rv x j : Nat) * 2 : Int) = ((rv x j * 2 : Nat) : Int) := by
      by_cases hj : j < 63
      · have : 2 ^ (j + 1) ≤ 18446744073709551616 := pow_le_64 (by omega)
        rw [Nat.pow_succ] at this
        rw [n64id (by omega) (by omega)]; omega
      · have : j = 63 := by omega
        subst this
        have h63 : (2 : Nat) ^ 63 = 9223372036854775808 := by decide
        rw [n64id (by omega) (by omega)]; omega
    have e4 : rv x j * 2 < 2 ^ 64 := by
      have h := Nat.pow_le_pow_right (n := 2) (by decide) (show j + 1 ≤ 64 by omega)
      rw [Nat.pow_succ] at h; omega
    have e3 : Go.bits .or .u64 (IntKind.u64.wrap ((rv x j : Nat) * 2 : Int)) (Go.bits .and .u64 ((x / 2 ^ j : Nat) : Int) 1) = ((rv x (j + 1) : Nat) : Int) := by
      rw [e2, n64and1 hq, n64or e4 (by omega)]
      rw [Nat.or_comm, show rv x j * 2 = rv x j * 2 ^ 1 from by simp, or_add (show x / 2 ^ j % 2 < 2 ^ 1 by simp; omega), rv]
      simp; omega
    rw [e1, e3, wrap64_id (by omega) (by omega)]
    exact ih k (j + 1) (by omega) (by omega) (by omega)

theorem flip_any (x n : Nat) (a1 : Int) (hx : x < 2 ^ 64) (h : (n : Int) = mn (mx a1 0) 64) (k : Nat) (hk : 64 < k) : bits_Flip.f k (x : Int) a1 = some ((rv x n : Nat) : Int) := by
  unfold bits_Flip.f
  rw [← h]
  have hn : n ≤ 64 := by unfold mn at h; split at h <;> omega
  simpa [rv] using flip_loop x n hx hn n k 0 (by omega) (by omega) (by omega)

theorem ref_loop (x n : Nat) (hx : x < 2 ^ 64) (hn : n ≤ 64) (d : Nat) : ∀ (k i : Nat), i ≤ n → n - i = d → d < k →
    sapperref03_Flip.l0 k (x : Int) n ((low x n i : Nat) : Int) i = some ((rv x n : Nat) : Int) := by
  induction d with
  | zero =>
    intro k i h0 h1 hk
    obtain ⟨k, rfl⟩ : ∃ m, k = m + 1 := ⟨k - 1, by omega⟩
    obtain rfl : i = n := by omega
    simp only [sapperref03_Flip.l0]; rw [if_neg (by omega), low_eq _ _ _ (Nat.le_refl _), Nat.mod_eq_of_lt (rv_lt x i)]
  | succ d ih =>
    intro k i h0 h1 hk
    obtain ⟨k, rfl⟩ : ∃ m, k = m + 1 := ⟨k - 1, by omega⟩
    simp only [sapperref03_Flip.l0]; rw [if_pos (by omega)]
    have hw : wrap64 (wrap64 ((n : Int) - 1) - i) = ((n - 1 - i : Nat) : Int) := by
      rw [wrap64_id (n := (n : Int) - 1) (by omega) (by omega), wrap64_id (by omega) (by omega)]; omega
    rw [hw, if_pos (by omega)]
    have hs : shr .u64 (x : Int) ((n - 1 - i : Nat) : Int) = ((x / 2 ^ (n - 1 - i) : Nat) : Int) := by
      unfold shr
      rw [Nat.min_eq_left (by simp [IntKind.bits]; omega)]
      simp
    have hq : x / 2 ^ (n - 1 - i) < 2 ^ 64 := Nat.lt_of_le_of_lt (Nat.div_le_self _ _) hx
    have hl := low_eq x n i (by omega)
    have hl' := low_eq x n (i + 1) (by omega)
    have hlt : low x n (i + 1) < 2 ^ (i + 1) := by rw [hl']; exact Nat.mod_lt _ (Nat.two_pow_pos _)
    have hp : 2 ^ (i + 1) ≤ 18446744073709551616 := pow_le_64 (by omega)
    rw [hs, n64and1 hq, wrap64_id (n := (i : Int) + 1) (by omega) (by omega)]
    by_cases hb : x / 2 ^ (n - 1 - i) % 2 = 1
    · rw [if_pos (by omega), if_pos (by omega)]
      have hstep : low x n (i + 1) = low x n i + 2 ^ i := by rw [low, hb]; omega
      have hshl : shl .u64 1 (i : Int) = ((2 ^ i : Nat) : Int) := by
        unfold shl
        rw [Nat.min_eq_left (by simp [IntKind.bits]; omega), Int.one_mul, Int.toNat_natCast, ← pow_cast]
        have := pow_lt_64 (n := i) (by omega)
        exact n64id (by omega) (by omega)
      rw [hshl, n64id (by omega) (by omega), ← Int.natCast_add, ← hstep]
      exact ih k (i + 1) (by omega) (by omega) (by omega)
    · rw [if_neg (by omega)]
      have hstep : low x n (i + 1) = low x n i := by rw [low, show x / 2 ^ (n - 1 - i) % 2 = 0 from by omega]; omega
      have := ih k (i + 1) (by omega) (by omega) (by omega)
      rw [hstep] at this
      exact this

theorem ref_any (x n : Nat) (a1 : Int) (hx : x < 2 ^ 64) (h : (n : Int) = mn (mx a1 0) 64) (k : Nat) (hk : 66 < k) : sapperref03_Flip.f k (x : Int) a1 = some ((rv x n : Nat) : Int) := by
  obtain ⟨k, rfl⟩ : ∃ m, k = m + 1 := ⟨k - 1, by omega⟩
  unfold sapperref03_Flip.f
  unfold mn mx at h
  split
  · simp only [sapperref03_Flip.j0]
    have : n = 64 := by (repeat' split at h) <;> omega
    subst this
    simpa [low] using ref_loop x 64 hx (by omega) 64 k 0 (by omega) (by omega) (by omega)
  · simp only [sapperref03_Flip.j0]
    by_cases h0 : a1 < 0
    · have : n = 0 := by (repeat' split at h) <;> omega
      subst this
      obtain ⟨k, rfl⟩ : ∃ m, k = m + 1 := ⟨k - 1, by omega⟩
      simp only [sapperref03_Flip.l0]; rw [if_neg (by omega)]; simp [rv]
    · have hn64 : n ≤ 64 := by (repeat' split at h) <;> omega
      have : a1 = n := by (repeat' split at h) <;> omega
      subst this
      simpa [low] using ref_loop x n hx hn64 n k 0 (by omega) (by omega) (by omega)

theorem BitsFlips : sapperlaw03_BitsFlips.Pure := by
  intro a0 a1 h0 h1
  obtain ⟨hx0, hx1⟩ := bounds_u64 h0
  obtain ⟨x, rfl⟩ := Int.eq_ofNat_of_zero_le hx0
  have hx : x < 2 ^ 64 := by simp only [show (2 : Nat) ^ 64 = 18446744073709551616 from by decide]; omega
  obtain ⟨n, hn⟩ : ∃ n : Nat, (n : Int) = mn (mx a1 0) 64 := by
    refine ⟨(mn (mx a1 0) 64).toNat, ?_⟩
    unfold mn mx; split <;> split <;> omega
  have hn64 : n ≤ 64 := by unfold mn at hn; split at hn <;> omega
  refine ⟨100, ?_⟩
  unfold sapperlaw03_BitsFlips.f
  rw [flip_any x n a1 hx hn 100 (by omega), ref_any x n a1 hx hn 100 (by omega)]
  simp only [Option.bind_some, if_true]
  have h63 := flip_any 6 3 3 (by decide) (by decide) 100 (by omega)
  rw [show ((6 : Nat) : Int) = 6 from rfl] at h63
  rw [h63]
  simp only [Option.bind_some]
  rw [show (((rv 6 3 : Nat) : Int) != 3) = false from by decide]
  simp only [sapperlaw03_BitsFlips.j0]
  rw [if_neg (by simp)]
  have hr := rv_lt x n
  have hr64 : rv x n < 2 ^ 64 := Nat.lt_of_lt_of_le hr (Nat.pow_le_pow_right (by decide) hn64)
  by_cases c : a1 < 0
  · rw [if_pos c]
    have : n = 0 := by unfold mn mx at hn; (repeat' split at hn) <;> omega
    subst this
    simp [rv]
  · rw [if_neg c, flip_any (rv x n) n a1 hr64 hn 99 (by omega)]
    simp only [Option.bind_some, rv_rv]
    by_cases d : a1 ≥ 64
    · rw [if_pos d]
      have : n = 64 := by unfold mn mx at hn; (repeat' split at hn) <;> omega
      subst this
      rw [Nat.mod_eq_of_lt hx]; simp
    · rw [if_neg d, if_pos (by omega)]
      have e : a1 = n := by unfold mn mx at hn; (repeat' split at hn) <;> omega
      subst e
      have hshl : shl .u64 1 (n : Int) = ((2 ^ n : Nat) : Int) := by
        unfold shl
        rw [Nat.min_eq_left (by simp [IntKind.bits]; omega), Int.one_mul, Int.toNat_natCast, ← pow_cast]
        have := pow_lt_64 (n := n) (by omega)
        exact n64id (by omega) (by omega)
      have hp := Nat.two_pow_pos n
      have hp' := pow_lt_64 (n := n) (by omega)
      rw [hshl, show ((2 ^ n : Nat) : Int) - 1 = ((2 ^ n - 1 : Nat) : Int) from by omega, n64id (by omega) (by omega), n64mask hx (by omega)]
      simp

end Go.Proofs.Ytpblcbfjlmekeaa.Pure
