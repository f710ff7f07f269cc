/- Next, from the other side: what the decoder says is so. Plain Lean, no condition. -/
import Derived.Test.YtncjckhcellehaaCodePlain7
import Derived.Test.YtncjckhcellehaaCodePlain5
set_option maxRecDepth 100000
set_option linter.unusedVariables false
set_option linter.unusedSimpArgs false
namespace Go.Proofs.Ytncjckhcellehaa.Code
open Go.Proofs.Ytncjckhcellehaa.Num

theorem rv_step (V l : Nat) : rv V (l + 1) = 2 * rv V l + V / 2 ^ l % 2 := rfl
/-- what nextF says -/
theorem nextF_conv (F : Nat → Nat) (k V h : Nat) : ∀ f l, l + f = 16 → 1 ≤ l → firstF F l ≤ 2 * rv V (l - 1) → (l = 1 ∨ usedF F l ≠ k) → l ≤ h + 1 →
    ((nextF F k V h f l (2 * rv V (l - 1))).1 = 0 → h < 15 ∧ firstF F (h + 1) ≤ 2 * rv V h ∧ (h = 0 ∨ usedF F (h + 1) ≠ k)) ∧
    (∀ j n, nextF F k V h f l (2 * rv V (l - 1)) = (1, j, n) → n ≤ h ∧ 1 ≤ n ∧ n ≤ 15 ∧ firstF F n ≤ rv V n ∧ rv V n < firstF F n + F n)
  | 0, l, hlf, hl, h1, h2, h3 => ⟨by intro h; simp [nextF] at h, by intro j n h; simp [nextF] at h⟩
  | f + 1, l, hlf, hl, h1, h2, h3 => by
    obtain ⟨m, rfl⟩ : ∃ m, l = m + 1 := ⟨l - 1, by omega⟩
    simp only [nextF, Nat.add_sub_cancel]
    rw [Nat.add_sub_cancel] at h1
    rw [← rv_step]
    by_cases e1 : h < m + 1
    · rw [if_pos e1]
      obtain rfl : h = m := by omega
      exact ⟨fun _ => ⟨by omega, h1, by rcases h2 with e | e; exact .inl (by omega); exact .inr e⟩, fun j n h => by simp at h⟩
    · rw [if_neg e1]
      by_cases e2 : rv V (m + 1) < firstF F (m + 1) + F (m + 1)
      · rw [if_pos e2]
        refine ⟨fun h => by simp at h, fun j n h => ?_⟩
        simp only [Prod.mk.injEq] at h
        obtain ⟨_, _, rfl⟩ := h
        exact ⟨by omega, by omega, by omega, by rw [rv_step]; omega, e2⟩
      · rw [if_neg e2]
        by_cases e3 : usedF F (m + 1) + F (m + 1) = k
        · rw [if_pos e3]
          exact ⟨fun h => by simp at h, fun j n h => by simp at h⟩
        · rw [if_neg e3]
          have h4 : firstF F (m + 2) = 2 * (firstF F (m + 1) + F (m + 1)) := by simp only [firstF]; omega
          exact nextF_conv F k V h f (m + 2) (by omega) (by omega) (by rw [show m + 2 - 1 = m + 1 from rfl, h4]; omega) (.inr e3) (by omega)
/-- a rank is some symbol's -/
theorem rank_some {lens : List Int} {v : Nat} : ∀ {r : Nat}, r < cnt lens v → ∃ i, ∃ h : i < lens.length, lens[i] = (v : Int) ∧ cnt (lens.take i) v = r := by
  induction lens with
  | nil => intro r h; simp [cnt] at h
  | cons x xs ih =>
    intro r h
    by_cases e : x = (v : Int)
    · by_cases hr : r = 0
      · exact ⟨0, by simp, e, by simp [cnt, hr]⟩
      · have h2 : r - 1 < cnt xs v := by
          unfold cnt at h ⊢
          rw [List.countP_cons, if_pos (by simpa using e)] at h
          omega
        obtain ⟨i, h1, h3, h4⟩ := ih h2
        refine ⟨i + 1, by simp; omega, by simpa using h3, ?_⟩
        unfold cnt at h4 ⊢
        rw [List.take_succ_cons, List.countP_cons, if_pos (by simpa using e), h4]
        omega
    · have h2 : r < cnt xs v := by
        unfold cnt at h ⊢
        rw [List.countP_cons, if_neg (by simpa using e)] at h
        omega
      obtain ⟨i, h1, h3, h4⟩ := ih h2
      refine ⟨i + 1, by simp; omega, by simpa using h3, ?_⟩
      unfold cnt at h4 ⊢
      rw [List.take_succ_cons, List.countP_cons, if_neg (by simpa using e), h4, Nat.add_zero]
/-- a number among the codes of length n is some symbol's code -/
theorem code_some {lens : List Int} (hc : check lens = 0) {n x : Nat} (h0 : 1 ≤ n) (h1 : firstF (cz lens) n ≤ x) (h2 : x < firstF (cz lens) n + cz lens n) : ∃ i, i < lens.length ∧ bitsOf lens (i : Nat) = n ∧ codeOf lens (i : Nat) = x := by
  have hz : cz lens n = cnt lens n := by unfold cz; rw [if_neg (by omega)]
  obtain ⟨i, hi, hv, hr⟩ := rank_some (lens := lens) (v := n) (r := x - firstF (cz lens) n) (by omega)
  obtain ⟨cd, a1, a2, a3, a4⟩ := code_fits hc hi hv (by omega)
  refine ⟨i, hi, ?_, ?_⟩
  · unfold bitsOf
    rw [if_pos (by omega), Int.toNat_natCast, List.getD_eq_getElem?_getD, List.getElem?_eq_getElem hi, hv]
    rfl
  · unfold codeOf
    rw [Int.toNat_natCast, List.getD_eq_getElem?_getD, a1]
    show cd = x
    omega
/-- the symbol's code begins the bits -/
def Bg (lens : List Int) (V h : Nat) (s : Nat) : Prop := s < lens.length ∧ bitsOf lens (s : Nat) ≠ 0 ∧ bitsOf lens (s : Nat) ≤ h ∧ V % 2 ^ bitsOf lens (s : Nat) = rv (codeOf lens (s : Nat)) (bitsOf lens (s : Nat))
/-- the bits begin the symbol's code -/
def My (lens : List Int) (V h : Nat) (s : Nat) : Prop := s < lens.length ∧ bitsOf lens (s : Nat) ≠ 0 ∧ h ≤ bitsOf lens (s : Nat) ∧ V % 2 ^ h = rv (codeOf lens (s : Nat)) (bitsOf lens (s : Nat)) % 2 ^ h
theorem div_bit {a b M : Nat} (h : ∀ i, i < M → a / 2 ^ i % 2 = b / 2 ^ i % 2) : a % 2 ^ M = b % 2 ^ M := by
  induction M with
  | zero => simp [Nat.mod_one]
  | succ M ih =>
    have h1 := ih (fun i hi => h i (by omega))
    have h2 := h M (by omega)
    rw [Nat.pow_succ, Nat.mod_mul, Nat.mod_mul, h1, h2]
theorem rv_top {V n i : Nat} (h : i < n) : rv V n / 2 ^ (n - 1 - i) % 2 = V / 2 ^ i % 2 := by
  have := rv_div (cd := V) (n := n) (i := n - 1 - i) (by omega)
  rw [this, show n - 1 - (n - 1 - i) = i from by omega]
/-- the first h bits are the top of a code of n bits -/
theorem top_low {V h n x : Nat} (hn : h ≤ n) (e : x / 2 ^ (n - h) = rv V h) : V % 2 ^ h = rv x n % 2 ^ h := by
  refine div_bit fun i hi => ?_
  have h1 := rv_div (cd := x) (n := n) (i := i) (by omega)
  have h2 := rv_top (V := V) hi
  rw [h1, ← h2, ← e, Nat.div_div_eq_div_mul, ← Nat.pow_add, show n - h + (h - 1 - i) = n - 1 - i from by omega]
/-- a whole code: some code begins with any bits that are not yet one -/
theorem some_deep {F : Nat → Nat} (h0 : F 0 = 0) (hs : spaceF F 15 = 32768) {C h : Nat} (hC : C < 2 ^ h) : ∀ f m, m + f = 15 → h < m → firstF F m ≤ C * 2 ^ (m - h) → ∃ n, h < n ∧ n ≤ 15 ∧ firstF F n ≤ C * 2 ^ (n - h) ∧ C * 2 ^ (n - h) < firstF F n + F n
  | 0, m, hm, hh, h1 => by
    refine ⟨m, hh, by omega, h1, ?_⟩
    have h2 := first_space h0 m (by omega)
    obtain rfl : m = 15 := by omega
    rw [Nat.sub_self, Nat.pow_zero, Nat.mul_one] at h2
    rw [h2, hs]
    calc C * 2 ^ (15 - h) < 2 ^ h * 2 ^ (15 - h) := by
          exact (Nat.mul_lt_mul_right (Nat.pow_pos (by omega))).2 hC
      _ = 32768 := by rw [← Nat.pow_add, show h + (15 - h) = 15 from by omega]
  | f + 1, m, hm, hh, h1 => by
    by_cases e : C * 2 ^ (m - h) < firstF F m + F m
    · exact ⟨m, hh, by omega, h1, e⟩
    · refine some_deep h0 hs hC f (m + 1) (by omega) (by omega) ?_
      rw [show m + 1 - h = (m - h) + 1 from by omega, Nat.pow_succ, ← Nat.mul_assoc]
      simp only [firstF]
      omega
theorem used_some {lens : List Int} (hb : bad lens = false) (h : used lens ≠ 0) : ∃ i, i < lens.length ∧ bitsOf lens (i : Nat) ≠ 0 := by
  rw [← usedR_eq lens (bad_false hb).2] at h
  obtain ⟨x, hx, h1⟩ := List.countP_pos_iff.1 (Nat.pos_of_ne_zero h)
  obtain ⟨i, hi, rfl⟩ := List.getElem_of_mem hx
  refine ⟨i, hi, ?_⟩
  unfold bitsOf
  rw [if_pos (by omega), Int.toNat_natCast, List.getD_eq_getElem?_getD, List.getElem?_eq_getElem hi]
  simp at h1
  simp only [Option.getD_some]
  omega
/-- what the decoder finds, a symbol has -/
theorem next_found {lens : List Int} {V h j n : Nat} (hc : check lens = 0) (h1 : next (cz lens) (used lens) V h = (1, j, n)) : ∃ s, Bg lens V h s := by
  unfold next at h1
  split at h1
  · simp at h1
  · have h2 := (nextF_conv (cz lens) (used lens) V h 15 1 rfl (by omega) (by simp [firstF, cz]) (.inl rfl) (by omega)).2 j n (by simpa [rv] using h1)
    obtain ⟨a1, a2, a3, a4, a5⟩ := h2
    obtain ⟨i, hi, b1, b2⟩ := code_some hc a2 a4 a5
    refine ⟨i, hi, by omega, by omega, ?_⟩
    rw [b1, b2]
    have := top_low (V := V) (h := n) (n := n) (x := rv V n) (Nat.le_refl _) (by simp)
    rw [this, Nat.mod_eq_of_lt (rv_lt _ _)]
/-- when more bits are wanted, some code begins with these -/
theorem next_more {lens : List Int} {V h : Nat} (hc : check lens = 0) (h1 : (next (cz lens) (used lens) V h).1 = 0) : ∃ s, My lens V h s := by
  have hb := (check_zero hc).1
  unfold next at h1
  split at h1
  · simp at h1
  · rename_i hu
    have h2 := (nextF_conv (cz lens) (used lens) V h 15 1 rfl (by omega) (by simp [firstF, cz]) (.inl rfl) (by omega)).1 (by simpa [rv] using h1)
    obtain ⟨a1, a2, a3⟩ := h2
    by_cases e0 : h = 0
    · subst e0
      obtain ⟨i, hi, hi2⟩ := used_some hb hu
      exact ⟨i, hi, hi2, by omega, by simp [Nat.mod_one]⟩
    · have a3' : usedF (cz lens) (h + 1) ≠ used lens := by
        rcases a3 with e | e
        · exact absurd e e0
        · exact e
      have ht := check_tail hc
      have hs : space lens = 32768 := by
        rcases ht with ⟨t1, t2⟩
        rcases t2 with t2 | t2 | t2
        · omega
        · rw [usedR_eq lens (bad_false hb).2] at t2
          exact absurd t2 hu
        · exfalso
          rw [usedR_eq lens (bad_false hb).2] at t2
          obtain ⟨v, b1, b2, b3, b4, b5⟩ := one_space (f := cz lens) (by simp [cz]) 15 (Nat.le_refl _) t2.1
          have b6 : spaceF (cz lens) 15 = 16384 := by have : space lens = spaceF (cz lens) 15 := rfl; omega
          have hv : v = 1 := by
            by_cases e : v = 1
            · exact e
            · have : 2 ^ (15 - v) ≤ 2 ^ 13 := Nat.pow_le_pow_right (by omega) (by omega)
              omega
          subst hv
          have c1 : usedF (cz lens) 2 ≤ usedF (cz lens) (h + 1) := usedF_mono (by omega)
          have c2 : usedF (cz lens) (h + 1) ≤ usedF (cz lens) 16 := usedF_mono (by omega)
          have c3 : usedF (cz lens) 2 = usedF (cz lens) 1 + cz lens 1 := rfl
          have c4 : used lens = usedF (cz lens) 16 := rfl
          omega
      have h3 : firstF (cz lens) (h + 1) ≤ rv V h * 2 ^ (h + 1 - h) := by rw [show h + 1 - h = 1 from by omega]; omega
      obtain ⟨n, d1, d2, d3, d4⟩ := some_deep (F := cz lens) (by simp [cz]) hs (rv_lt V h) (14 - h) (h + 1) (by omega) (by omega) h3
      obtain ⟨i, hi, b1, b2⟩ := code_some hc (by omega) d3 d4
      refine ⟨i, hi, by omega, by omega, ?_⟩
      rw [b1, b2]
      exact top_low (by omega) (Nat.mul_div_cancel _ (Nat.pow_pos (by omega)))
theorem bg_next {lens : List Int} {S : Nat → Nat} {V h s : Nat} (hc : check lens = 0) (hS : SymOk lens S) (hB : Bg lens V h s) : ∃ j, next (cz lens) (used lens) V h = (1, j, bitsOf lens (s : Nat)) ∧ S j = s := by
  obtain ⟨b1, b2, b3, b4⟩ := hB
  obtain ⟨j, h1, h2⟩ := next_code (V := V) (h := h) hc hS (s := (s : Nat)) rfl b2 rfl (by rw [Nat.min_eq_right b3, b4, Nat.mod_eq_of_lt (rv_lt _ _)])
  rw [if_neg (by omega)] at h1
  exact ⟨j, h1, by omega⟩
theorem my_next {lens : List Int} {S : Nat → Nat} {V h s : Nat} (hc : check lens = 0) (hS : SymOk lens S) (hB : ∀ s, ¬ Bg lens V h s) (hM : My lens V h s) : next (cz lens) (used lens) V h = (0, 0, 0) := by
  obtain ⟨b1, b2, b3, b4⟩ := hM
  have hlt : h < bitsOf lens (s : Nat) := by
    by_cases e : h = bitsOf lens (s : Nat)
    · refine absurd ⟨b1, b2, by omega, ?_⟩ (hB s)
      rw [← e, b4, ← e, Nat.mod_eq_of_lt (rv_lt _ _)]
    · omega
  obtain ⟨j, h1, h2⟩ := next_code (V := V) (h := h) hc hS (s := (s : Nat)) rfl b2 rfl (by rw [Nat.min_eq_left (by omega), b4])
  rw [if_pos hlt] at h1
  exact h1
theorem no_next {lens : List Int} {V h : Nat} (hc : check lens = 0) (hB : ∀ s, ¬ Bg lens V h s) (hM : ∀ s, ¬ My lens V h s) : ∃ j, next (cz lens) (used lens) V h = (2, j, 0) := by
  obtain ⟨a, j, n, e⟩ : ∃ a j n, next (cz lens) (used lens) V h = (a, j, n) := ⟨_, _, _, rfl⟩
  have h0 : a ≠ 0 := by
    rintro rfl
    obtain ⟨s, hs⟩ := next_more (V := V) (h := h) hc (by rw [e])
    exact hM s hs
  have h1 : a ≠ 1 := by
    rintro rfl
    obtain ⟨s, hs⟩ := next_found (V := V) (h := h) hc e
    exact hB s hs
  have h3 : ∀ f l c, (nextF (cz lens) (used lens) V h f l c).1 ≤ 2 := by
    intro f
    induction f with
    | zero => intro l c; simp [nextF]
    | succ f ih =>
      intro l c
      simp only [nextF]
      split
      · simp
      · split
        · simp
        · split
          · simp
          · exact ih _ _
  unfold next at e
  split at e
  · cases e; exact ⟨0, by unfold next; rw [if_pos ‹_›]⟩
  · rename_i hu
    have := h3 15 1 0
    have h4 := nextF_len (cz lens) (used lens) V h 15 1 0
    rw [e] at this h4
    simp only at this h4
    obtain rfl : a = 2 := by omega
    obtain rfl := h4 (by omega)
    exact ⟨j, by unfold next; rw [if_neg hu, e]⟩
end Go.Proofs.Ytncjckhcellehaa.Code
