/- A code fits its length. Plain Lean, no condition. -/
import Derived.Test.YtofajcifjmhomaaCodePlain
set_option maxRecDepth 100000
set_option linter.unusedVariables false
set_option linter.unusedSimpArgs false
namespace Go.Proofs.Ytofajcifjmhomaa.Code

theorem first_space {f : Nat → Nat} (h0 : f 0 = 0) : ∀ l, l ≤ 15 → (firstF f l + f l) * 2 ^ (15 - l) = spaceF f l
  | 0, _ => by simp [firstF, spaceF, h0]
  | l + 1, h => by
    have ih := first_space h0 l (by omega)
    simp only [firstF, spaceF]
    have e : 2 ^ (15 - l) = 2 * 2 ^ (15 - (l + 1)) := by rw [show 15 - l = (15 - (l + 1)) + 1 from by omega, Nat.pow_succ, Nat.mul_comm]
    rw [← ih, e, Nat.add_mul, Nat.mul_assoc]
theorem spaceF_mono {f : Nat → Nat} : ∀ {a b : Nat}, a ≤ b → spaceF f a ≤ spaceF f b := by
  intro a b h
  induction h with
  | refl => exact Nat.le_refl _
  | step h ih => simp only [spaceF]; omega
theorem first_fits {f : Nat → Nat} (h0 : f 0 = 0) (hs : spaceF f 15 ≤ 32768) {l : Nat} (hl : l ≤ 15) : firstF f l + f l ≤ 2 ^ l := by
  have h1 := first_space h0 l hl
  have h2 := spaceF_mono (f := f) hl
  have h3 : (firstF f l + f l) * 2 ^ (15 - l) ≤ 2 ^ l * 2 ^ (15 - l) := by
    rw [← Nat.pow_add, show l + (15 - l) = 15 from by omega]
    omega
  exact Nat.le_of_mul_le_mul_right h3 (Nat.pow_pos (by omega))
theorem codesF_get : ∀ (xs : List Int) (nx : Nat → Nat) (i : Nat) (h : i < xs.length), 0 < xs[i] → (codesF xs nx)[i]? = some (nx xs[i].toNat + cnt (xs.take i) xs[i].toNat)
  | [], nx, i, h, _ => by simp at h
  | x :: xs, nx, 0, h, hx => by
    have hx' : 0 < x := hx
    simp only [codesF, if_pos hx', List.getElem?_cons_zero]
    simp [cnt]
  | x :: xs, nx, i + 1, h, hx => by
    have hi : i < xs.length := by simpa using h
    have e : (x :: xs)[i + 1] = xs[i] := rfl
    rw [e] at hx ⊢
    simp only [codesF, List.getElem?_cons_succ, List.take_succ_cons]
    rw [codesF_get xs _ i hi hx]
    congr 1
    have ec : cnt (x :: xs.take i) xs[i].toNat = cnt (xs.take i) xs[i].toNat + (if x = ((xs[i].toNat : Nat) : Int) then 1 else 0) := by
      unfold cnt
      rw [List.countP_cons]
      simp
    rw [ec]
    by_cases h0 : 0 < x
    · rw [if_pos h0]
      unfold upd
      by_cases h2 : xs[i].toNat = x.toNat
      · rw [if_pos h2, if_pos (by omega), h2]
        omega
      · rw [if_neg h2, if_neg (by omega)]
        omega
    · rw [if_neg h0, if_neg (by omega)]
      omega
theorem codesF_zero : ∀ (xs : List Int) (nx : Nat → Nat) (i : Nat) (h : i < xs.length), ¬ 0 < xs[i] → (codesF xs nx)[i]? = some 0
  | [], nx, i, h, _ => by simp at h
  | x :: xs, nx, 0, h, hx => by
    have hx' : ¬ 0 < x := hx
    simp only [codesF, if_neg hx', List.getElem?_cons_zero]
  | x :: xs, nx, i + 1, h, hx => by
    have hi : i < xs.length := by simpa using h
    simp only [codesF, List.getElem?_cons_succ]
    exact codesF_zero xs _ i hi hx
theorem cnt_take_lt {xs : List Int} {i : Nat} (h : i < xs.length) {v : Nat} (hv : xs[i] = (v : Int)) : cnt (xs.take i) v < cnt xs v := by
  have h1 := cnt_take h hv
  have h2 : cnt (xs.take (i + 1)) v ≤ cnt xs v := List.Sublist.countP_le (List.take_sublist _ _)
  rw [h1] at h2
  unfold upd at h2
  rw [if_pos rfl] at h2
  omega
theorem check_zero {lens : List Int} (h : check lens = 0) : bad lens = false ∧ space lens ≤ 32768 := by
  unfold check at h
  split at h
  · cases h
  · rename_i hb
    split at h
    · cases h
    · refine ⟨by simpa using hb, by omega⟩
/-- a symbol's length is its code's, and its code fits -/
theorem code_fits {lens : List Int} (h : check lens = 0) {i : Nat} (hi : i < lens.length) {v : Nat} (hv : lens[i] = (v : Int)) (h0 : 0 < v) : ∃ cd, (codes lens)[i]? = some cd ∧ cd = firstF (cz lens) v + cnt (lens.take i) v ∧ cd < 2 ^ v ∧ v ≤ 15 := by
  obtain ⟨hb, hs⟩ := check_zero h
  have hall := (bad_false hb).2 lens[i] (List.getElem_mem hi)
  have hv15 : v ≤ 15 := by omega
  have ht : lens[i].toNat = v := by omega
  refine ⟨_, ?_, rfl, ?_, hv15⟩
  · unfold codes
    rw [if_pos h, codesF_get lens _ i hi (by omega), ht]
  · have h1 := first_fits (f := cz lens) (by simp [cz]) hs hv15
    have h2 := cnt_take_lt hi hv
    have h3 : cz lens v = cnt lens v := by unfold cz; rw [if_neg (by omega)]
    omega
theorem codes_len {lens : List Int} (h : check lens = 0) : (codes lens).length = lens.length := by
  unfold codes
  rw [if_pos h, codesF_len]
/-- how many bits a symbol has -/
def bitsOf (lens : List Int) (s : Int) : Nat := if 0 ≤ s ∧ s < (lens.length : Nat) then (lens.getD s.toNat 0).toNat else 0
/-- its code -/
def codeOf (lens : List Int) (s : Int) : Nat := (codes lens).getD s.toNat 0
theorem bitsOf_fits {lens : List Int} (h : check lens = 0) {s : Int} (hb : bitsOf lens s ≠ 0) : 0 ≤ s ∧ s < (lens.length : Nat) ∧ codeOf lens s < 2 ^ bitsOf lens s ∧ bitsOf lens s ≤ 15 ∧ lens[s.toNat]? = some (bitsOf lens s : Nat) ∧ (codes lens)[s.toNat]? = some (codeOf lens s) := by
  unfold bitsOf at hb ⊢
  split at hb
  · rename_i h1
    rw [if_pos h1]
    have hi : s.toNat < lens.length := by omega
    have hall := (bad_false (check_zero h).1).2 lens[s.toNat] (List.getElem_mem hi)
    have e : lens.getD s.toNat 0 = lens[s.toNat] := by rw [List.getD_eq_getElem?_getD, List.getElem?_eq_getElem hi]; rfl
    rw [e] at hb ⊢
    obtain ⟨cd, c1, c2, c3, c4⟩ := code_fits h hi (v := lens[s.toNat].toNat) (by omega) (by omega)
    have ec : codeOf lens s = cd := by unfold codeOf; rw [List.getD_eq_getElem?_getD, c1]; rfl
    rw [ec]
    exact ⟨h1.1, h1.2, c3, c4, by rw [List.getElem?_eq_getElem hi]; congr 1; omega, c1⟩
  · exact absurd rfl hb
end Go.Proofs.Ytofajcifjmhomaa.Code
