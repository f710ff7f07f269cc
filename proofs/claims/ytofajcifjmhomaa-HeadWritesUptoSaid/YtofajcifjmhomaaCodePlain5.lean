/- The document's Space, Check and Codes are the same. Plain Lean, no condition. -/
import Derived.Test.YtofajcifjmhomaaCodePlain3
set_option maxRecDepth 100000
set_option linter.unusedVariables false
set_option linter.unusedSimpArgs false
namespace Go.Proofs.Ytofajcifjmhomaa.Code

/-! ### Space -/
def spaceR (lens : List Int) : Nat := (lens.map fun x => if 0 < x then 2 ^ (15 - x.toNat) else 0).sum
theorem spaceF_cons (x : Int) (xs : List Int) : ∀ n, spaceF (cz (x :: xs)) n = spaceF (cz xs) n + (if 1 ≤ x ∧ x ≤ (n : Int) then 2 ^ (15 - x.toNat) else 0)
  | 0 => by simp only [spaceF]; rw [if_neg (by omega)]
  | n + 1 => by
    simp only [spaceF]
    rw [spaceF_cons x xs n]
    have e : cz (x :: xs) (n + 1) = cz xs (n + 1) + (if x = ((n + 1 : Nat) : Int) then 1 else 0) := by
      unfold cz cnt
      rw [if_neg (by omega), if_neg (by omega), List.countP_cons]
      simp
    rw [e, Nat.add_mul]
    by_cases h : x = ((n + 1 : Nat) : Int)
    · subst h
      rw [if_pos rfl, if_neg (by omega), if_pos (by omega), Int.toNat_natCast]
      omega
    · rw [if_neg h]
      by_cases h2 : 1 ≤ x ∧ x ≤ (n : Int)
      · rw [if_pos h2, if_pos (by omega)]; omega
      · rw [if_neg h2, if_neg (by omega)]; omega
theorem spaceR_eq : ∀ (lens : List Int), (∀ x ∈ lens, 0 ≤ x ∧ x ≤ 15) → spaceR lens = space lens
  | [], _ => by decide
  | x :: xs, h => by
    have hx := h x (List.mem_cons_self ..)
    have ih := spaceR_eq xs (fun y hy => h y (List.mem_cons_of_mem _ hy))
    unfold space at ih ⊢
    rw [spaceF_cons, ← ih]
    simp only [spaceR, List.map_cons, List.sum_cons]
    by_cases h1 : 0 < x
    · rw [if_pos h1, if_pos (by omega)]; omega
    · rw [if_neg h1, if_neg (by omega)]; omega
theorem spaceR_take {lens : List Int} {j : Nat} (h : j < lens.length) : spaceR (lens.take (j + 1)) = spaceR (lens.take j) + (if 0 < lens[j] then 2 ^ (15 - lens[j].toNat) else 0) := by
  have app : ∀ a b : List Int, spaceR (a ++ b) = spaceR a + spaceR b := by
    intro a b
    induction a with
    | nil => simp [spaceR]
    | cons x a ih => simp only [spaceR, List.cons_append, List.map_cons, List.sum_cons] at ih ⊢; omega
  rw [List.take_succ_eq_append_getElem h, app]
  simp [spaceR]
theorem spaceR_le : ∀ (lens : List Int), spaceR lens ≤ lens.length * 16384
  | [] => by simp [spaceR]
  | x :: xs => by
    have ih := spaceR_le xs
    simp only [spaceR, List.map_cons, List.sum_cons, List.length_cons] at ih ⊢
    have : (if 0 < x then 2 ^ (15 - x.toNat) else 0) ≤ 16384 := by
      split
      · have : 2 ^ (15 - x.toNat) ≤ 2 ^ 14 := Nat.pow_le_pow_right (by omega) (by omega)
        simpa using this
      · omega
    omega
/-! ### Check -/
def usedR (lens : List Int) : Nat := lens.countP (fun x => decide (0 < x))
theorem usedF_cons (x : Int) (xs : List Int) : ∀ n, usedF (cz (x :: xs)) n = usedF (cz xs) n + (if 0 < x ∧ x < (n : Int) then 1 else 0)
  | 0 => by simp only [usedF]; rw [if_neg (by omega)]
  | n + 1 => by
    simp only [usedF]
    rw [usedF_cons x xs n]
    have e : cz (x :: xs) n = cz xs n + (if 0 < x ∧ x = (n : Int) then 1 else 0) := by
      unfold cz cnt
      by_cases hn : n = 0
      · subst hn; rw [if_pos rfl, if_pos rfl, if_neg (by omega)]
      · rw [if_neg hn, if_neg hn, List.countP_cons]
        by_cases h : x = (n : Int)
        · rw [if_pos (by simpa using h), if_pos (by omega)]
        · rw [if_neg (by simpa using h), if_neg (by omega)]
    rw [e]
    by_cases h : x = (n : Int)
    · by_cases h0 : 0 < x
      · rw [if_neg (by omega), if_pos (by omega), if_pos (by omega)]; omega
      · rw [if_neg (by omega), if_neg (by omega), if_neg (by omega)]; omega
    · by_cases h2 : 0 < x ∧ x < (n : Int)
      · rw [if_pos h2, if_neg (by omega), if_pos (by omega)]; omega
      · rw [if_neg h2, if_neg (by omega), if_neg (by omega)]; omega
theorem usedR_eq : ∀ (lens : List Int), (∀ x ∈ lens, 0 ≤ x ∧ x ≤ 15) → usedR lens = used lens
  | [], _ => by decide
  | x :: xs, h => by
    have hx := h x (List.mem_cons_self ..)
    have ih := usedR_eq xs (fun y hy => h y (List.mem_cons_of_mem _ hy))
    unfold used at ih ⊢
    rw [usedF_cons, ← ih]
    unfold usedR
    rw [List.countP_cons]
    by_cases h1 : 0 < x
    · rw [if_pos (by simpa using h1), if_pos (by omega)]
    · rw [if_neg (by simpa using h1), if_neg (by omega)]
theorem usedR_take {lens : List Int} {j : Nat} (h : j < lens.length) : usedR (lens.take (j + 1)) = usedR (lens.take j) + (if 0 < lens[j] then 1 else 0) := by
  rw [List.take_succ_eq_append_getElem h]
  unfold usedR
  rw [List.countP_append, List.countP_cons, List.countP_nil]
  simp
theorem spaceF_none {f : Nat → Nat} : ∀ n, n ≤ 15 → usedF f (n + 1) = 0 → spaceF f n = 0
  | 0, _, _ => rfl
  | n + 1, hn, h => by
    have h1 : usedF f (n + 1) + f (n + 1) = 0 := h
    simp only [spaceF]
    rw [spaceF_none n (by omega) (by omega)]
    rw [show f (n + 1) = 0 from by omega]
    simp
theorem one_space {f : Nat → Nat} (h0 : f 0 = 0) : ∀ n, n ≤ 15 → usedF f (n + 1) = 1 → ∃ v, 1 ≤ v ∧ v ≤ n ∧ f v = 1 ∧ spaceF f n = 2 ^ (15 - v) ∧ ∀ l, l ≤ n → l ≠ v → f l = 0
  | 0, _, h => by simp only [usedF] at h; omega
  | n + 1, hn, h => by
    have h1 : usedF f (n + 1) + f (n + 1) = 1 := h
    by_cases hf : f (n + 1) = 0
    · obtain ⟨v, v1, v2, v3, v4, v5⟩ := one_space h0 n (by omega) (by omega)
      refine ⟨v, v1, by omega, v3, ?_, fun l hl hlv => ?_⟩
      · simp only [spaceF]; rw [hf, v4]; simp
      · by_cases e : l = n + 1
        · subst e; exact hf
        · exact v5 l (by omega) hlv
    · have hz : usedF f (n + 1) = 0 := by omega
      refine ⟨n + 1, by omega, Nat.le_refl _, by omega, ?_, fun l hl hlv => ?_⟩
      · simp only [spaceF]
        rw [spaceF_none n (by omega) hz, show f (n + 1) = 1 from by omega]
        simp
      · have hm : ∀ m, usedF f m = 0 → ∀ l, l < m → f l = 0 := by
          intro m
          induction m with
          | zero => intro _ l hl; omega
          | succ m ih =>
            intro hm l hl
            simp only [usedF] at hm
            by_cases e : l = m
            · subst e; omega
            · exact ih (by omega) l (by omega)
        exact hm (n + 1) hz l (by omega)
def checkR (lens : List Int) : Int :=
  if bad lens = true then 50 else if 32768 < spaceR lens then 51 else if spaceR lens = 32768 ∨ usedR lens = 0 ∨ (usedR lens = 1 ∧ spaceR lens = 16384) then 0 else 52
theorem checkR_eq (lens : List Int) : checkR lens = check lens := by
  unfold checkR check
  by_cases hb : bad lens = true
  · rw [if_pos hb, if_pos hb]
  · rw [if_neg hb, if_neg hb]
    have hall := (bad_false (by simpa using hb)).2
    rw [spaceR_eq lens hall, usedR_eq lens hall]
    by_cases h1 : used lens = 1
    · obtain ⟨v, v1, v2, v3, v4, v5⟩ := one_space (f := cz lens) (by simp [cz]) 15 (Nat.le_refl _) h1
      have e : space lens = 16384 ↔ cz lens 1 = 1 := by
        unfold space
        rw [v4]
        by_cases hv : v = 1
        · subst hv; simp [v3]
        · have h2 := v5 1 (by omega) (fun e => hv e.symm)
          rw [h2]
          have : 2 ^ (15 - v) ≤ 2 ^ 13 := Nat.pow_le_pow_right (by omega) (by omega)
          omega
      simp only [e]
    · simp only [h1, false_and]
/-! ### Codes -/
/-- where the document stands: the last code, and its length -/
def InvC (lens : List Int) (n i nx last : Nat) : Prop := (last = 0 ∧ nx = 0 ∧ firstF (cz lens) n + cnt (lens.take i) n = 0) ∨ (0 < last ∧ last ≤ n ∧ (nx + 1) * 2 ^ (n - last) = firstF (cz lens) n + cnt (lens.take i) n)
theorem inv_skip {lens : List Int} {n i nx last : Nat} (hi : i < lens.length) (h : lens[i] ≠ (n : Int)) (hI : InvC lens n i nx last) : InvC lens n (i + 1) nx last := by
  have e : cnt (lens.take (i + 1)) n = cnt (lens.take i) n := by
    unfold cnt
    rw [List.take_succ_eq_append_getElem hi, List.countP_append, List.countP_cons, List.countP_nil, if_neg (by simpa using h)]
    omega
  unfold InvC
  rw [e]
  exact hI
theorem inv_row {lens : List Int} {n nx last : Nat} (hn : 1 ≤ n) (hI : InvC lens n lens.length nx last) : InvC lens (n + 1) 0 nx last := by
  unfold InvC at hI ⊢
  rw [List.take_length] at hI
  have e : firstF (cz lens) (n + 1) = (firstF (cz lens) n + cnt lens n) * 2 := by
    have : cz lens n = cnt lens n := by unfold cz; rw [if_neg (by omega)]
    simp only [firstF]
    rw [this]
  have e0 : cnt (lens.take 0) (n + 1) = 0 := by simp [cnt]
  rw [e, e0]
  rcases hI with ⟨h1, h2, h3⟩ | ⟨h1, h2, h3⟩
  · exact .inl ⟨h1, h2, by omega⟩
  · refine .inr ⟨h1, by omega, ?_⟩
    rw [show n + 1 - last = (n - last) + 1 from by omega, Nat.pow_succ, ← Nat.mul_assoc, h3]
    omega
theorem inv_put {lens : List Int} {n i nx last : Nat} (hn : 1 ≤ n) (hi : i < lens.length) (h : lens[i] = (n : Int)) (hI : InvC lens n i nx last) :
    (if 0 < last then (nx + 1) * 2 ^ (n - last) else nx) = firstF (cz lens) n + cnt (lens.take i) n ∧ InvC lens n (i + 1) (firstF (cz lens) n + cnt (lens.take i) n) n := by
  refine ⟨?_, .inr ⟨by omega, Nat.le_refl _, ?_⟩⟩
  · rcases hI with ⟨h1, h2, h3⟩ | ⟨h1, h2, h3⟩
    · rw [if_neg (by omega), h2, h3]
    · rw [if_pos h1, h3]
  · rw [Nat.sub_self, Nat.pow_zero, Nat.mul_one, cnt_take hi h]
    unfold upd
    rw [if_pos rfl]
    omega
/-- a symbol's code, or 0 where it is not laid down yet -/
def outAt (lens : List Int) (n i s : Nat) : Nat := if 0 < lens.getD s 0 ∧ (lens.getD s 0 < (n : Int) ∨ (lens.getD s 0 = (n : Int) ∧ s < i)) then firstF (cz lens) (lens.getD s 0).toNat + cnt (lens.take s) (lens.getD s 0).toNat else 0
def outL (lens : List Int) (n i : Nat) : List Nat := (List.range lens.length).map (outAt lens n i)
theorem outL_len (lens : List Int) (n i : Nat) : (outL lens n i).length = lens.length := by simp [outL]
theorem outL_get (lens : List Int) (n i : Nat) {j : Nat} (h : j < lens.length) : (outL lens n i)[j]? = some (outAt lens n i j) := by
  unfold outL
  rw [List.getElem?_map, List.getElem?_range h]
  rfl
theorem outL_congr {lens : List Int} {L : List Nat} {n i : Nat} (hl : L.length = lens.length) (h : ∀ j, j < lens.length → L[j]? = some (outAt lens n i j)) : L = outL lens n i := by
  apply List.ext_getElem?
  intro j
  by_cases hj : j < lens.length
  · rw [h j hj, outL_get lens n i hj]
  · rw [List.getElem?_eq_none (by omega), List.getElem?_eq_none (by rw [outL_len]; omega)]
theorem outL_start (lens : List Int) : List.replicate lens.length 0 = outL lens 1 0 := by
  refine outL_congr (by simp) fun j hj => ?_
  rw [List.getElem?_replicate, if_pos hj]
  unfold outAt
  rw [if_neg (by omega)]
theorem getD_at {lens : List Int} {j : Nat} (h : j < lens.length) : lens.getD j 0 = lens[j] := by rw [List.getD_eq_getElem?_getD, List.getElem?_eq_getElem h]; rfl
theorem outL_skip {lens : List Int} {n i : Nat} (hi : i < lens.length) (h : lens[i] ≠ (n : Int)) : outL lens n i = outL lens n (i + 1) := by
  refine outL_congr (outL_len _ _ _) fun j hj => ?_
  rw [outL_get lens n i hj]
  unfold outAt
  rw [getD_at hj]
  by_cases e : j = i
  · subst e
    by_cases h2 : 0 < lens[j] ∧ lens[j] < (n : Int)
    · rw [if_pos ⟨h2.1, .inl h2.2⟩, if_pos ⟨h2.1, .inl h2.2⟩]
    · rw [if_neg (by omega), if_neg (by omega)]
  · by_cases h2 : 0 < lens[j] ∧ (lens[j] < (n : Int) ∨ (lens[j] = (n : Int) ∧ j < i))
    · rw [if_pos h2, if_pos (by omega)]
    · rw [if_neg h2, if_neg (by omega)]
theorem outL_row (lens : List Int) (n : Nat) : outL lens n lens.length = outL lens (n + 1) 0 := by
  refine outL_congr (outL_len _ _ _) fun j hj => ?_
  rw [outL_get lens n _ hj]
  unfold outAt
  by_cases h2 : 0 < lens.getD j 0 ∧ (lens.getD j 0 < (n : Int) ∨ (lens.getD j 0 = (n : Int) ∧ j < lens.length))
  · rw [if_pos h2, if_pos (by omega)]
  · rw [if_neg h2, if_neg (by omega)]
theorem outL_put {lens : List Int} {n i : Nat} (hn : 1 ≤ n) (hi : i < lens.length) (h : lens[i] = (n : Int)) : (outL lens n i).set i (firstF (cz lens) n + cnt (lens.take i) n) = outL lens n (i + 1) := by
  refine outL_congr (by rw [List.length_set, outL_len]) fun j hj => ?_
  by_cases e : j = i
  · subst e
    rw [List.getElem?_set_self (by rw [outL_len]; exact hj)]
    unfold outAt
    rw [getD_at hj, h, if_pos (by omega), Int.toNat_natCast]
  · rw [List.getElem?_set_ne (fun e2 => e e2.symm), outL_get lens n i hj]
    unfold outAt
    by_cases h2 : 0 < lens.getD j 0 ∧ (lens.getD j 0 < (n : Int) ∨ (lens.getD j 0 = (n : Int) ∧ j < i))
    · rw [if_pos h2, if_pos (by omega)]
    · rw [if_neg h2, if_neg (by omega)]
theorem outL_end {lens : List Int} (hc : check lens = 0) : outL lens 16 0 = codes lens := by
  symm
  refine outL_congr (codes_len hc) fun j hj => ?_
  have hall := (bad_false (check_zero hc).1).2 lens[j] (List.getElem_mem hj)
  unfold codes outAt
  rw [if_pos hc, getD_at hj]
  by_cases h0 : 0 < lens[j]
  · rw [codesF_get lens _ j hj h0, if_pos (by omega)]
  · rw [codesF_zero lens _ j hj h0, if_neg (by omega)]
end Go.Proofs.Ytofajcifjmhomaa.Code
