/- Huffman's sum: bounds. Plain Lean, no condition. -/
import Derived.Test.YtomiammdfiddbaaHeapP
set_option linter.unusedVariables false
set_option linter.unusedSimpArgs false
namespace Go.Proofs.Ytomiammdfiddbaa.Heaps
open Go.Proofs.Ytomiammdfiddbaa.Sorts (lst lst_len lst_get sw sw_perm)
theorem hf_two {k : Nat} {l : List Int} (h : 2 ≤ l.length) : ∃ a b r, l.Perm (a :: b :: r) ∧ a ≤ b ∧ (∀ x ∈ r, b ≤ x) ∧ hf (k + 1) l = a + b + hf k ((a + b) :: r) := by
  have hp := sot_perm l
  have hs := sot_sorted l
  have hl := hp.length_eq
  cases e : sot l with
  | nil => rw [e] at hl; simp at hl; omega
  | cons a t =>
    cases t with
    | nil => rw [e] at hl; simp at hl; omega
    | cons b r =>
      rw [e] at hp hs
      rw [List.pairwise_cons, List.pairwise_cons] at hs
      have h1 := hs.1 b List.mem_cons_self
      exact ⟨a, b, r, hp.symm, h1, hs.2.1, hf_step hp.symm h1 hs.2.1⟩
theorem hf_one {k : Nat} {l : List Int} (h : l.length < 2) : hf k l = 0 := by
  cases k with
  | zero => rfl
  | succ k =>
    have hl := (sot_perm l).length_eq
    unfold hf
    cases e : sot l with
    | nil => rfl
    | cons a t =>
      cases t with
      | nil => rfl
      | cons b r => rw [e] at hl; simp at hl; omega
theorem hf_bound : ∀ (k : Nat) (l : List Int), (∀ x ∈ l, 0 ≤ x) → 0 ≤ hf k l ∧ hf k l ≤ k * l.sum
  | 0, l, _ => by simp [hf]
  | k + 1, l, h => by
    have hs := sum_nonneg h
    have hk : ((k + 1 : Nat) : Int) * l.sum = k * l.sum + l.sum := by rw [Int.natCast_add, Int.add_mul]; simp
    by_cases h2 : 2 ≤ l.length
    · obtain ⟨a, b, r, hp, _, _, e⟩ := hf_two (k := k) h2
      have ha := h a (hp.mem_iff.2 (by simp))
      have hb := h b (hp.mem_iff.2 (by simp))
      have hr : ∀ x ∈ r, 0 ≤ x := fun x hx => h x (hp.mem_iff.2 (by simp [hx]))
      have i := hf_bound k ((a + b) :: r) (fun x hx => by
        rcases List.mem_cons.1 hx with rfl | hx
        · omega
        · exact hr x hx)
      have es : ((a + b) :: r).sum = l.sum := by rw [sum_perm hp]; simp; omega
      have hr0 := sum_nonneg hr
      have es2 : l.sum = a + b + r.sum := by rw [sum_perm hp]; simp; omega
      rw [es] at i
      rw [e, hk]
      omega
    · rw [hf_one (by omega)]
      have := Int.mul_nonneg (show (0 : Int) ≤ ((k + 1 : Nat) : Int) by omega) hs
      exact ⟨Int.le_refl _, this⟩
theorem pos_sum {fs : List Int} (hl : fs.length ≤ 288) (h : ∀ x ∈ fs, x ≤ 1099511627776) : 0 ≤ (pos fs).sum ∧ (pos fs).sum ≤ 316659348799488 := by
  refine ⟨sum_nonneg fun x hx => by have := (pos_mem hx).1; omega, ?_⟩
  have a := sum_le (l := pos fs) (B := 1099511627776) fun x hx => h x (pos_mem hx).2
  have b : (pos fs).length ≤ fs.length := List.length_filter_le _ _
  omega
theorem lst_all {n : Nat} {d : Nat → Int} {L : List Int} (h : (lst n d).Perm L) (hL : ∀ x ∈ L, 0 ≤ x) {S : Int} (hS : L.sum ≤ S) : ∀ i, i < n → 0 ≤ d i ∧ d i ≤ S := fun i hi => by
  have := h.mem_iff.1 (lst_in hi)
  exact ⟨hL _ this, Int.le_trans (le_sum hL this) hS⟩
/-- the rounds: what is done and what is to do -/
structure Rd (L : List Int) (sum : Int) (k : Nat) (d : Nat → Int) : Prop where
  all : ∀ i, i < k → 0 ≤ d i
  tot : (lst k d).sum = L.sum
  eq : sum + hf (k - 1) (lst k d) = hf (L.length - 1) L
theorem Rd.start {L : List Int} {d : Nat → Int} (h : (lst L.length d).Perm L) (hL : ∀ x ∈ L, 0 ≤ x) : Rd L 0 L.length d :=
  ⟨fun i hi => hL _ (h.mem_iff.1 (lst_in hi)), sum_perm h, by rw [hf_perm _ h]; omega⟩
theorem Rd.le {L : List Int} {sum : Int} {k : Nat} {d : Nat → Int} (h : Rd L sum k d) : ∀ i, i < k → 0 ≤ d i ∧ d i ≤ L.sum := fun i hi => by
  have a : ∀ x ∈ lst k d, 0 ≤ x := fun x hx => by
    obtain ⟨j, hj, rfl⟩ := lst_mem hx
    exact h.all j hj
  exact ⟨h.all i hi, by rw [← h.tot]; exact le_sum a (lst_in hi)⟩
theorem Rd.step {L : List Int} {sum : Int} {k : Nat} {d d' : Nat → Int} {a b : Int} {r : List Int} (h : Rd L sum (k + 2) d) (hp : (lst (k + 2) d).Perm (a :: b :: r)) (h1 : a ≤ b) (h2 : ∀ x ∈ r, b ≤ x) (hq : (lst (k + 1) d').Perm ((a + b) :: r)) : Rd L (sum + (a + b)) (k + 1) d' := by
  have e := hf_step (k := k) hp h1 h2
  have q := h.eq
  simp only [show k + 2 - 1 = k + 1 from rfl] at q
  rw [e] at q
  have nn : ∀ x ∈ a :: b :: r, 0 ≤ x := fun x hx => by
    obtain ⟨j, hj, rfl⟩ := lst_mem (hp.mem_iff.2 hx)
    exact h.all j hj
  refine ⟨fun i hi => ?_, ?_, ?_⟩
  · have := hq.mem_iff.1 (lst_in hi)
    rcases List.mem_cons.1 this with e1 | e1
    · have x1 := nn a (by simp)
      have x2 := nn b (by simp)
      omega
    · exact nn _ (by simp [e1])
  · rw [sum_perm hq, ← h.tot, sum_perm hp]; simp; omega
  · rw [show k + 1 - 1 = k from rfl, hf_perm k hq]; omega
theorem Rd.end {L : List Int} {sum : Int} {k : Nat} {d : Nat → Int} (h : Rd L sum k d) (hk : k ≤ 1) : sum = hf (L.length - 1) L := by
  have := h.eq
  rw [show k - 1 = 0 by omega, hf] at this
  omega
theorem Rd.bound {L : List Int} {sum : Int} {k : Nat} {d : Nat → Int} (h : Rd L sum k d) (hL : ∀ x ∈ L, 0 ≤ x) (hl : L.length ≤ 288) (hs : L.sum ≤ 316659348799488) : sum ≤ 91197892454252544 := by
  have a : ∀ x ∈ lst k d, 0 ≤ x := fun x hx => by
    obtain ⟨j, hj, rfl⟩ := lst_mem hx
    exact h.all j hj
  have b := (hf_bound (k - 1) _ a).1
  have c := (hf_bound (L.length - 1) L hL).2
  have d := h.eq
  have e := sum_nonneg hL
  have f : ((L.length - 1 : Nat) : Int) * L.sum ≤ 288 * L.sum := Int.mul_le_mul_of_nonneg_right (by omega) e
  omega
end Go.Proofs.Ytomiammdfiddbaa.Heaps
