/- Canonical codes (chapter 05), in plain Lean: what both sides compute. No condition. -/
import Derived.KernelRfl
set_option maxRecDepth 100000
set_option linter.unusedVariables false
set_option linter.unusedSimpArgs false
namespace Go.Proofs.Ytofajcifjmhomaa.Code

/-- how many codes there are of a length -/
def cnt (lens : List Int) (l : Nat) : Nat := lens.countP (fun x => decide (x = (l : Int)))
/-- likewise, none of length 0 -/
def cz (lens : List Int) (l : Nat) : Nat := if l = 0 then 0 else cnt lens l
/-- lengths that may not be -/
def bad (lens : List Int) : Bool := decide (288 < lens.length ∨ ∃ x ∈ lens, x < 0 ∨ 15 < x)
def upd (f : Nat → Nat) (i v : Nat) : Nat → Nat := fun j => if j = i then v else f j
def spaceF (f : Nat → Nat) : Nat → Nat
  | 0 => 0
  | l + 1 => spaceF f l + f (l + 1) * 2 ^ (15 - (l + 1))
/-- how much of the code space the lengths take -/
def space (lens : List Int) : Nat := spaceF (cz lens) 15
def usedF (f : Nat → Nat) : Nat → Nat
  | 0 => 0
  | l + 1 => usedF f l + f l
/-- how many symbols there are -/
def used (lens : List Int) : Nat := usedF (cz lens) 16
def check (lens : List Int) : Int :=
  if bad lens = true then 50 else if 32768 < space lens then 51 else if space lens = 32768 ∨ used lens = 0 ∨ (used lens = 1 ∧ cz lens 1 = 1) then 0 else 52
/-- of each length its first code -/
def firstF (f : Nat → Nat) : Nat → Nat
  | 0 => 0
  | l + 1 => (firstF f l + f l) * 2
/-- the codes: next is where each length stands -/
def codesF : List Int → (Nat → Nat) → List Nat
  | [], _ => []
  | x :: xs, next => (if 0 < x then next x.toNat else 0) :: codesF xs (if 0 < x then upd next x.toNat (next x.toNat + 1) else next)
def codes (lens : List Int) : List Nat := if check lens = 0 then codesF lens (firstF (cz lens)) else []
theorem codesF_len : ∀ (xs : List Int) (f : Nat → Nat), (codesF xs f).length = xs.length
  | [], f => rfl
  | x :: xs, f => by simp only [codesF, List.length_cons, codesF_len xs]

theorem cnt_le (lens : List Int) (l : Nat) : cnt lens l ≤ lens.length := List.countP_le_length
theorem cz_le (lens : List Int) (l : Nat) : cz lens l ≤ lens.length := by
  unfold cz
  split
  · exact Nat.zero_le _
  · exact cnt_le lens l
theorem cnt_take {lens : List Int} {j : Nat} (h : j < lens.length) {v : Nat} (hv : lens[j] = (v : Int)) : cnt (lens.take (j + 1)) = upd (cnt (lens.take j)) v (cnt (lens.take j) v + 1) := by
  funext l
  unfold cnt upd
  rw [List.take_succ_eq_append_getElem h, List.countP_append, List.countP_cons, List.countP_nil, hv]
  by_cases e : l = v
  · subst e; simp
  · have e2 : ¬ ((v : Int) = (l : Int)) := by omega
    simp [e, e2]
theorem bad_false {lens : List Int} (h : bad lens = false) : lens.length ≤ 288 ∧ ∀ x ∈ lens, 0 ≤ x ∧ x ≤ 15 := by
  have h1 := of_decide_eq_false h
  refine ⟨Nat.le_of_not_lt fun e => h1 (.inl e), fun x hx => ?_⟩
  have : ¬ (x < 0 ∨ 15 < x) := fun e => h1 (.inr ⟨x, hx, e⟩)
  omega
theorem bad_at {lens : List Int} {j : Nat} (h : j < lens.length) (hx : lens[j] < 0 ∨ 15 < lens[j]) : bad lens = true := decide_eq_true (.inr ⟨lens[j], List.getElem_mem h, hx⟩)
theorem bad_long {lens : List Int} (h : 288 < lens.length) : bad lens = true := decide_eq_true (.inl h)
theorem bad_not {lens : List Int} (h : lens.length ≤ 288) (h2 : ∀ (j : Nat) (hj : j < lens.length), 0 ≤ lens[j] ∧ lens[j] ≤ 15) : bad lens = false := decide_eq_false (by
  rintro (e | ⟨x, hx, e⟩)
  · omega
  · obtain ⟨j, hj, rfl⟩ := List.getElem_of_mem hx
    have := h2 j hj
    omega)
theorem spaceF_le {f : Nat → Nat} {B : Nat} (h : ∀ l, f l ≤ B) : ∀ n, n ≤ 15 → spaceF f n ≤ n * (B * 16384)
  | 0, _ => by simp [spaceF]
  | n + 1, hn => by
    have h1 := spaceF_le h n (by omega)
    have h2 : f (n + 1) * 2 ^ (15 - (n + 1)) ≤ B * 16384 := Nat.mul_le_mul (h _) (by
      have : 2 ^ (15 - (n + 1)) ≤ 2 ^ 14 := Nat.pow_le_pow_right (by omega) (by omega)
      simpa using this)
    simp only [spaceF]
    rw [Nat.succ_mul]
    omega
theorem usedF_le {f : Nat → Nat} {B : Nat} (h : ∀ l, f l ≤ B) : ∀ n, usedF f n ≤ n * B
  | 0 => by simp [usedF]
  | n + 1 => by
    have h1 := usedF_le h n
    have h2 := h n
    simp only [usedF]
    rw [Nat.succ_mul]
    omega
theorem firstF_le {f : Nat → Nat} {B : Nat} (h : ∀ l, f l ≤ B) : ∀ n, firstF f n + 2 * B ≤ 2 ^ (n + 1) * B
  | 0 => by simp [firstF]
  | n + 1 => by
    have h1 := firstF_le h n
    have h2 := h n
    simp only [firstF]
    have : 2 ^ (n + 1 + 1) * B = 2 * (2 ^ (n + 1) * B) := by rw [Nat.pow_succ 2 (n + 1)]; rw [Nat.mul_comm (2 ^ (n + 1)) 2, Nat.mul_assoc]
    omega
theorem spaceF_congr {f g : Nat → Nat} : ∀ n, (∀ l, l ≤ n → f l = g l) → spaceF f n = spaceF g n
  | 0, _ => rfl
  | n + 1, h => by simp only [spaceF]; rw [spaceF_congr n (fun l hl => h l (by omega)), h (n + 1) (Nat.le_refl _)]
end Go.Proofs.Ytofajcifjmhomaa.Code
