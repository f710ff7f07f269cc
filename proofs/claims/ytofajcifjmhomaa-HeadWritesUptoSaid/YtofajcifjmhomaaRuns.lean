/- Lengths as runs, in plain Lean: what both sides compute. No condition. -/
import Derived.KernelRfl
set_option maxRecDepth 100000
set_option linter.unusedVariables false
set_option linter.unusedSimpArgs false
namespace Go.Proofs.Ytofajcifjmhomaa.Runs

/-- how many stand ahead that are v -/
def lead (v : Int) : List Int → Nat
  | [] => 0
  | x :: t => if x = v then lead v t + 1 else 0
theorem lead_le (v : Int) (l : List Int) : lead v l ≤ l.length := by
  induction l with
  | nil => exact Nat.le_refl _
  | cons x t ih => simp only [lead, List.length_cons]; split <;> omega
theorem lead_get {v : Int} {l : List Int} : ∀ {j : Nat}, j < lead v l → l[j]? = some v := by
  induction l with
  | nil => intro j h; simp [lead] at h
  | cons x t ih =>
    intro j h
    simp only [lead] at h
    split at h
    · rename_i e
      cases j with
      | zero => simp [e]
      | succ j => simpa using ih (by omega)
    · omega
theorem lead_end {v : Int} {l : List Int} (h : lead v l < l.length) : l[lead v l]? ≠ some v := by
  induction l with
  | nil => simp [lead] at h
  | cons x t ih =>
    simp only [lead, List.length_cons] at h ⊢
    split
    · rename_i e
      rw [if_pos e] at h
      simpa using ih (by omega)
    · rename_i e
      simpa using e
/-- the count is the only one with these two -/
theorem lead_eq {v : Int} {l : List Int} {k : Nat} (hk : k ≤ l.length) (h1 : ∀ j, j < k → l[j]? = some v) (h2 : k < l.length → l[k]? ≠ some v) : lead v l = k := by
  rcases Nat.lt_trichotomy (lead v l) k with h | h | h
  · exact absurd (h1 _ h) (lead_end (by omega))
  · exact h
  · exact absurd (lead_get h) (h2 (Nat.lt_of_lt_of_le h (lead_le v l)))
def sixes : Nat → Nat → List (Int × Int)
  | 0, _ => []
  | f + 1, k => if k < 3 then [] else (16, ((min k 6 : Nat) : Int)) :: sixes f (k - min k 6)
theorem sixes_enough {f g k : Nat} (hf : k ≤ f) (hg : k ≤ g) : sixes f k = sixes g k := by
  induction f generalizing g k with
  | zero =>
    have : k = 0 := by omega
    subst this
    cases g <;> simp [sixes]
  | succ f ih =>
    cases g with
    | zero =>
      have : k = 0 := by omega
      subst this
      simp [sixes]
    | succ g =>
      simp only [sixes]
      split
      · rfl
      · rw [ih (g := g) (by omega) (by omega)]
theorem sixes_step {k : Nat} (h : 3 ≤ k) : sixes k k = (16, ((min k 6 : Nat) : Int)) :: sixes (k - min k 6) (k - min k 6) := by
  obtain ⟨f, rfl⟩ : ∃ f, k = f + 1 := ⟨k - 1, by omega⟩
  simp only [sixes]
  rw [if_neg (by omega), sixes_enough (f := f) (g := f + 1 - min (f + 1) 6) (by omega) (by omega)]
theorem sixes_end {k : Nat} (h : k < 3) : sixes k k = [] := by
  cases k with
  | zero => rfl
  | succ k => simp only [sixes]; rw [if_pos h]
/-- how many lengths the sixteens of k lengths are -/
def sixed : Nat → Nat → Nat
  | 0, _ => 0
  | f + 1, k => if k < 3 then 0 else min k 6 + sixed f (k - min k 6)
theorem sixed_enough {f g k : Nat} (hf : k ≤ f) (hg : k ≤ g) : sixed f k = sixed g k := by
  induction f generalizing g k with
  | zero =>
    have : k = 0 := by omega
    subst this
    cases g <;> simp [sixed]
  | succ f ih =>
    cases g with
    | zero =>
      have : k = 0 := by omega
      subst this
      simp [sixed]
    | succ g =>
      simp only [sixed]
      split
      · rfl
      · rw [ih (g := g) (by omega) (by omega)]
theorem sixed_step {k : Nat} (h : 3 ≤ k) : sixed k k = min k 6 + sixed (k - min k 6) (k - min k 6) := by
  obtain ⟨f, rfl⟩ : ∃ f, k = f + 1 := ⟨k - 1, by omega⟩
  simp only [sixed]
  rw [if_neg (by omega), sixed_enough (f := f) (g := f + 1 - min (f + 1) 6) (by omega) (by omega)]
theorem sixed_end {k : Nat} (h : k < 3) : sixed k k = 0 := by
  cases k with
  | zero => rfl
  | succ k => simp only [sixed]; rw [if_pos h]
theorem sixed_le (f k : Nat) : sixed f k ≤ k := by
  induction f generalizing k with
  | zero => exact Nat.zero_le _
  | succ f ih =>
    simp only [sixed]
    split
    · omega
    · have := ih (k - min k 6); omega
/-- one row: k times v -/
def rowOf (v : Int) (k : Nat) : List (Int × Int) :=
  if v = 0 then (if 11 ≤ k then [(18, ((min k 138 : Nat) : Int))] else if 3 ≤ k then [(17, (k : Int))] else [(0, 1)]) else (v, 1) :: sixes (k - 1) (k - 1)
def rowLen (v : Int) (k : Nat) : Nat := if v = 0 then (if 11 ≤ k then min k 138 else if 3 ≤ k then k else 1) else 1 + sixed (k - 1) (k - 1)
theorem rowLen_pos (v : Int) (k : Nat) : 1 ≤ rowLen v k := by
  unfold rowLen
  split
  · split
    · omega
    · split <;> omega
  · omega
theorem rowLen_le (v : Int) {k : Nat} (h : 1 ≤ k) : rowLen v k ≤ k := by
  unfold rowLen
  split
  · split
    · omega
    · split <;> omega
  · have := sixed_le (k - 1) (k - 1); omega
def runsF : Nat → List Int → List (Int × Int)
  | 0, _ => []
  | _ + 1, [] => []
  | f + 1, v :: t => rowOf v (lead v t + 1) ++ runsF f ((v :: t).drop (rowLen v (lead v t + 1)))
def runs (l : List Int) : List (Int × Int) := runsF l.length l
theorem runsF_enough {f g : Nat} {l : List Int} (hf : l.length ≤ f) (hg : l.length ≤ g) : runsF f l = runsF g l := by
  induction f generalizing g l with
  | zero =>
    have : l = [] := List.eq_nil_of_length_eq_zero (by omega)
    subst this
    cases g <;> simp [runsF]
  | succ f ih =>
    cases l with
    | nil => cases g <;> simp [runsF]
    | cons v t =>
      cases g with
      | zero => simp at hg
      | succ g =>
        simp only [runsF]
        have h1 := rowLen_pos v (lead v t + 1)
        simp only [List.length_cons] at hf hg
        rw [ih (g := g) (by simp only [List.length_drop, List.length_cons]; omega) (by simp only [List.length_drop, List.length_cons]; omega)]
theorem runs_nil : runs [] = [] := rfl
theorem runs_cons (v : Int) (t : List Int) : runs (v :: t) = rowOf v (lead v t + 1) ++ runs ((v :: t).drop (rowLen v (lead v t + 1))) := by
  unfold runs
  simp only [List.length_cons, runsF]
  have h1 := rowLen_pos v (lead v t + 1)
  rw [runsF_enough (f := t.length) (g := ((v :: t).drop (rowLen v (lead v t + 1))).length) (by simp only [List.length_drop, List.length_cons]; omega) (Nat.le_refl _)]
end Go.Proofs.Ytofajcifjmhomaa.Runs
