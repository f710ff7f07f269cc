/- Texts of this claim, one behind the other: Runs, LzPlain2. -/
import Derived.Test.YtkdgfioigkijgaaGreatP01
import Derived.KernelRfl
/- Lengths as runs, in plain Lean: what both sides compute. No condition. -/
set_option maxRecDepth 100000
set_option linter.unusedVariables false
set_option linter.unusedSimpArgs false
namespace Go.Proofs.YtkdgfioigkijgaaGreat.Runs

/-- how many stand ahead that are v -/
def lead (v : Int) : List Int → Nat
  | [] => 0
  | x :: t => if x = v then lead v t + 1 else 0
theorem lead_le (v : Int) (l : List Int) : lead v l ≤ l.length := by
  induction l with
  | nil => exact Nat.le_refl _
  | cons x t ih => simp only [lead, List.length_cons]; split <;> omega
theorem lead_get {v : Int} {l : List Int} : ∀ {j : Nat}, j < lead v l → l[j]? = some v := by
  induction l with
  | nil => intro j h; simp [lead] at h
  | cons x t ih =>
    intro j h
    simp only [lead] at h
    split at h
    · rename_i e
      cases j with
      | zero => simp [e]
      | succ j => simpa using ih (by omega)
    · omega
theorem lead_end {v : Int} {l : List Int} (h : lead v l < l.length) : l[lead v l]? ≠ some v := by
  induction l with
  | nil => simp [lead] at h
  | cons x t ih =>
    simp only [lead, List.length_cons] at h ⊢
    split
    · rename_i e
      rw [if_pos e] at h
      simpa using ih (by omega)
    · rename_i e
      simpa using e
/-- the count is the only one with these two -/
theorem lead_eq {v : Int} {l : List Int} {k : Nat} (hk : k ≤ l.length) (h1 : ∀ j, j < k → l[j]? = some v) (h2 : k < l.length → l[k]? ≠ some v) : lead v l = k := by
  rcases Nat.lt_trichotomy (lead v l) k with h | h | h
  · exact absurd (h1 _ h) (lead_end (by omega))
  · exact h
  · exact absurd (lead_get h) (h2 (Nat.lt_of_lt_of_le h (lead_le v l)))
def sixes : Nat → Nat → List (Int × Int)
  | 0, _ => []
  | f + 1, k => if k < 3 then [] else (16, ((min k 6 : Nat) : Int)) :: sixes f (k - min k 6)
theorem sixes_enough {f g k : Nat} (hf : k ≤ f) (hg : k ≤ g) : sixes f k = sixes g k := by
  induction f generalizing g k with
  | zero =>
    have : k = 0 := by omega
    subst this
    cases g <;> simp [sixes]
  | succ f ih =>
    cases g with
    | zero =>
      have : k = 0 := by omega
      subst this
      simp [sixes]
    | succ g =>
      simp only [sixes]
      split
      · rfl
      · rw [ih (g := g) (by omega) (by omega)]
theorem sixes_step {k : Nat} (h : 3 ≤ k) : sixes k k = (16, ((min k 6 : Nat) : Int)) :: sixes (k - min k 6) (k - min k 6) := by
  obtain ⟨f, rfl⟩ : ∃ f, k = f + 1 := ⟨k - 1, by omega⟩
  simp only [sixes]
  rw [if_neg (by omega), sixes_enough (f := f) (g := f + 1 - min (f + 1) 6) (by omega) (by omega)]
theorem sixes_end {k : Nat} (h : k < 3) : sixes k k = [] := by
  cases k with
  | zero => rfl
  | succ k => simp only [sixes]; rw [if_pos h]
/-- how many lengths the sixteens of k lengths are -/
def sixed : Nat → Nat → Nat
  | 0, _ => 0
  | f + 1, k => if k < 3 then 0 else min k 6 + sixed f (k - min k 6)
theorem sixed_enough {f g k : Nat} (hf : k ≤ f) (hg : k ≤ g) : sixed f k = sixed g k := by
  induction f generalizing g k with
  | zero =>
    have : k = 0 := by omega
    subst this
    cases g <;> simp [sixed]
  | succ f ih =>
    cases g with
    | zero =>
      have : k = 0 := by omega
      subst this
      simp [sixed]
    | succ g =>
      simp only [sixed]
      split
      · rfl
      · rw [ih (g := g) (by omega) (by omega)]
theorem sixed_step {k : Nat} (h : 3 ≤ k) : sixed k k = min k 6 + sixed (k - min k 6) (k - min k 6) := by
  obtain ⟨f, rfl⟩ : ∃ f, k = f + 1 := ⟨k - 1, by omega⟩
  simp only [sixed]
  rw [if_neg (by omega), sixed_enough (f := f) (g := f + 1 - min (f + 1) 6) (by omega) (by omega)]
theorem sixed_end {k : Nat} (h : k < 3) : sixed k k = 0 := by
  cases k with
  | zero => rfl
  | succ k => simp only [sixed]; rw [if_pos h]
theorem sixed_le (f k : Nat) : sixed f k ≤ k := by
  induction f generalizing k with
  | zero => exact Nat.zero_le _
  | succ f ih =>
    simp only [sixed]
    split
    · omega
    · have := ih (k - min k 6); omega
/-- one row: k times v -/
def rowOf (v : Int) (k : Nat) : List (Int × Int) :=
  if v = 0 then (if 11 ≤ k then [(18, ((min k 138 : Nat) : Int))] else if 3 ≤ k then [(17, (k : Int))] else [(0, 1)]) else (v, 1) :: sixes (k - 1) (k - 1)
def rowLen (v : Int) (k : Nat) : Nat := if v = 0 then (if 11 ≤ k then min k 138 else if 3 ≤ k then k else 1) else 1 + sixed (k - 1) (k - 1)
theorem rowLen_pos (v : Int) (k : Nat) : 1 ≤ rowLen v k := by
  unfold rowLen
  split
  · split
    · omega
    · split <;> omega
  · omega
theorem rowLen_le (v : Int) {k : Nat} (h : 1 ≤ k) : rowLen v k ≤ k := by
  unfold rowLen
  split
  · split
    · omega
    · split <;> omega
  · have := sixed_le (k - 1) (k - 1); omega
def runsF : Nat → List Int → List (Int × Int)
  | 0, _ => []
  | _ + 1, [] => []
  | f + 1, v :: t => rowOf v (lead v t + 1) ++ runsF f ((v :: t).drop (rowLen v (lead v t + 1)))
def runs (l : List Int) : List (Int × Int) := runsF l.length l
theorem runsF_enough {f g : Nat} {l : List Int} (hf : l.length ≤ f) (hg : l.length ≤ g) : runsF f l = runsF g l := by
  induction f generalizing g l with
  | zero =>
    have : l = [] := List.eq_nil_of_length_eq_zero (by omega)
    subst this
    cases g <;> simp [runsF]
  | succ f ih =>
    cases l with
    | nil => cases g <;> simp [runsF]
    | cons v t =>
      cases g with
      | zero => simp at hg
      | succ g =>
        simp only [runsF]
        have h1 := rowLen_pos v (lead v t + 1)
        simp only [List.length_cons] at hf hg
        rw [ih (g := g) (by simp only [List.length_drop, List.length_cons]; omega) (by simp only [List.length_drop, List.length_cons]; omega)]
theorem runs_nil : runs [] = [] := rfl
theorem runs_cons (v : Int) (t : List Int) : runs (v :: t) = rowOf v (lead v t + 1) ++ runs ((v :: t).drop (rowLen v (lead v t + 1))) := by
  unfold runs
  simp only [List.length_cons, runsF]
  have h1 := rowLen_pos v (lead v t + 1)
  rw [runsF_enough (f := t.length) (g := ((v :: t).drop (rowLen v (lead v t + 1))).length) (by simp only [List.length_drop, List.length_cons]; omega) (Nat.le_refl _)]
end Go.Proofs.YtkdgfioigkijgaaGreat.Runs
/- Tokens that were made are the bytes; the first tokens are the first bytes. Plain Lean, no condition. -/
set_option maxRecDepth 100000
set_option linter.unusedVariables false
set_option linter.unusedSimpArgs false
namespace Go.Proofs.YtkdgfioigkijgaaGreat.Lz

/-- what a match that was found is -/
def Good (d : List Int) (p w : Nat) (r : Nat × Nat) : Prop := r.1 = 0 ∨ (3 ≤ r.1 ∧ r.1 ≤ 258 ∧ 1 ≤ r.2 ∧ r.2 ≤ w ∧ r.2 ≤ p ∧ p + r.1 ≤ d.length ∧ ∀ j, j < r.1 → at0 d (p - r.2 + j) = at0 d (p + j))
theorem bestF_good {d : List Int} {p w : Nat} (hp : p ≤ d.length) : ∀ q ch b s, q ≤ p → Good d p w (b, s) → Good d p w (bestF d p w q ch b s)
  | 0, ch, b, s, _, h => h
  | q + 1, ch, b, s, hq, h => by
    simp only [bestF]
    split
    · rename_i hc
      split
      · exact bestF_good hp q ch b s (by omega) h
      · rename_i h3
        split
        · refine bestF_good hp q _ _ _ (by omega) (.inr ?_)
          refine ⟨by omega, alike_le d q p, by omega, hc.1, by omega, alike_len d q p hp, fun j hj => ?_⟩
          rw [show p - (p - q) + j = q + j from by omega]
          exact alike_same hj
        · exact bestF_good hp q _ b s (by omega) h
    · exact h
theorem best_good {d : List Int} {p w ch : Nat} (hp : p ≤ d.length) : Good d p w (best d p w ch) := bestF_good hp p ch 0 0 (Nat.le_refl _) (.inl rfl)
theorem take_at {d : List Int} {p : Nat} (h : p < d.length) : d.take p ++ [at0 d p] = d.take (p + 1) := by
  rw [List.take_succ_eq_append_getElem h]
  unfold at0
  rw [List.getD_eq_getElem?_getD, List.getElem?_eq_getElem h]
  rfl
theorem copy_take {d : List Int} {dist : Nat} (hd : 1 ≤ dist) : ∀ k p, dist ≤ p → p + k ≤ d.length → (∀ j, j < k → at0 d (p - dist + j) = at0 d (p + j)) → copyF dist k (d.take p) = d.take (p + k)
  | 0, p, _, _, _ => rfl
  | k + 1, p, h1, h2, h3 => by
    simp only [copyF]
    have e : at0 (d.take p) ((d.take p).length - dist) = at0 d p := by
      have h0 := h3 0 (by omega)
      simp only [Nat.add_zero] at h0
      rw [← h0]
      have : (d.take p).length = p := by rw [List.length_take]; omega
      unfold at0
      rw [this, List.getD_eq_getElem?_getD, List.getD_eq_getElem?_getD, List.getElem?_take, if_pos (by omega)]
    rw [e, take_at (by omega), copy_take hd k (p + 1) (by omega) (by omega) (fun j hj => ?_)]
    · congr 1; omega
    · have := h3 (j + 1) (by omega)
      rw [show p + 1 - dist + j = p - dist + (j + 1) from by omega, show p + 1 + j = p + (j + 1) from by omega]
      exact this
theorem taken_good {d : List Int} {k : Opt} {p : Nat} (hp : p ≤ d.length) : taken d k p = 0 ∨ taken d k p = (best d p k.window.toNat k.chain.toNat).1 := by
  unfold taken
  split
  · exact .inl rfl
  · exact .inr rfl
theorem tok_right {d : List Int} {k : Opt} {p : Nat} (hk : optErr k = 0) (hp : p < d.length) :
    right (tokAt d k p) = true ∧ (tokAt d k p).dist ≤ k.window ∧ (tokAt d k p).dist ≤ (p : Nat) ∧ width (tokAt d k p) = stepAt d k p ∧ p + stepAt d k p ≤ d.length ∧ tokF (tokAt d k p) (d.take p) = d.take (p + stepAt d k p) := by
  have hw : 1 ≤ k.window ∧ k.window ≤ 32768 := by
    unfold optErr at hk
    split at hk
    · cases hk
    · omega
  by_cases h0 : taken d k p = 0
  · have e : tokAt d k p = ⟨at0 d p, 0, 0⟩ := by unfold tokAt; rw [if_pos h0]
    have e1 : stepAt d k p = 1 := by unfold stepAt; rw [if_pos h0]
    rw [e, e1]
    refine ⟨rfl, by simp only; omega, by simp, rfl, by omega, ?_⟩
    show copyF 0 0 _ = _
    exact take_at hp
  · have e : tokAt d k p = ⟨0, taken d k p, (best d p k.window.toNat k.chain.toNat).2⟩ := by unfold tokAt; rw [if_neg h0]
    have e1 : stepAt d k p = taken d k p := by unfold stepAt; rw [if_neg h0]
    have e2 := (taken_good (d := d) (k := k) (p := p) (by omega)).resolve_left h0
    obtain hb | ⟨b1, b2, b3, b4, b5, b6, b7⟩ := best_good (d := d) (p := p) (w := k.window.toNat) (ch := k.chain.toNat) (by omega)
    · omega
    · rw [e, e1, e2]
      generalize best d p k.window.toNat k.chain.toNat = r at *
      obtain ⟨n, s⟩ := r
      simp only at b1 b2 b3 b4 b5 b6 b7 ⊢
      have hr : right ⟨0, (n : Int), (s : Int)⟩ = true := by
        unfold right
        rw [if_neg (by simp only; omega)]
        exact decide_eq_true (show 3 ≤ (n : Int) ∧ (n : Int) ≤ 258 ∧ 1 ≤ (s : Int) ∧ (s : Int) ≤ 32768 ∧ (0 : Int) = 0 from ⟨by omega, by omega, by omega, by omega, rfl⟩)
      refine ⟨hr, by omega, by omega, ?_, b6, ?_⟩
      · unfold width
        rw [if_pos hr, if_neg (by simp only; omega)]
        simp
      · unfold tokF
        rw [if_neg (by simp only; omega)]
        simp only [Int.toNat_natCast]
        exact copy_take b3 n p b5 b6 b7
theorem parse_back {d : List Int} {k : Opt} (hk : optErr k = 0) : ∀ f p i, p ≤ d.length → d.length ≤ f + p →
    checkF k.window (parseF d k f p) i p = (0, 0) ∧ expF (parseF d k f p) (d.take p) = d ∧ p + sizeOf (parseF d k f p) = d.length ∧ p + (parseF d k f p).length ≤ d.length
  | 0, p, i, h, hf => by
    obtain rfl : p = d.length := by omega
    simp [parseF, checkF, expF, sizeOf]
  | f + 1, p, i, h, hf => by
    simp only [parseF]
    by_cases hp : p < d.length
    · rw [if_pos hp]
      obtain ⟨r1, r2, r3, r4, r5, r6⟩ := tok_right (d := d) hk hp
      have hs := stepAt_pos d k p
      obtain ⟨i1, i2, i3, i4⟩ := parse_back (d := d) hk f (p + stepAt d k p) (i + 1) r5 (by omega)
      refine ⟨?_, ?_, ?_, ?_⟩
      · simp only [checkF]
        rw [if_neg (by rw [r1]; simp), if_neg (by omega), r4]
        exact i1
      · simp only [expF]
        rw [r6]
        exact i2
      · simp only [sizeOf, List.map_cons, List.sum_cons] at i3 ⊢
        rw [r4]; omega
      · simp only [List.length_cons]; omega
    · rw [if_neg hp]
      obtain rfl : p = d.length := by omega
      simp [checkF, expF, sizeOf]
/-- tokens that were made are the bytes -/
theorem parse_law {d : List Int} {k : Opt} (hk : optErr k = 0) : check k.window (parse d k) = (0, 0) ∧ expand k.window (parse d k) = d ∧ sizeOf (parse d k) = d.length ∧ (parse d k).length ≤ d.length := by
  have hw : 1 ≤ k.window ∧ k.window ≤ 32768 := by
    unfold optErr at hk
    split at hk
    · cases hk
    · omega
  obtain ⟨i1, i2, i3, i4⟩ := parse_back (d := d) hk d.length 0 0 (Nat.zero_le _) (by omega)
  have e : parse d k = parseF d k d.length 0 := by unfold parse; rw [if_pos hk]
  have c : check k.window (parse d k) = (0, 0) := by unfold check; rw [if_neg (by omega), e]; exact i1
  refine ⟨c, ?_, by rw [e]; omega, by rw [e]; omega⟩
  unfold expand
  rw [if_pos (by rw [c]), e]
  exact i2
/-! ### the first tokens are the first bytes -/
end Go.Proofs.YtkdgfioigkijgaaGreat.Lz
