/- Package-merge, plain: what stands behind the first 2n - 2 items is never taken; bounds. Plain Lean, no condition. -/
import Derived.Test.YtofajcifjmhomaaPm2
set_option maxRecDepth 100000
set_option linter.unusedVariables false
set_option linter.unusedSimpArgs false
namespace Go.Proofs.Ytofajcifjmhomaa.Pm

theorem row_len_le (L : List T) : ∀ j, (row L j).length ≤ 2 * L.length
  | 0 => by simp only [row]; omega
  | j + 1 => by rw [row_len]; have := row_len_le L j; omega
theorem pk_all {P : T → Prop} (hP : ∀ a b, P a → P b → P (.pack a b)) : ∀ (l : List T), (∀ t ∈ l, P t) → ∀ t ∈ pk l, P t
  | [], _, t, h => by simp [pk] at h
  | [a], _, t, h => by simp [pk] at h
  | a :: b :: l, hl, t, h => by
    simp only [pk, List.mem_cons] at h
    rcases h with rfl | h
    · exact hP a b (hl a (by simp)) (hl b (by simp))
    · exact pk_all hP l (fun t ht => hl t (by simp [ht])) t h
theorem row_all {P : T → Prop} (hP : ∀ a b, P a → P b → P (.pack a b)) {L : List T} (h : ∀ t ∈ L, P t) : ∀ j, ∀ t ∈ row L j, P t
  | 0 => h
  | j + 1 => fun t ht => by
    rw [row] at ht
    rcases List.mem_append.1 ((mg_perm _ _).mem_iff.1 ht) with h1 | h1
    · exact h t h1
    · exact pk_all hP _ (row_all hP h j) t h1
theorem pk_wt {M : Nat} : ∀ (l : List T), (∀ t ∈ l, t.wt ≤ M) → ∀ t ∈ pk l, t.wt ≤ 2 * M
  | [], _, t, h => by simp [pk] at h
  | [a], _, t, h => by simp [pk] at h
  | a :: b :: l, hl, t, h => by
    simp only [pk, List.mem_cons] at h
    rcases h with rfl | h
    · have := hl a (by simp); have := hl b (by simp); simp only [T.wt]; omega
    · exact pk_wt l (fun t ht => hl t (by simp [ht])) t h
theorem row_wt {M : Nat} {L : List T} (h : ∀ t ∈ L, t.wt ≤ M) : ∀ j, ∀ t ∈ row L j, t.wt ≤ 2 ^ j * M
  | 0 => fun t ht => by have := h t ht; simp; omega
  | j + 1 => fun t ht => by
    rw [row] at ht
    rcases List.mem_append.1 ((mg_perm _ _).mem_iff.1 ht) with h1 | h1
    · have := h t h1
      have : M ≤ 2 ^ (j + 1) * M := Nat.le_mul_of_pos_left _ (Nat.two_pow_pos _)
      omega
    · have := pk_wt _ (row_wt h j) t h1
      rw [Nat.pow_succ, Nat.mul_comm _ 2, Nat.mul_assoc]; exact this
/-- how often one symbol is chosen -/
theorem cl_bd {L : List T} {sy : Nat → Nat} (hl : Leaves L sy) (hi : Inj sy L.length) {J m : Nat} {a : Nat → Nat} (h : Sel L J m a) (s : Nat) : cl ((row L J).take m) s ≤ J + 1 := by
  rw [h.cl]
  have : sumN (fun k => cl (L.take (a k)) s) (J + 1) ≤ sumN (fun _ => 1) (J + 1) := sumN_le _ fun k _ => by
    by_cases e : ∃ r, r < L.length ∧ sy r = s
    · obtain ⟨r, hr, rfl⟩ := e
      rw [cl_take hl hi hr _ (h.le k)]
      split <;> omega
    · rw [cl_none hl (fun r hr he => e ⟨r, hr, he⟩)]; omega
  have e : ∀ n, sumN (fun _ => 1) n = n := by
    intro n
    induction n with
    | zero => rfl
    | succ n ih => rw [sumN, ih]
  rw [e] at this
  exact this
theorem cl_len {L : List T} {sy : Nat → Nat} (hl : Leaves L sy) (hi : Inj sy L.length) {J m : Nat} {a : Nat → Nat} (h : Sel L J m a) {r : Nat} (hr : r < L.length) : cl ((row L J).take m) (sy r) = lenR a J r := by
  rw [h.cl]
  exact sumN_congr _ fun k _ => cl_take hl hi hr _ (h.le k)
/-- the second row's rest is of no account -/
theorem mg_cut : ∀ (a b : List T) (k m : Nat), m - k ≤ a.length → (∀ y ∈ b.drop k, ∀ x ∈ a.take (m - k), x.wt ≤ y.wt) → (mg a b).take m = (mg a (b.take k)).take m := by
  intro a
  induction a with
  | nil =>
    intro b k m h1 h2
    simp only [List.length_nil, Nat.le_zero_eq] at h1
    rw [mg_nil, mg_nil, List.take_take, Nat.min_eq_left (by omega)]
  | cons x a iha =>
    intro b
    induction b with
    | nil => intro k m h1 h2; simp
    | cons y b ihb =>
      intro k m h1 h2
      cases m with
      | zero => simp
      | succ m =>
        cases k with
        | zero =>
          have hx := h2 y (by simp) x (by simp)
          rw [mg_le _ _ hx, List.take_zero, mg_nil', List.take_succ_cons, List.take_succ_cons]
          congr 1
          have := iha (y :: b) 0 m (by simp at h1; omega) (fun z hz u hu => h2 z hz u (by simp only [Nat.sub_zero, List.take_succ_cons] at hu ⊢; exact List.mem_cons_of_mem _ hu))
          rw [List.take_zero, mg_nil'] at this
          exact this
        | succ k =>
          rw [List.take_succ_cons]
          by_cases hxy : x.wt ≤ y.wt
          · rw [mg_le _ _ hxy, mg_le _ _ hxy, List.take_succ_cons, List.take_succ_cons]
            congr 1
            have := iha (y :: b) (k + 1) m (by simp at h1; omega) (fun z hz u hu => by
              by_cases e : m - (k + 1) = 0
              · rw [e] at hu; simp at hu
              · refine h2 z hz u ?_
                rw [show m + 1 - (k + 1) = (m - (k + 1)) + 1 from by omega, List.take_succ_cons]
                exact List.mem_cons_of_mem _ hu)
            rw [List.take_succ_cons] at this
            exact this
          · rw [mg_gt _ _ hxy, mg_gt _ _ hxy, List.take_succ_cons, List.take_succ_cons]
            congr 1
            exact ihb k m (by omega) (fun z hz u hu => h2 z (by simpa using hz) u (by rw [show m + 1 - (k + 1) = m - k from by omega]; exact hu))
theorem take_le {R : List T} (hs : Sd R) {i : Nat} (hi : i < R.length) : ∀ x ∈ R.take i, x.wt ≤ R[i].wt := by
  intro x hx
  obtain ⟨j, hj⟩ := List.mem_iff_getElem?.1 hx
  rw [List.getElem?_take] at hj
  split at hj
  · rename_i h1
    rw [List.getElem?_eq_getElem (by omega)] at hj
    injection hj with hj
    subst hj
    exact List.pairwise_iff_getElem.1 hs j i (by omega) hi h1
  · cases hj
/-- the first 2n - 2 hold all leaves but one -/
theorem row_leaves {L : List T} (hs : Sd L) (hn : 2 ≤ L.length) : ∀ j, ∀ x ∈ L.take (L.length - 1), x ∈ (row L j).take (2 * L.length - 2) := by
  intro j
  induction j with
  | zero =>
    intro x hx
    rw [row, List.take_of_length_le (by omega)]
    exact List.mem_of_mem_take hx
  | succ j ih =>
    intro x hx
    by_cases hlen : 2 * L.length - 2 ≤ L.length + (pk (row L j)).length
    · obtain ⟨i, p, e, h1, h2, h3, h4, h5⟩ := mg_split L (pk (row L j)) (2 * L.length - 2) hs (pk_sd _ (row_sd hs j)) hlen
      rw [row]
      refine h3.mem_iff.2 (List.mem_append.2 (.inl ?_))
      have hi : L.length - 1 ≤ i := by
        by_cases hq : L.length - 1 ≤ i
        · exact hq
        · exfalso
          rw [pk_len] at h2
          have e1 := pk_get (row L j) (L.length - 1) (by omega)
          have m1 : L[i]'(by omega) ∈ L.take (L.length - 1) := by
            rw [List.mem_iff_getElem?]; exact ⟨i, by rw [List.getElem?_take, if_pos (by omega), List.getElem?_eq_getElem]⟩
          have m2 := ih _ m1
          have q1 := take_le (row_sd hs j) (i := 2 * L.length - 2) (by omega) _ m2
          have q2 := h4 _ (show _ ∈ (pk (row L j)).take p from by
            rw [List.mem_iff_getElem?]
            exact ⟨L.length - 1, by rw [List.getElem?_take, if_pos (by omega)]; exact e1⟩) (L[i]'(by omega)) (by rw [List.mem_iff_getElem?]; exact ⟨0, by rw [List.getElem?_drop]; simp⟩)
          simp only [T.wt] at q2
          simp only [show 2 * (L.length - 1) = 2 * L.length - 2 from by omega] at q2
          omega
      obtain ⟨r, hr⟩ := List.mem_iff_getElem?.1 hx
      rw [List.getElem?_take] at hr
      split at hr
      · rw [List.mem_iff_getElem?]; exact ⟨r, by rw [List.getElem?_take, if_pos (by omega)]; exact hr⟩
      · cases hr
    · rw [row, List.take_of_length_le (by rw [mg_len]; omega)]
      exact (mg_perm _ _).mem_iff.2 (List.mem_append.2 (.inl (List.mem_of_mem_take hx)))
/-- the document's rows -/
def rrow (L : List T) : Nat → List T
  | 0 => L
  | j + 1 => (mg L (pk (rrow L j))).take (2 * L.length - 2)
theorem rrow_eq {L : List T} (hs : Sd L) (hn : 2 ≤ L.length) : ∀ j, rrow L j = (row L j).take (2 * L.length - 2)
  | 0 => by rw [rrow, row, List.take_of_length_le (by omega)]
  | j + 1 => by
    rw [rrow, row, rrow_eq hs hn j]
    have e := pk_take (L.length - 1) (row L j)
    rw [show 2 * (L.length - 1) = 2 * L.length - 2 from by omega] at e
    rw [← e]
    refine (mg_cut L (pk (row L j)) (L.length - 1) (2 * L.length - 2) (by omega) (fun y hy x hx => ?_)).symm
    rw [show 2 * L.length - 2 - (L.length - 1) = L.length - 1 from by omega] at hx
    obtain ⟨t, ht⟩ := List.mem_iff_getElem?.1 hy
    rw [List.getElem?_drop] at ht
    have hlt : L.length - 1 + t < (pk (row L j)).length := by
      by_cases h : L.length - 1 + t < (pk (row L j)).length
      · exact h
      · rw [List.getElem?_eq_none (by omega)] at ht; cases ht
    rw [pk_len] at hlt
    have e1 := pk_get (row L j) (L.length - 1 + t) (by omega)
    rw [e1] at ht
    injection ht with ht
    subst ht
    have q1 := take_le (row_sd hs j) (i := 2 * (L.length - 1 + t)) (by omega) x (by
      have := row_leaves hs hn j x hx
      obtain ⟨r, hr⟩ := List.mem_iff_getElem?.1 this
      rw [List.getElem?_take] at hr
      split at hr
      · rw [List.mem_iff_getElem?]; exact ⟨r, by rw [List.getElem?_take, if_pos (by omega)]; exact hr⟩
      · cases hr)
    simp only [T.wt]
    omega
theorem long (L : List T) (J : Nat) (h : L.length ≤ 2 ^ (J + 1)) : 2 * L.length - 2 ≤ (row L J).length := by
  have := row_long L J J (Nat.le_refl _) h
  rw [show J + 1 - J = 1 from by omega] at this
  omega
end Go.Proofs.Ytofajcifjmhomaa.Pm
