/- Stable sorting, plain: rows as functions of places. Plain Lean, no condition. -/
set_option linter.unusedVariables false
set_option linter.unusedSimpArgs false
namespace Go.Proofs.Ytofajcifjmhomaa.Sorts

section
variable {α : Type}
def lst (n : Nat) (d : Nat → α) : List α := (List.range n).map d
theorem lst_len (n : Nat) (d : Nat → α) : (lst n d).length = n := by simp [lst]
theorem lst_get {n : Nat} {d : Nat → α} {i : Nat} (h : i < n) : (lst n d)[i]? = some (d i) := by simp [lst, h]
/-- two places exchanged -/
def sw (d : Nat → α) (i j : Nat) : Nat → α := fun k => if k = i then d j else if k = j then d i else d k
theorem sw_perm {n : Nat} {d : Nat → α} {i j : Nat} (hi : i < n) (hj : j < n) : (lst n (sw d i j)).Perm (lst n d) := by
  have h := List.set_set_perm (as := lst n d) (i := i) (j := j) (by rw [lst_len]; exact hi) (by rw [lst_len]; exact hj)
  have gi : (lst n d)[i]'(by rw [lst_len]; exact hi) = d i := by simp [lst]
  have gj : (lst n d)[j]'(by rw [lst_len]; exact hj) = d j := by simp [lst]
  rw [gi, gj] at h
  have e : ((lst n d).set i (d j)).set j (d i) = lst n (sw d i j) := by
    apply List.ext_getElem?
    intro k
    by_cases hk : k < n
    · rw [lst_get hk, List.getElem?_set, List.getElem?_set, List.length_set, lst_len]
      unfold sw
      by_cases e1 : j = k
      · rw [if_pos e1, if_pos (by omega)]
        by_cases e2 : k = i
        · rw [if_pos e2]; congr 1; rw [e1, e2]
        · rw [if_neg e2, if_pos e1.symm]
      · rw [if_neg e1]
        by_cases e2 : i = k
        · rw [if_pos e2, if_pos (by omega), if_pos e2.symm]
        · rw [if_neg e2, if_neg (fun e => e2 e.symm), if_neg (fun e => e1 e.symm), lst_get hk]
    · rw [List.getElem?_eq_none (by simp [lst_len]; omega), List.getElem?_eq_none (by rw [lst_len]; omega)]
  rw [e] at h
  exact h
/-- changed between a and b alone, and no element lost -/
structure Ch (n a b : Nat) (d d' : Nat → α) : Prop where
  out : ∀ k, ¬ (a ≤ k ∧ k < b) → d' k = d k
  inn : ∀ k, a ≤ k → k < b → ∃ j, a ≤ j ∧ j < b ∧ d' k = d j
  pm : (lst n d').Perm (lst n d)
theorem Ch.refl (n a b : Nat) (d : Nat → α) : Ch n a b d d := ⟨fun _ _ => rfl, fun k h1 h2 => ⟨k, h1, h2, rfl⟩, List.Perm.refl _⟩
theorem Ch.trans {n a b : Nat} {d e f : Nat → α} (h : Ch n a b d e) (k : Ch n a b e f) : Ch n a b d f :=
  ⟨fun x hx => (k.out x hx).trans (h.out x hx), fun x h1 h2 => by
    obtain ⟨j, j1, j2, e1⟩ := k.inn x h1 h2
    obtain ⟨i, i1, i2, e2⟩ := h.inn j j1 j2
    exact ⟨i, i1, i2, e1.trans e2⟩, k.pm.trans h.pm⟩
theorem Ch.wide {n a b a' b' : Nat} {d e : Nat → α} (h : Ch n a b d e) (ha : a' ≤ a) (hb : b ≤ b') : Ch n a' b' d e :=
  ⟨fun x hx => h.out x (by omega), fun x h1 h2 => by
    by_cases hx : a ≤ x ∧ x < b
    · obtain ⟨j, j1, j2, e⟩ := h.inn x hx.1 hx.2
      exact ⟨j, by omega, by omega, e⟩
    · exact ⟨x, h1, h2, h.out x hx⟩, h.pm⟩
theorem Ch.sw {n a b i j : Nat} (d : Nat → α) (hb : b ≤ n) (hi : a ≤ i ∧ i < b) (hj : a ≤ j ∧ j < b) : Ch n a b d (sw d i j) :=
  ⟨fun k hk => by unfold Sorts.sw; rw [if_neg (by omega), if_neg (by omega)], fun k h1 h2 => by
    unfold Sorts.sw
    by_cases e1 : k = i
    · rw [if_pos e1]; exact ⟨j, hj.1, hj.2, rfl⟩
    · rw [if_neg e1]
      by_cases e2 : k = j
      · rw [if_pos e2]; exact ⟨i, hi.1, hi.2, rfl⟩
      · rw [if_neg e2]; exact ⟨k, h1, h2, rfl⟩, sw_perm (by omega) (by omega)⟩
/-- two ranges exchanged -/
def swr (d : Nat → α) (a b n : Nat) : Nat → α := fun x => if a ≤ x ∧ x < a + n then d (b + (x - a)) else if b ≤ x ∧ x < b + n then d (a + (x - b)) else d x
theorem swr_zero (d : Nat → α) (a b : Nat) : swr d a b 0 = d := by
  funext x; unfold swr; rw [if_neg (by omega), if_neg (by omega)]
theorem swr_step (d : Nat → α) {a b i : Nat} (h : a + i < b) : sw (swr d a b i) (a + i) (b + i) = swr d a b (i + 1) := by
  funext x
  unfold sw swr
  by_cases e1 : x = a + i
  · rw [if_pos e1, if_neg (by omega), if_neg (by omega), if_pos (by omega)]
    congr 1; omega
  · rw [if_neg e1]
    by_cases e2 : x = b + i
    · rw [if_pos e2, if_neg (by omega), if_neg (by omega), if_neg (by omega), if_pos (by omega)]
      congr 1; omega
    · rw [if_neg e2]
      by_cases e3 : a ≤ x ∧ x < a + i
      · rw [if_pos e3, if_pos (by omega)]
      · rw [if_neg e3, if_neg (show ¬ (a ≤ x ∧ x < a + (i + 1)) from by omega)]
        by_cases e4 : b ≤ x ∧ x < b + i
        · rw [if_pos e4, if_pos (by omega)]
        · rw [if_neg e4, if_neg (by omega)]
theorem Ch.swr {n lo hi a b : Nat} (d : Nat → α) : ∀ c, lo ≤ a → a + c ≤ b → b + c ≤ hi → hi ≤ n → Ch n lo hi d (swr d a b c)
  | 0, _, _, _, _ => by rw [swr_zero]; exact Ch.refl _ _ _ _
  | c + 1, h1, h2, h3, h4 => by
    rw [← swr_step d (by omega)]
    exact (Ch.swr d c h1 (by omega) (by omega) h4).trans (Ch.sw _ h4 ⟨by omega, by omega⟩ ⟨by omega, by omega⟩)
/-- two neighbouring ranges exchanged: where all is to stand -/
def rot (d : Nat → α) (a m b : Nat) : Nat → α := fun x => if a ≤ x ∧ x < a + (b - m) then d (m + (x - a)) else if a + (b - m) ≤ x ∧ x < b then d (x - (b - m)) else d x
/-- on the way there: i and j are still to be exchanged around m -/
structure Rot (n a m b i j : Nat) (d0 d : Nat → α) : Prop where
  ch : Ch n a b d0 d
  bd : 0 < i ∧ 0 < j ∧ i ≤ m - a ∧ j ≤ b - m
  out : ∀ k, ¬ (m - i ≤ k ∧ k < m + j) → d k = rot d0 a m b k
  lo : ∀ k, k < j → rot d0 a m b (m - i + k) = d (m + k)
  hi : ∀ k, k < i → rot d0 a m b (m - i + j + k) = d (m - i + k)
theorem Rot.start {n a m b : Nat} (d : Nat → α) (h1 : a < m) (h2 : m < b) : Rot n a m b (m - a) (b - m) d d :=
  ⟨Ch.refl _ _ _ _, by omega, fun k hk => by unfold rot; rw [if_neg (by omega), if_neg (by omega)],
    fun k hk => by unfold rot; rw [if_pos (by omega)]; congr 1; omega,
    fun k hk => by unfold rot; rw [if_neg (by omega), if_pos (by omega)]; congr 1; omega⟩
theorem Rot.left {n a m b i j : Nat} {d0 d : Nat → α} (h : Rot n a m b i j d0 d) (hij : j < i) (hm : a < m) (hb : m < b) (hn : b ≤ n) : Rot n a m b (i - j) j d0 (swr d (m - i) m j) := by
  obtain ⟨ch, bd, out, lo, hi⟩ := h
  refine ⟨ch.trans (Ch.swr d j (by omega) (by omega) (by omega) hn), by omega, fun k hk => ?_, fun k hk => ?_, fun k hk => ?_⟩
  · unfold swr
    by_cases e : m - i ≤ k ∧ k < m - i + j
    · rw [if_pos e]
      have := lo (k - (m - i)) (by omega)
      rw [show m - i + (k - (m - i)) = k from by omega] at this
      exact this.symm
    · rw [if_neg e, if_neg (by omega)]
      exact out k (by omega)
  · unfold swr
    rw [if_neg (by omega), if_pos (by omega)]
    have := hi k (by omega)
    rw [show m - (i - j) + k = m - i + j + k from by omega, this]
    congr 1; omega
  · unfold swr
    rw [if_neg (by omega), if_neg (by omega)]
    have := hi (j + k) (by omega)
    rw [show m - (i - j) + j + k = m - i + j + (j + k) from by omega, this]
    congr 1; omega
theorem Rot.right {n a m b i j : Nat} {d0 d : Nat → α} (h : Rot n a m b i j d0 d) (hij : i < j) (hm : a < m) (hb : m < b) (hn : b ≤ n) : Rot n a m b i (j - i) d0 (swr d (m - i) (m + j - i) i) := by
  obtain ⟨ch, bd, out, lo, hi⟩ := h
  refine ⟨ch.trans (Ch.swr d i (by omega) (by omega) (by omega) hn), by omega, fun k hk => ?_, fun k hk => ?_, fun k hk => ?_⟩
  · unfold swr
    by_cases e : m + j - i ≤ k ∧ k < m + j - i + i
    · rw [if_neg (by omega), if_pos e]
      have := hi (k - (m + j - i)) (by omega)
      rw [show m - i + j + (k - (m + j - i)) = k from by omega] at this
      exact this.symm
    · rw [if_neg (by omega), if_neg e]
      exact out k (by omega)
  · unfold swr
    rw [if_neg (by omega), if_neg (by omega)]
    exact lo k (by omega)
  · unfold swr
    rw [if_pos (by omega)]
    have := lo (j - i + k) (by omega)
    rw [show m - i + (j - i) + k = m - i + (j - i + k) from by omega, this]
    congr 1; omega
theorem Rot.last {n a m b i : Nat} {d0 d : Nat → α} (h : Rot n a m b i i d0 d) (hm : a < m) (hb : m < b) (hn : b ≤ n) : swr d (m - i) m i = rot d0 a m b ∧ Ch n a b d0 (swr d (m - i) m i) := by
  obtain ⟨ch, bd, out, lo, hi⟩ := h
  refine ⟨?_, ch.trans (Ch.swr d i (by omega) (by omega) (by omega) hn)⟩
  funext k
  unfold swr
  by_cases e : m - i ≤ k ∧ k < m - i + i
  · rw [if_pos e]
    have := lo (k - (m - i)) (by omega)
    rw [show m - i + (k - (m - i)) = k from by omega] at this
    exact this.symm
  · rw [if_neg e]
    by_cases e2 : m ≤ k ∧ k < m + i
    · rw [if_pos e2]
      have := hi (k - m) (by omega)
      rw [show m - i + i + (k - m) = k from by omega] at this
      exact this.symm
    · rw [if_neg e2]
      exact out k (by omega)
variable (key : α → Int) (rk : α → Nat)
def lx (x y : α) : Prop := key x < key y ∨ (key x = key y ∧ rk x < rk y)
variable {key rk}
theorem lx_trans {x y z : α} (h : lx key rk x y) (k : lx key rk y z) : lx key rk x z := by
  unfold lx at *; omega
variable (key rk)
def Srt (d : Nat → α) (a b : Nat) : Prop := ∀ i j, a ≤ i → i < j → j < b → lx key rk (d i) (d j)
/-- the insertion of what stood at i, now at j -/
structure Ins (n a i j : Nat) (d0 d : Nat → α) : Prop where
  ch : Ch n a (i + 1) d0 d
  bd : a ≤ j ∧ j ≤ i
  srt : ∀ p q, a ≤ p → p < q → q ≤ i → p ≠ j → q ≠ j → lx key rk (d p) (d q)
  up : ∀ q, j < q → q ≤ i → lx key rk (d j) (d q)
  rks : ∀ p, a ≤ p → p ≤ i → p ≠ j → rk (d p) < rk (d j)
variable {key rk}
theorem Ins.start {n a i : Nat} {d : Nat → α} (h : Srt key rk d a i) (hr : ∀ p, a ≤ p → p < i → rk (d p) < rk (d i)) (hi : a ≤ i) : Ins key rk n a i i d d :=
  ⟨Ch.refl _ _ _ _, by omega, fun p q h1 h2 h3 h4 h5 => h p q h1 h2 (by omega), fun q h1 h2 => by omega, fun p h1 h2 h3 => hr p h1 (by omega)⟩
theorem Ins.step {n a i j : Nat} {d0 d : Nat → α} (h : Ins key rk n a i j d0 d) (hj : a < j) (hn : i < n) (hk : key (d j) < key (d (j - 1))) : Ins key rk n a i (j - 1) d0 (sw d j (j - 1)) := by
  obtain ⟨ch, bd, srt, up, rks⟩ := h
  have sj : sw d j (j - 1) j = d (j - 1) := by unfold sw; rw [if_pos rfl]
  have sp : sw d j (j - 1) (j - 1) = d j := by unfold sw; rw [if_neg (by omega), if_pos rfl]
  have so : ∀ k, k ≠ j → k ≠ j - 1 → sw d j (j - 1) k = d k := fun k h1 h2 => by unfold sw; rw [if_neg h1, if_neg h2]
  refine ⟨ch.trans (Ch.sw d (by omega) ⟨by omega, by omega⟩ ⟨by omega, by omega⟩), by omega, fun p q h1 h2 h3 h4 h5 => ?_, fun q h1 h2 => ?_, fun p h1 h2 h3 => ?_⟩
  · by_cases e1 : p = j
    · rw [e1, sj, so q (by omega) (by omega)]; exact srt _ _ (by omega) (by omega) h3 (by omega) (by omega)
    · by_cases e2 : q = j
      · rw [e2, sj, so p (by omega) (by omega)]; exact srt _ _ h1 (by omega) (by omega) (by omega) (by omega)
      · rw [so p e1 h4, so q e2 h5]; exact srt p q h1 h2 h3 e1 e2
  · rw [sp]
    by_cases e2 : q = j
    · rw [e2, sj]; exact .inl hk
    · rw [so q e2 (by omega)]; exact up q (by omega) h2
  · rw [sp]
    by_cases e2 : p = j
    · rw [e2, sj]; exact rks _ (by omega) (by omega) (by omega)
    · rw [so p e2 h3]; exact rks p h1 h2 e2
theorem Ins.done {n a i j : Nat} {d0 d : Nat → α} (h : Ins key rk n a i j d0 d) (hs : j = a ∨ ¬ key (d j) < key (d (j - 1))) : Srt key rk d a (i + 1) := by
  obtain ⟨ch, bd, srt, up, rks⟩ := h
  intro p q h1 h2 h3
  by_cases e1 : p = j
  · rw [e1]; exact up q (by omega) (by omega)
  · by_cases e2 : q = j
    · rw [e2]
      rcases hs with hs | hs
      · omega
      · have h4 : lx key rk (d (j - 1)) (d j) := by
          have := rks (j - 1) (by omega) (by omega) (by omega)
          unfold lx; omega
        by_cases e3 : p = j - 1
        · rw [e3]; exact h4
        · exact lx_trans (srt p (j - 1) h1 (by omega) (by omega) e1 (by omega)) h4
    · exact srt p q h1 h2 (by omega) e1 e2
end
end Go.Proofs.Ytofajcifjmhomaa.Sorts
