/- The nearest matches, and how many bits a distance has: plain Lean. No condition. -/
import Derived.Test.YtbfdokklhdmmoaaLzPlain2
set_option linter.unusedVariables false
set_option linter.unusedSimpArgs false
namespace Go.Proofs.Ytbfdokklhdmmoaa.Lz

def bitsF : Nat → Nat → Nat
  | 0, _ => 0
  | f + 1, d => if d = 0 then 0 else bitsF f (d / 2) + 1
/-- how many bits a number has -/
def bitLen (d : Nat) : Nat := bitsF 64 d
theorem bitsF_le : ∀ f d, bitsF f d ≤ f
  | 0, d => Nat.le_refl _
  | f + 1, d => by
    simp only [bitsF]
    split
    · omega
    · have := bitsF_le f (d / 2); omega
def nearF (d : List Int) (p n w : Nat) : Nat → Nat → Nat
  | 0, _ => 0
  | f + 1, k => if k ≤ w ∧ k ≤ p then (if n ≤ alike d (p - k) p then k else nearF d p n w f (k + 1)) else 0
/-- the least distance at which n bytes from a place on stand within the window; 0: there is none -/
def near (d : List Int) (p n w : Nat) : Nat := nearF d p n w (p + 1) 1
theorem nearF_none {d : List Int} {p n w : Nat} : ∀ f k, (∀ j, k ≤ j → j ≤ w → j ≤ p → alike d (p - j) p < n) → nearF d p n w f k = 0
  | 0, k, _ => rfl
  | f + 1, k, h => by
    simp only [nearF]
    split
    · rename_i hc
      have := h k (Nat.le_refl _) hc.1 hc.2
      rw [if_neg (by omega)]
      exact nearF_none f (k + 1) (fun j h1 h2 h3 => h j (by omega) h2 h3)
    · rfl
theorem nearF_hit {d : List Int} {p n w j : Nat} (hj : j ≤ w) (hp : j ≤ p) (ha : n ≤ alike d (p - j) p) : ∀ f k, k ≤ j → j < f + k → (∀ i, k ≤ i → i < j → alike d (p - i) p < n) → nearF d p n w f k = j
  | 0, k, h1, h2, _ => by omega
  | f + 1, k, h1, h2, h3 => by
    simp only [nearF]
    rw [if_pos ⟨by omega, by omega⟩]
    by_cases e : k = j
    · subst e; rw [if_pos ha]
    · have := h3 k (Nat.le_refl _) (by omega)
      rw [if_neg (by omega)]
      exact nearF_hit hj hp ha f (k + 1) (by omega) (by omega) (fun i h4 h5 => h3 i (by omega) h5)
theorem near_none {d : List Int} {p n w : Nat} (h : ∀ j, 1 ≤ j → j ≤ w → j ≤ p → alike d (p - j) p < n) : near d p n w = 0 := nearF_none _ _ h
theorem near_hit {d : List Int} {p n w j : Nat} (h1 : 1 ≤ j) (hj : j ≤ w) (hp : j ≤ p) (ha : n ≤ alike d (p - j) p) (h : ∀ i, 1 ≤ i → i < j → alike d (p - i) p < n) : near d p n w = j :=
  nearF_hit hj hp ha _ _ h1 (by omega) h
theorem nearF_le {d : List Int} {p n w : Nat} : ∀ f k, nearF d p n w f k ≤ w ∧ nearF d p n w f k ≤ p
  | 0, k => ⟨Nat.zero_le _, Nat.zero_le _⟩
  | f + 1, k => by
    simp only [nearF]
    split
    · rename_i hc
      split
      · exact hc
      · exact nearF_le f (k + 1)
    · exact ⟨Nat.zero_le _, Nat.zero_le _⟩
theorem nearF_good {d : List Int} {p n w : Nat} : ∀ f k, nearF d p n w f k ≠ 0 → n ≤ alike d (p - nearF d p n w f k) p ∧ k ≤ nearF d p n w f k
  | 0, k, h => absurd rfl h
  | f + 1, k, h => by
    simp only [nearF] at h ⊢
    split
    · rename_i hc
      rw [if_pos hc] at h
      split
      · rename_i ha; exact ⟨ha, Nat.le_refl _⟩
      · rename_i ha
        rw [if_neg ha] at h
        have := nearF_good f (k + 1) h
        exact ⟨this.1, by omega⟩
    · rename_i hc
      rw [if_neg hc] at h
      exact absurd rfl h
theorem near_le (d : List Int) (p n w : Nat) : near d p n w ≤ w ∧ near d p n w ≤ p := nearF_le _ _
theorem near_good {d : List Int} {p n w : Nat} (h : near d p n w ≠ 0) : n ≤ alike d (p - near d p n w) p ∧ 1 ≤ near d p n w := nearF_good _ _ h
/-- the greatest length there may be at a place -/
def most (d : List Int) (p : Nat) : Nat := min 258 (d.length - p)
/-- the list of nearest's answer -/
structure IsNear (d : List Int) (p w : Nat) (L : List Nat) : Prop where
  get : ∀ i (h : i < L.length), L[i] = near d p (3 + i) w ∧ 1 ≤ L[i]
  end_ : ∀ i, L.length ≤ i → 3 + i ≤ most d p → near d p (3 + i) w = 0
  len : L.length + 2 ≤ most d p ∨ L = []
/-- while the candidates are gone through: all distances below p - c are done -/
structure Going (d : List Int) (p w : Nat) (L : List Nat) (c : Int) : Prop where
  get : ∀ i (h : i < L.length), L[i] = near d p (3 + i) w ∧ 1 ≤ L[i]
  done : ∀ k, 1 ≤ k → k ≤ p → (k : Int) < p - c → alike d (p - k) p < 3 + L.length
  len : L.length + 2 ≤ most d p ∨ L = []
theorem prev_between {d : List Int} {c p : Nat} (hp : p + 3 ≤ d.length) (hs : same3 d c p ∨ c = p) : ∀ q : Nat, prevF d p c < (q : Int) → q < c → alike d q p < 3 := by
  have key : ∀ m q : Nat, prevF d p m < (q : Int) → q < m → ¬ same3 d q p := by
    intro m
    induction m with
    | zero => intro q _ h; omega
    | succ m ih =>
      intro q h1 h2
      simp only [prevF] at h1
      by_cases e : same3 d m p
      · rw [if_pos e] at h1; omega
      · rw [if_neg e] at h1
        by_cases e2 : q = m
        · subst e2; exact e
        · exact ih q h1 (by omega)
  intro q h1 h2
  have := key c q h1 h2
  have h3 := alike_three (d := d) (q := q) (p := p) hp
  by_cases h4 : 3 ≤ alike d q p
  · exact absurd (h3.1 h4) this
  · omega
theorem Going.start {d : List Int} {p w : Nat} (hp : p + 3 ≤ d.length) : Going d p w [] (prev d p) where
  get := fun i h => absurd h (Nat.not_lt_zero _)
  done := fun k h1 h2 h3 => by
    have := prev_between (c := p) hp (.inr rfl) (p - k) (by unfold prev at h3; omega) (by omega)
    simpa using this
  len := .inr rfl
theorem alike_most (d : List Int) {q p : Nat} (hp : p ≤ d.length) : alike d q p ≤ most d p := by
  have h1 := alike_le d q p
  have h2 := alike_len d q p hp
  unfold most
  omega
/-- the inner loop: the candidate's distance is laid down once more -/
theorem Going.push {d : List Int} {p w c : Nat} {L : List Nat} (h : Going d p w L (c : Int)) (hp : p + 3 ≤ d.length) (hc : c < p) (hw : p - c ≤ w) (hm : L.length + 3 ≤ alike d c p) : Going d p w (L ++ [p - c]) (c : Int) where
  get := fun i hi => by
    by_cases e : i < L.length
    · rw [List.getElem_append_left e]; exact h.get i e
    · have e2 : i = L.length := by simp at hi; omega
      subst e2
      rw [List.getElem_append_right (Nat.le_refl _)]
      simp only [Nat.sub_self, List.getElem_cons_zero]
      refine ⟨(near_hit (by omega) hw (by omega) (by rw [show p - (p - c) = c from by omega]; omega) (fun k h1 h2 => ?_)).symm, by omega⟩
      have := h.done k h1 (by omega) (by omega)
      omega
  done := fun k h1 h2 h3 => by
    have := h.done k h1 h2 h3
    simp only [List.length_append, List.length_singleton]
    omega
  len := .inl (by have := alike_most d (q := c) (p := p) (by omega); simp only [List.length_append, List.length_singleton]; omega)
/-- the candidate is done -/
theorem Going.next {d : List Int} {p w c : Nat} {L : List Nat} (h : Going d p w L (c : Int)) (hp : p + 3 ≤ d.length) (hc : c < p) (hs : same3 d c p) (hm : alike d c p < L.length + 3) : Going d p w L (prev d c) where
  get := h.get
  done := fun k h1 h2 h3 => by
    by_cases e : (k : Int) < p - c
    · exact h.done k h1 h2 (by omega)
    · by_cases e2 : k = p - c
      · subst e2; rw [show p - (p - c) = c from by omega]; omega
      · have e3 : prev d c = prevF d p c := prevF_same hs c
        rw [e3] at h3
        have := prev_between (c := c) hp (.inl hs) (p - k) (by omega) (by omega)
        omega
  len := h.len
theorem Going.stop {d : List Int} {p w : Nat} {L : List Nat} {c : Int} (h : Going d p w L c) (he : c < 0 ∨ (w : Int) < p - c ∨ most d p < L.length + 3) : IsNear d p w L where
  get := h.get
  end_ := fun i h1 h2 => by
    rcases he with e | e | e
    · exact near_none (fun k h3 h4 h5 => by have := h.done k h3 h5 (by omega); omega)
    · exact near_none (fun k h3 h4 h5 => by have := h.done k h3 h5 (by omega); omega)
    · omega
  len := h.len
end Go.Proofs.Ytbfdokklhdmmoaa.Lz
