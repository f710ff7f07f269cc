import Derived.Test.YtkdgfioigkijgaaGreatW01
import Derived.KernelRfl
set_option maxRecDepth 100000
set_option linter.unusedVariables false
set_option linter.unusedSimpArgs false
namespace Go.Proofs.YtkdgfioigkijgaaGreat.Runs
def lead (v : Int) : List Int → Nat
  | [] => 0
  | x :: t => if x = v then lead v t + 1 else 0
theorem lead_le (v : Int) (l : List Int) : lead v l ≤ l.length := by
  induction l with
  | nil => exact Nat.le_refl _
  | cons x t ih => simp only [lead, List.length_cons]; split <;> omega
theorem lead_get {v : Int} {l : List Int} : ∀ {j : Nat}, j < lead v l → l[j]? = some v := by
  induction l with
  | nil => intro j h; simp [lead] at h
  | cons x t ih =>
    intro j h
    simp only [lead] at h
    split at h
    · rename_i e
      cases j with
      | zero => simp [e]
      | succ j => simpa using ih (by omega)
    · omega
theorem lead_end {v : Int} {l : List Int} (h : lead v l < l.length) : l[lead v l]? ≠ some v := by
  induction l with
  | nil => simp [lead] at h
  | cons x t ih =>
    simp only [lead, List.length_cons] at h ⊢
    split
    · rename_i e
      rw [if_pos e] at h
      simpa using ih (by omega)
    · rename_i e
      simpa using e
theorem lead_eq {v : Int} {l : List Int} {k : Nat} (hk : k ≤ l.length) (h1 : ∀ j, j < k → l[j]? = some v) (h2 : k < l.length → l[k]? ≠ some v) : lead v l = k := by
  rcases Nat.lt_trichotomy (lead v l) k with h | h | h
  · exact absurd (h1 _ h) (lead_end (by omega))
  · exact h
  · exact absurd (lead_get h) (h2 (Nat.lt_of_lt_of_le h (lead_le v l)))
def sixes : Nat → Nat → List (Int × Int)
  | 0, _ => []
  | f + 1, k => if k < 3 then [] else (16, ((min k 6 : Nat) : Int)) :: sixes f (k - min k 6)
theorem sixes_enough {f g k : Nat} (hf : k ≤ f) (hg : k ≤ g) : sixes f k = sixes g k := by
  induction f generalizing g k with
  | zero =>
    have : k = 0 := by omega
    subst this
    cases g <;> simp [sixes]
  | succ f ih =>
    cases g with
    | zero =>
      have : k = 0 := by omega
      subst this
      simp [sixes]
    | succ g =>
      simp only [sixes]
      split
      · rfl
      · rw [ih (g := g) (by omega) (by omega)]
theorem sixes_step {k : Nat} (h : 3 ≤ k) : sixes k k = (16, ((min k 6 : Nat) : Int)) :: sixes (k - min k 6) (k - min k 6) := by
  obtain ⟨f, rfl⟩ : ∃ f, k = f + 1 := ⟨k - 1, by omega⟩
  simp only [sixes]
  rw [if_neg (by omega), sixes_enough (f := f) (g := f + 1 - min (f + 1) 6) (by omega) (by omega)]
theorem sixes_end {k : Nat} (h : k < 3) : sixes k k = [] := by
  cases k with
  | zero => rfl
  | succ k => simp only [sixes]; rw [if_pos h]
def sixed : Nat → Nat → Nat
  | 0, _ => 0
  | f + 1, k => if k < 3 then 0 else min k 6 + sixed f (k - min k 6)
theorem sixed_enough {f g k : Nat} (hf : k ≤ f) (hg : k ≤ g) : sixed f k = sixed g k := by
  induction f generalizing g k with
  | zero =>
    have : k = 0 := by omega
    subst this
    cases g <;> simp [sixed]
  | succ f ih =>
    cases g with
    | zero =>
      have : k = 0 := by omega
      subst this
      simp [sixed]
    | succ g =>
      simp only [sixed]
      split
      · rfl
      · rw [ih (g := g) (by omega) (by omega)]
theorem sixed_step {k : Nat} (h : 3 ≤ k) : sixed k k = min k 6 + sixed (k - min k 6) (k - min k 6) := by
  obtain ⟨f, rfl⟩ : ∃ f, k = f + 1 := ⟨k - 1, by omega⟩
  simp only [sixed]
  rw [if_neg (by omega), sixed_enough (f := f) (g := f + 1 - min (f + 1) 6) (by omega) (by omega)]
theorem sixed_end {k : Nat} (h : k < 3) : sixed k k = 0 := by
  cases k with
  | zero => rfl
  | succ k => simp only [sixed]; rw [if_pos h]
theorem sixed_le (f k : Nat) : sixed f k ≤ k := by
  induction f generalizing k with
  | zero => exact Nat.zero_le _
  | succ f ih =>
    simp only [sixed]
    split
    · omega
    · have := ih (k - min k 6); omega
def rowOf (v : Int) (k : Nat) : List (Int × Int) :=
  if v = 0 then (if 11 ≤ k then [(18, ((min k 138 : Nat) : Int))] else if 3 ≤ k then [(17, (k : Int))] else [(0, 1)]) else (v, 1) :: sixes (k - 1) (k - 1)
def rowLen (v : Int) (k : Nat) : Nat := if v = 0 then (if 11 ≤ k then min k 138 else if 3 ≤ k then k else 1) else 1 + sixed (k - 1) (k - 1)
theorem rowLen_pos (v : Int) (k : Nat) : 1 ≤ rowLen v k := by
  unfold rowLen
  split
  · split
    · omega
    · split <;> omega
  · omega
theorem rowLen_le (v : Int) {k : Nat} (h : 1 ≤ k) : rowLen v k ≤ k := by
  unfold rowLen
  split
  · split
    · omega
    · split <;> omega
  · have := sixed_le (k - 1) (k - 1); omega
def runsF : Nat → List Int → List (Int × Int)
  | 0, _ => []
  | _ + 1, [] => []
  | f + 1, v :: t => rowOf v (lead v t + 1) ++ runsF f ((v :: t).drop (rowLen v (lead v t + 1)))
def runs (l : List Int) : List (Int × Int) := runsF l.length l
theorem runsF_enough {f g : Nat} {l : List Int} (hf : l.length ≤ f) (hg : l.length ≤ g) : runsF f l = runsF g l := by
  induction f generalizing g l with
  | zero =>
    have : l = [] := List.eq_nil_of_length_eq_zero (by omega)
    subst this
    cases g <;> simp [runsF]
  | succ f ih =>
    cases l with
    | nil => cases g <;> simp [runsF]
    | cons v t =>
      cases g with
      | zero => simp at hg
      | succ g =>
        simp only [runsF]
        have h1 := rowLen_pos v (lead v t + 1)
        simp only [List.length_cons] at hf hg
        rw [ih (g := g) (by simp only [List.length_drop, List.length_cons]; omega) (by simp only [List.length_drop, List.length_cons]; omega)]
theorem runs_nil : runs [] = [] := rfl
theorem runs_cons (v : Int) (t : List Int) : runs (v :: t) = rowOf v (lead v t + 1) ++ runs ((v :: t).drop (rowLen v (lead v t + 1))) := by
  unfold runs
  simp only [List.length_cons, runsF]
  have h1 := rowLen_pos v (lead v t + 1)
  rw [runsF_enough (f := t.length) (g := ((v :: t).drop (rowLen v (lead v t + 1))).length) (by simp only [List.length_drop, List.length_cons]; omega) (Nat.le_refl _)]
end Go.Proofs.YtkdgfioigkijgaaGreat.Runs
set_option maxRecDepth 100000
set_option linter.unusedVariables false
set_option linter.unusedSimpArgs false
namespace Go.Proofs.YtkdgfioigkijgaaGreat.Lz
def Good (d : List Int) (p w : Nat) (r : Nat × Nat) : Prop := r.1 = 0 ∨ (3 ≤ r.1 ∧ r.1 ≤ 258 ∧ 1 ≤ r.2 ∧ r.2 ≤ w ∧ r.2 ≤ p ∧ p + r.1 ≤ d.length ∧ ∀ j, j < r.1 → at0 d (p - r.2 + j) = at0 d (p + j))
theorem bestF_good {d : List Int} {p w : Nat} (hp : p ≤ d.length) : ∀ q ch b s, q ≤ p → Good d p w (b, s) → Good d p w (bestF d p w q ch b s)
  | 0, ch, b, s, _, h => h
  | q + 1, ch, b, s, hq, h => by
    simp only [bestF]
    split
    · rename_i hc
      split
      · exact bestF_good hp q ch b s (by omega) h
      · rename_i h3
        split
        · refine bestF_good hp q _ _ _ (by omega) (.inr ?_)
          refine ⟨by omega, alike_le d q p, by omega, hc.1, by omega, alike_len d q p hp, fun j hj => ?_⟩
          rw [show p - (p - q) + j = q + j from by omega]
          exact alike_same hj
        · exact bestF_good hp q _ b s (by omega) h
    · exact h
theorem best_good {d : List Int} {p w ch : Nat} (hp : p ≤ d.length) : Good d p w (best d p w ch) := bestF_good hp p ch 0 0 (Nat.le_refl _) (.inl rfl)
theorem take_at {d : List Int} {p : Nat} (h : p < d.length) : d.take p ++ [at0 d p] = d.take (p + 1) := by
  rw [List.take_succ_eq_append_getElem h]
  unfold at0
  rw [List.getD_eq_getElem?_getD, List.getElem?_eq_getElem h]
  rfl
theorem copy_take {d : List Int} {dist : Nat} (hd : 1 ≤ dist) : ∀ k p, dist ≤ p → p + k ≤ d.length → (∀ j, j < k → at0 d (p - dist + j) = at0 d (p + j)) → copyF dist k (d.take p) = d.take (p + k)
  | 0, p, _, _, _ => rfl
  | k + 1, p, h1, h2, h3 => by
    simp only [copyF]
    have e : at0 (d.take p) ((d.take p).length - dist) = at0 d p := by
      have h0 := h3 0 (by omega)
      simp only [Nat.add_zero] at h0
      rw [← h0]
      have : (d.take p).length = p := by rw [List.length_take]; omega
      unfold at0
      rw [this, List.getD_eq_getElem?_getD, List.getD_eq_getElem?_getD, List.getElem?_take, if_pos (by omega)]
    rw [e, take_at (by omega), copy_take hd k (p + 1) (by omega) (by omega) (fun j hj => ?_)]
    · congr 1; omega
    · have := h3 (j + 1) (by omega)
      rw [show p + 1 - dist + j = p - dist + (j + 1) from by omega, show p + 1 + j = p + (j + 1) from by omega]
      exact this
theorem taken_good {d : List Int} {k : Opt} {p : Nat} (hp : p ≤ d.length) : taken d k p = 0 ∨ taken d k p = (best d p k.window.toNat k.chain.toNat).1 := by
  unfold taken
  split
  · exact .inl rfl
  · exact .inr rfl
theorem tok_right {d : List Int} {k : Opt} {p : Nat} (hk : optErr k = 0) (hp : p < d.length) :
    right (tokAt d k p) = true ∧ (tokAt d k p).dist ≤ k.window ∧ (tokAt d k p).dist ≤ (p : Nat) ∧ width (tokAt d k p) = stepAt d k p ∧ p + stepAt d k p ≤ d.length ∧ tokF (tokAt d k p) (d.take p) = d.take (p + stepAt d k p) := by
  have hw : 1 ≤ k.window ∧ k.window ≤ 32768 := by
    unfold optErr at hk
    split at hk
    · cases hk
    · omega
  by_cases h0 : taken d k p = 0
  · have e : tokAt d k p = ⟨at0 d p, 0, 0⟩ := by unfold tokAt; rw [if_pos h0]
    have e1 : stepAt d k p = 1 := by unfold stepAt; rw [if_pos h0]
    rw [e, e1]
    refine ⟨rfl, by simp only; omega, by simp, rfl, by omega, ?_⟩
    show copyF 0 0 _ = _
    exact take_at hp
  · have e : tokAt d k p = ⟨0, taken d k p, (best d p k.window.toNat k.chain.toNat).2⟩ := by unfold tokAt; rw [if_neg h0]
    have e1 : stepAt d k p = taken d k p := by unfold stepAt; rw [if_neg h0]
    have e2 := (taken_good (d := d) (k := k) (p := p) (by omega)).resolve_left h0
    obtain hb | ⟨b1, b2, b3, b4, b5, b6, b7⟩ := best_good (d := d) (p := p) (w := k.window.toNat) (ch := k.chain.toNat) (by omega)
    · omega
    · rw [e, e1, e2]
      generalize best d p k.window.toNat k.chain.toNat = r at *
      obtain ⟨n, s⟩ := r
      simp only at b1 b2 b3 b4 b5 b6 b7 ⊢
      have hr : right ⟨0, (n : Int), (s : Int)⟩ = true := by
        unfold right
        rw [if_neg (by simp only; omega)]
        exact decide_eq_true (show 3 ≤ (n : Int) ∧ (n : Int) ≤ 258 ∧ 1 ≤ (s : Int) ∧ (s : Int) ≤ 32768 ∧ (0 : Int) = 0 from ⟨by omega, by omega, by omega, by omega, rfl⟩)
      refine ⟨hr, by omega, by omega, ?_, b6, ?_⟩
      · unfold width
        rw [if_pos hr, if_neg (by simp only; omega)]
        simp
      · unfold tokF
        rw [if_neg (by simp only; omega)]
        simp only [Int.toNat_natCast]
        exact copy_take b3 n p b5 b6 b7
theorem parse_back {d : List Int} {k : Opt} (hk : optErr k = 0) : ∀ f p i, p ≤ d.length → d.length ≤ f + p →
    checkF k.window (parseF d k f p) i p = (0, 0) ∧ expF (parseF d k f p) (d.take p) = d ∧ p + sizeOf (parseF d k f p) = d.length ∧ p + (parseF d k f p).length ≤ d.length
  | 0, p, i, h, hf => by
    obtain rfl : p = d.length := by omega
    simp [parseF, checkF, expF, sizeOf]
  | f + 1, p, i, h, hf => by
    simp only [parseF]
    by_cases hp : p < d.length
    · rw [if_pos hp]
      obtain ⟨r1, r2, r3, r4, r5, r6⟩ := tok_right (d := d) hk hp
      have hs := stepAt_pos d k p
      obtain ⟨i1, i2, i3, i4⟩ := parse_back (d := d) hk f (p + stepAt d k p) (i + 1) r5 (by omega)
      refine ⟨?_, ?_, ?_, ?_⟩
      · simp only [checkF]
        rw [if_neg (by rw [r1]; simp), if_neg (by omega), r4]
        exact i1
      · simp only [expF]
        rw [r6]
        exact i2
      · simp only [sizeOf, List.map_cons, List.sum_cons] at i3 ⊢
        rw [r4]; omega
      · simp only [List.length_cons]; omega
    · rw [if_neg hp]
      obtain rfl : p = d.length := by omega
      simp [checkF, expF, sizeOf]
theorem parse_law {d : List Int} {k : Opt} (hk : optErr k = 0) : check k.window (parse d k) = (0, 0) ∧ expand k.window (parse d k) = d ∧ sizeOf (parse d k) = d.length ∧ (parse d k).length ≤ d.length := by
  have hw : 1 ≤ k.window ∧ k.window ≤ 32768 := by
    unfold optErr at hk
    split at hk
    · cases hk
    · omega
  obtain ⟨i1, i2, i3, i4⟩ := parse_back (d := d) hk d.length 0 0 (Nat.zero_le _) (by omega)
  have e : parse d k = parseF d k d.length 0 := by unfold parse; rw [if_pos hk]
  have c : check k.window (parse d k) = (0, 0) := by unfold check; rw [if_neg (by omega), e]; exact i1
  refine ⟨c, ?_, by rw [e]; omega, by rw [e]; omega⟩
  unfold expand
  rw [if_pos (by rw [c]), e]
  exact i2
end Go.Proofs.YtkdgfioigkijgaaGreat.Lz
set_option maxRecDepth 100000
set_option linter.unusedVariables false
set_option linter.unusedSimpArgs false
namespace Go.Proofs.YtkdgfioigkijgaaGreat.Lz
def bitsF : Nat → Nat → Nat
  | 0, _ => 0
  | f + 1, d => if d = 0 then 0 else bitsF f (d / 2) + 1
def bitLen (d : Nat) : Nat := bitsF 64 d
theorem bitsF_le : ∀ f d, bitsF f d ≤ f
  | 0, d => Nat.le_refl _
  | f + 1, d => by
    simp only [bitsF]
    split
    · omega
    · have := bitsF_le f (d / 2); omega
def nearF (d : List Int) (p n w : Nat) : Nat → Nat → Nat
  | 0, _ => 0
  | f + 1, k => if k ≤ w ∧ k ≤ p then (if n ≤ alike d (p - k) p then k else nearF d p n w f (k + 1)) else 0
def near (d : List Int) (p n w : Nat) : Nat := nearF d p n w (p + 1) 1
theorem nearF_none {d : List Int} {p n w : Nat} : ∀ f k, (∀ j, k ≤ j → j ≤ w → j ≤ p → alike d (p - j) p < n) → nearF d p n w f k = 0
  | 0, k, _ => rfl
  | f + 1, k, h => by
    simp only [nearF]
    split
    · rename_i hc
      have := h k (Nat.le_refl _) hc.1 hc.2
      rw [if_neg (by omega)]
      exact nearF_none f (k + 1) (fun j h1 h2 h3 => h j (by omega) h2 h3)
    · rfl
theorem nearF_hit {d : List Int} {p n w j : Nat} (hj : j ≤ w) (hp : j ≤ p) (ha : n ≤ alike d (p - j) p) : ∀ f k, k ≤ j → j < f + k → (∀ i, k ≤ i → i < j → alike d (p - i) p < n) → nearF d p n w f k = j
  | 0, k, h1, h2, _ => by omega
  | f + 1, k, h1, h2, h3 => by
    simp only [nearF]
    rw [if_pos ⟨by omega, by omega⟩]
    by_cases e : k = j
    · subst e; rw [if_pos ha]
    · have := h3 k (Nat.le_refl _) (by omega)
      rw [if_neg (by omega)]
      exact nearF_hit hj hp ha f (k + 1) (by omega) (by omega) (fun i h4 h5 => h3 i (by omega) h5)
theorem near_none {d : List Int} {p n w : Nat} (h : ∀ j, 1 ≤ j → j ≤ w → j ≤ p → alike d (p - j) p < n) : near d p n w = 0 := nearF_none _ _ h
theorem near_hit {d : List Int} {p n w j : Nat} (h1 : 1 ≤ j) (hj : j ≤ w) (hp : j ≤ p) (ha : n ≤ alike d (p - j) p) (h : ∀ i, 1 ≤ i → i < j → alike d (p - i) p < n) : near d p n w = j :=
  nearF_hit hj hp ha _ _ h1 (by omega) h
theorem nearF_le {d : List Int} {p n w : Nat} : ∀ f k, nearF d p n w f k ≤ w ∧ nearF d p n w f k ≤ p
  | 0, k => ⟨Nat.zero_le _, Nat.zero_le _⟩
  | f + 1, k => by
    simp only [nearF]
    split
    · rename_i hc
      split
      · exact hc
      · exact nearF_le f (k + 1)
    · exact ⟨Nat.zero_le _, Nat.zero_le _⟩
theorem near_le (d : List Int) (p n w : Nat) : near d p n w ≤ w ∧ near d p n w ≤ p := nearF_le _ _
def most (d : List Int) (p : Nat) : Nat := min 258 (d.length - p)
structure IsNear (d : List Int) (p w : Nat) (L : List Nat) : Prop where
  get : ∀ i (h : i < L.length), L[i] = near d p (3 + i) w ∧ 1 ≤ L[i]
  end_ : ∀ i, L.length ≤ i → 3 + i ≤ most d p → near d p (3 + i) w = 0
  len : L.length + 2 ≤ most d p ∨ L = []
structure Going (d : List Int) (p w : Nat) (L : List Nat) (c : Int) : Prop where
  get : ∀ i (h : i < L.length), L[i] = near d p (3 + i) w ∧ 1 ≤ L[i]
  done : ∀ k, 1 ≤ k → k ≤ p → (k : Int) < p - c → alike d (p - k) p < 3 + L.length
  len : L.length + 2 ≤ most d p ∨ L = []
theorem prev_between {d : List Int} {c p : Nat} (hp : p + 3 ≤ d.length) (hs : same3 d c p ∨ c = p) : ∀ q : Nat, prevF d p c < (q : Int) → q < c → alike d q p < 3 := by
  have key : ∀ m q : Nat, prevF d p m < (q : Int) → q < m → ¬ same3 d q p := by
    intro m
    induction m with
    | zero => intro q _ h; omega
    | succ m ih =>
      intro q h1 h2
      simp only [prevF] at h1
      by_cases e : same3 d m p
      · rw [if_pos e] at h1; omega
      · rw [if_neg e] at h1
        by_cases e2 : q = m
        · subst e2; exact e
        · exact ih q h1 (by omega)
  intro q h1 h2
  have := key c q h1 h2
  have h3 := alike_three (d := d) (q := q) (p := p) hp
  by_cases h4 : 3 ≤ alike d q p
  · exact absurd (h3.1 h4) this
  · omega
theorem Going.start {d : List Int} {p w : Nat} (hp : p + 3 ≤ d.length) : Going d p w [] (prev d p) where
  get := fun i h => absurd h (Nat.not_lt_zero _)
  done := fun k h1 h2 h3 => by
    have := prev_between (c := p) hp (.inr rfl) (p - k) (by unfold prev at h3; omega) (by omega)
    simpa using this
  len := .inr rfl
theorem alike_most (d : List Int) {q p : Nat} (hp : p ≤ d.length) : alike d q p ≤ most d p := by
  have h1 := alike_le d q p
  have h2 := alike_len d q p hp
  unfold most
  omega
theorem Going.push {d : List Int} {p w c : Nat} {L : List Nat} (h : Going d p w L (c : Int)) (hp : p + 3 ≤ d.length) (hc : c < p) (hw : p - c ≤ w) (hm : L.length + 3 ≤ alike d c p) : Going d p w (L ++ [p - c]) (c : Int) where
  get := fun i hi => by
    by_cases e : i < L.length
    · rw [List.getElem_append_left e]; exact h.get i e
    · have e2 : i = L.length := by simp at hi; omega
      subst e2
      rw [List.getElem_append_right (Nat.le_refl _)]
      simp only [Nat.sub_self, List.getElem_cons_zero]
      refine ⟨(near_hit (by omega) hw (by omega) (by rw [show p - (p - c) = c from by omega]; omega) (fun k h1 h2 => ?_)).symm, by omega⟩
      have := h.done k h1 (by omega) (by omega)
      omega
  done := fun k h1 h2 h3 => by
    have := h.done k h1 h2 h3
    simp only [List.length_append, List.length_singleton]
    omega
  len := .inl (by have := alike_most d (q := c) (p := p) (by omega); simp only [List.length_append, List.length_singleton]; omega)
theorem Going.next {d : List Int} {p w c : Nat} {L : List Nat} (h : Going d p w L (c : Int)) (hp : p + 3 ≤ d.length) (hc : c < p) (hs : same3 d c p) (hm : alike d c p < L.length + 3) : Going d p w L (prev d c) where
  get := h.get
  done := fun k h1 h2 h3 => by
    by_cases e : (k : Int) < p - c
    · exact h.done k h1 h2 (by omega)
    · by_cases e2 : k = p - c
      · subst e2; rw [show p - (p - c) = c from by omega]; omega
      · have e3 : prev d c = prevF d p c := prevF_same hs c
        rw [e3] at h3
        have := prev_between (c := c) hp (.inl hs) (p - k) (by omega) (by omega)
        omega
  len := h.len
theorem Going.stop {d : List Int} {p w : Nat} {L : List Nat} {c : Int} (h : Going d p w L c) (he : c < 0 ∨ (w : Int) < p - c ∨ most d p < L.length + 3) : IsNear d p w L where
  get := h.get
  end_ := fun i h1 h2 => by
    rcases he with e | e | e
    · exact near_none (fun k h3 h4 h5 => by have := h.done k h3 h5 (by omega); omega)
    · exact near_none (fun k h3 h4 h5 => by have := h.done k h3 h5 (by omega); omega)
    · omega
  len := h.len
end Go.Proofs.YtkdgfioigkijgaaGreat.Lz
set_option maxRecDepth 100000
set_option linter.unusedVariables false
set_option linter.unusedSimpArgs false
namespace Go.Proofs.YtkdgfioigkijgaaGreat.Lz
structure Pr where
  lit : Int
  mat : Int
  far : Int
def mcost (c : Pr) (k : Nat) (rest : Int) : Int := c.mat + c.far * (bitLen k : Nat) + rest
def descF (d : List Int) (p w : Nat) (c : Pr) (least : Nat → Int) : Nat → Int × Tok → Int × Tok
  | 0, s => s
  | m + 1, s => descF d p w c least m (if p + (m + 3) ≤ d.length ∧ near d p (m + 3) w ≠ 0 ∧ mcost c (near d p (m + 3) w) (least (p + (m + 3))) < s.1 then (mcost c (near d p (m + 3) w) (least (p + (m + 3))), ⟨0, ((m + 3 : Nat) : Int), (near d p (m + 3) w : Nat)⟩) else s)
def entry (d : List Int) (w : Nat) (c : Pr) (p : Nat) (least : Nat → Int) : Int × Tok := descF d p w c least 256 (c.lit + least (p + 1), ⟨at0 d p, 0, 0⟩)
def tabF (d : List Int) (w : Nat) (c : Pr) : Nat → Nat → Int × Tok
  | 0, _ => (0, ⟨0, 0, 0⟩)
  | j + 1, i => if i + (j + 1) = d.length then entry d w c i (fun x => (tabF d w c j x).1) else tabF d w c j i
def tab (d : List Int) (w : Nat) (c : Pr) (i : Nat) : Int × Tok := tabF d w c d.length i
theorem descF_congr {d : List Int} {p w : Nat} {c : Pr} {f g : Nat → Int} (h : ∀ i, p < i → i ≤ d.length → f i = g i) : ∀ m s, descF d p w c f m s = descF d p w c g m s
  | 0, s => rfl
  | m + 1, s => by
    simp only [descF]
    by_cases hl : p + (m + 3) ≤ d.length
    · rw [h (p + (m + 3)) (by omega) hl, descF_congr h m]
    · rw [if_neg (fun e => hl e.1), if_neg (fun e => hl e.1), descF_congr h m]
theorem tabF_stable {d : List Int} {w : Nat} {c : Pr} : ∀ (j m i : Nat), j ≤ m → d.length ≤ i + j → tabF d w c m i = tabF d w c j i
  | j, 0, i, h, hi => by
    obtain rfl : j = 0 := by omega
    rfl
  | j, m + 1, i, h, hi => by
    by_cases e : j = m + 1
    · subst e; rfl
    · simp only [tabF]
      rw [if_neg (by omega)]
      exact tabF_stable j m i (by omega) hi
theorem tab_end (d : List Int) (w : Nat) (c : Pr) {i : Nat} (h : d.length ≤ i) : tab d w c i = (0, ⟨0, 0, 0⟩) := by
  unfold tab
  rw [tabF_stable 0 d.length i (Nat.zero_le _) (by omega)]
  rfl
theorem tab_step {d : List Int} {w : Nat} {c : Pr} {p : Nat} (h : p < d.length) : tab d w c p = entry d w c p (fun i => (tab d w c i).1) := by
  obtain ⟨j, hj⟩ : ∃ j, d.length = p + (j + 1) := ⟨d.length - p - 1, by omega⟩
  have e : tab d w c p = tabF d w c (j + 1) p := tabF_stable (j + 1) d.length p (by omega) (by omega)
  rw [e]
  simp only [tabF]
  rw [if_pos (by omega)]
  unfold entry
  have hs : ∀ i, p < i → i ≤ d.length → (tabF d w c j i).1 = (tab d w c i).1 := fun i h1 h2 => by
    unfold tab
    rw [tabF_stable j d.length i (by omega) (by omega)]
  rw [descF_congr hs]
  have h1 := hs (p + 1) (by omega) (by omega)
  simp only [h1]
def PrOk (c : Pr) : Prop := 0 ≤ c.lit ∧ c.lit ≤ 1048576 ∧ 0 ≤ c.mat ∧ c.mat ≤ 1048576 ∧ 0 ≤ c.far ∧ c.far ≤ 1048576
theorem bitLen_le (k : Nat) : bitLen k ≤ 64 := bitsF_le 64 k
theorem mcost_bound {c : Pr} (h : PrOk c) (k : Nat) {r : Int} (hr : 0 ≤ r) : 0 ≤ c.far * (bitLen k : Nat) ∧ c.far * (bitLen k : Nat) ≤ 67108864 ∧ r ≤ mcost c k r ∧ 0 ≤ mcost c k r ∧ mcost c k r ≤ r + 68157440 := by
  obtain ⟨h1, h2, h3, h4, h5, h6⟩ := h
  have hb := bitLen_le k
  have e1 : 0 ≤ c.far * (bitLen k : Nat) := Int.mul_nonneg h5 (by omega)
  have e2 : c.far * (bitLen k : Nat) ≤ 1048576 * 64 := Int.mul_le_mul h6 (by omega) (by omega) (by omega)
  unfold mcost
  omega
theorem descF_bound {d : List Int} {p w : Nat} {c : Pr} (hc : PrOk c) {least : Nat → Int} (hl : ∀ i, p < i → i ≤ d.length → 0 ≤ least i) : ∀ m s, 0 ≤ s.1 → 0 ≤ (descF d p w c least m s).1 ∧ (descF d p w c least m s).1 ≤ s.1
  | 0, s, h => ⟨h, Int.le_refl _⟩
  | m + 1, s, h => by
    simp only [descF]
    split
    · rename_i e
      have hm := mcost_bound hc (near d p (m + 3) w) (hl (p + (m + 3)) (by omega) e.1)
      have := descF_bound (w := w) hc hl m (mcost c (near d p (m + 3) w) (least (p + (m + 3))), ⟨0, ((m + 3 : Nat) : Int), (near d p (m + 3) w : Nat)⟩) hm.2.2.2.1
      simp only at this
      omega
    · exact descF_bound (w := w) hc hl m s h
theorem tab_bound {d : List Int} {w : Nat} {c : Pr} (hc : PrOk c) : ∀ (j i : Nat), i + j = d.length → 0 ≤ (tab d w c i).1 ∧ (tab d w c i).1 ≤ (j : Int) * 1048576
  | 0, i, h => by rw [tab_end d w c (by omega)]; simp
  | j + 1, i, h => by
    have hall : ∀ x, i < x → x ≤ d.length → 0 ≤ (tab d w c x).1 := fun x h1 h2 => (tab_bound (d := d) (w := w) hc (d.length - x) x (by omega)).1
    have h1 := tab_bound (d := d) (w := w) hc j (i + 1) (by omega)
    rw [tab_step (by omega)]
    have := descF_bound (w := w) hc (least := fun x => (tab d w c x).1) hall 256 (c.lit + (tab d w c (i + 1)).1, ⟨at0 d i, 0, 0⟩) (by have := hc.1; simp only; omega)
    unfold entry
    have := hc.2.1
    simp only at *
    omega
  termination_by j i _ => j
  decreasing_by all_goals omega
def ascF (p : Nat) (c : Pr) (least : Nat → Int) : List Nat → Nat → Int × Tok → Int × Tok
  | [], _, s => s
  | k :: t, i, s => ascF p c least t (i + 1) (if mcost c k (least (p + (3 + i))) < s.1 ∨ (mcost c k (least (p + (3 + i))) = s.1 ∧ 0 < s.2.len) then (mcost c k (least (p + (3 + i))), ⟨0, ((3 + i : Nat) : Int), (k : Nat)⟩) else s)
def pickF (p : Nat) (c : Pr) (least : Nat → Int) : List Nat → Nat → Option (Int × Tok)
  | [], _ => none
  | k :: t, i => match pickF p c least t (i + 1) with
    | none => some (mcost c k (least (p + (3 + i))), ⟨0, ((3 + i : Nat) : Int), (k : Nat)⟩)
    | some y => if y.1 ≤ mcost c k (least (p + (3 + i))) then some y else some (mcost c k (least (p + (3 + i))), ⟨0, ((3 + i : Nat) : Int), (k : Nat)⟩)
theorem asc_pick {p : Nat} {c : Pr} {least : Nat → Int} : ∀ (L : List Nat) (i : Nat) (s : Int × Tok), ascF p c least L i s = match pickF p c least L i with | none => s | some y => if y.1 < s.1 ∨ (y.1 = s.1 ∧ 0 < s.2.len) then y else s
  | [], i, s => rfl
  | k :: t, i, s => by
    simp only [ascF, pickF]
    rw [asc_pick t (i + 1)]
    generalize mcost c k (least (p + (3 + i))) = v
    have hl : (0 : Int) < ((3 + i : Nat) : Int) := by omega
    cases hp : pickF p c least t (i + 1) with
    | none => rfl
    | some y =>
      simp only
      by_cases h1 : v < s.1 ∨ (v = s.1 ∧ 0 < s.2.len)
      · rw [if_pos h1]
        simp only
        by_cases h2 : y.1 ≤ v
        · rw [if_pos (show y.1 < v ∨ (y.1 = v ∧ (0 : Int) < ((3 + i : Nat) : Int)) by omega), if_pos h2]
          simp only
          rw [if_pos (by omega)]
        · rw [if_neg (show ¬ (y.1 < v ∨ (y.1 = v ∧ (0 : Int) < ((3 + i : Nat) : Int))) by omega), if_neg h2]
          simp only
          rw [if_pos h1]
      · rw [if_neg h1]
        by_cases h2 : y.1 ≤ v
        · rw [if_pos h2]
        · rw [if_neg h2]
          simp only
          rw [if_neg (by omega), if_neg h1]
theorem desc_none {d : List Int} {p w : Nat} {c : Pr} {least : Nat → Int} : ∀ (m : Nat) (s : Int × Tok) (b : Nat), b ≤ m → (∀ i, b ≤ i → i < m → ¬ (p + (i + 3) ≤ d.length ∧ near d p (i + 3) w ≠ 0)) → descF d p w c least m s = descF d p w c least b s
  | 0, s, b, h, _ => by obtain rfl : b = 0 := by omega
                        rfl
  | m + 1, s, b, h, hn => by
    by_cases e : b = m + 1
    · subst e; rfl
    · simp only [descF]
      rw [if_neg (fun h1 => hn m (by omega) (by omega) ⟨h1.1, h1.2.1⟩)]
      exact desc_none m s b (by omega) (fun i h1 h2 => hn i h1 (by omega))
theorem desc_pick {d : List Int} {p w : Nat} {c : Pr} {least : Nat → Int} {L : List Nat} (hg : ∀ i (h : i < L.length), L[i] = near d p (3 + i) w ∧ 1 ≤ L[i]) (hlen : p + (L.length + 2) ≤ d.length ∨ L = []) : ∀ (m : Nat) (s : Int × Tok), m ≤ L.length →
    descF d p w c least m s = match pickF p c least (L.take m) 0 with | none => s | some y => if y.1 < s.1 then y else s
  | 0, s, _ => rfl
  | m + 1, s, hm => by
    have hL : L ≠ [] := by intro e; subst e; simp at hm
    have hlen2 := hlen.resolve_right hL
    simp only [descF]
    rw [desc_pick hg hlen m _ (by omega), List.take_succ_eq_append_getElem (show m < L.length by omega)]
    obtain ⟨g1, g2⟩ := hg m (by omega)
    have e3 : m + 3 = 3 + m := by omega
    rw [e3, ← g1]
    have hp3 : p + (3 + m) ≤ d.length := by omega
    have app : ∀ (T : List Nat) (i x : Nat), pickF p c least (T ++ [x]) i = match pickF p c least T i with
        | none => some (mcost c x (least (p + (3 + (i + T.length)))), ⟨0, ((3 + (i + T.length) : Nat) : Int), (x : Nat)⟩)
        | some y => if mcost c x (least (p + (3 + (i + T.length)))) ≤ y.1 then some (mcost c x (least (p + (3 + (i + T.length)))), ⟨0, ((3 + (i + T.length) : Nat) : Int), (x : Nat)⟩) else some y := by
      intro T
      induction T with
      | nil => intro i x; simp [pickF]
      | cons k t ih =>
        intro i x
        simp only [List.cons_append, pickF, List.length_cons]
        rw [ih (i + 1) x, show i + 1 + t.length = i + (t.length + 1) from by omega]
        generalize mcost c x (least (p + (3 + (i + (t.length + 1))))) = vx
        generalize mcost c k (least (p + (3 + i))) = vk
        cases pickF p c least t (i + 1) with
        | none => rfl
        | some y =>
          simp only
          by_cases h1 : vx ≤ y.1
          · rw [if_pos h1]
            simp only
            by_cases h2 : y.1 ≤ vk
            · rw [if_pos h2, if_pos (by omega)]
              simp only
              rw [if_pos h1]
            · rw [if_neg h2]
          · rw [if_neg h1]
            simp only
            by_cases h2 : y.1 ≤ vk
            · rw [if_pos h2]
              simp only
              rw [if_neg h1]
            · rw [if_neg h2]
              simp only
              rw [if_neg (by omega)]
    rw [app (L.take m) 0 L[m]]
    have el : (L.take m).length = m := by rw [List.length_take]; omega
    rw [el, Nat.zero_add]
    generalize mcost c L[m] (least (p + (3 + m))) = v
    have hk : L[m] ≠ 0 := by omega
    have hs' : (if p + (3 + m) ≤ d.length ∧ L[m] ≠ 0 ∧ v < s.1 then (v, (⟨0, ((3 + m : Nat) : Int), (L[m] : Nat)⟩ : Tok)) else s) = if v < s.1 then (v, (⟨0, ((3 + m : Nat) : Int), (L[m] : Nat)⟩ : Tok)) else s := by
      by_cases h1 : v < s.1
      · rw [if_pos ⟨hp3, hk, h1⟩, if_pos h1]
      · rw [if_neg (fun e => h1 e.2.2), if_neg h1]
    rw [hs']
    cases pickF p c least (L.take m) 0 with
    | none => rfl
    | some y =>
      simp only
      by_cases h1 : v < s.1
      · rw [if_pos h1]
        by_cases h2 : v ≤ y.1
        · rw [if_pos h2]
          simp only
          rw [if_neg (by omega), if_pos h1]
        · rw [if_neg h2]
          simp only
          rw [if_pos (by omega), if_pos (by omega)]
      · rw [if_neg h1]
        by_cases h2 : v ≤ y.1
        · rw [if_pos h2]
          simp only
          rw [if_neg (by omega), if_neg h1]
        · rw [if_neg h2]
theorem asc_desc {d : List Int} {p w : Nat} {c : Pr} {least : Nat → Int} {L : List Nat} (hp : p ≤ d.length) (h : IsNear d p w L) (s : Int × Tok) (hs : s.2.len = 0) : ascF p c least L 0 s = descF d p w c least 256 s := by
  have hm : L.length + 2 ≤ 258 ∧ p + (L.length + 2) ≤ d.length ∨ L = [] := by
    rcases h.len with e | e
    · unfold most at e; exact .inl (by omega)
    · exact .inr e
  have hl : L.length ≤ 256 := by
    rcases hm with e | e
    · omega
    · subst e; simp
  rw [desc_none 256 s L.length hl (fun i h1 h2 h3 => h3.2 (by rw [show i + 3 = 3 + i from by omega]; exact h.end_ i h1 (by unfold most; omega)))]
  rw [desc_pick h.get (hm.imp (fun e => e.2) id) L.length s (Nat.le_refl _), List.take_length, asc_pick]
  cases pickF p c least L 0 with
  | none => rfl
  | some y =>
    simp only
    by_cases h1 : y.1 < s.1
    · rw [if_pos (.inl h1), if_pos h1]
    · rw [if_neg (by omega), if_neg h1]
end Go.Proofs.YtkdgfioigkijgaaGreat.Lz
set_option maxRecDepth 100000
set_option linter.unusedVariables false
set_option linter.unusedSimpArgs false
namespace Go.Proofs.YtkdgfioigkijgaaGreat.Lz
theorem descF_tok {d : List Int} {p w : Nat} {c : Pr} {least : Nat → Int} {Q : Tok → Prop} : ∀ (m : Nat) (s : Int × Tok), Q s.2 → (∀ i, i < m → p + (i + 3) ≤ d.length → near d p (i + 3) w ≠ 0 → Q ⟨0, ((i + 3 : Nat) : Int), (near d p (i + 3) w : Nat)⟩) → Q (descF d p w c least m s).2
  | 0, s, h, _ => h
  | m + 1, s, h, hq => by
    simp only [descF]
    split
    · rename_i e
      exact descF_tok m _ (hq m (Nat.lt_succ_self m) e.1 e.2.1) (fun i hi => hq i (by omega))
    · exact descF_tok m _ h (fun i hi => hq i (by omega))
theorem tab_tok {d : List Int} {w : Nat} {c : Pr} {p : Nat} (h : p < d.length) : (tab d w c p).2 = ⟨at0 d p, 0, 0⟩ ∨ ∃ l, 3 ≤ l ∧ l ≤ 258 ∧ p + l ≤ d.length ∧ near d p l w ≠ 0 ∧ (tab d w c p).2 = ⟨0, (l : Nat), (near d p l w : Nat)⟩ := by
  rw [tab_step h]
  unfold entry
  refine descF_tok (Q := fun t => t = ⟨at0 d p, 0, 0⟩ ∨ ∃ l, 3 ≤ l ∧ l ≤ 258 ∧ p + l ≤ d.length ∧ near d p l w ≠ 0 ∧ t = ⟨0, (l : Nat), (near d p l w : Nat)⟩) 256 _ (.inl rfl) (fun i hi h1 h2 => .inr ⟨i + 3, by omega, by omega, h1, h2, rfl⟩)
def outF (d : List Int) (W : Nat) (c : Pr) : Nat → Nat → List Tok
  | 0, _ => []
  | f + 1, p => if p < d.length then (tab d W c p).2 :: outF d W c f (p + max (tab d W c p).2.len.toNat 1) else []
theorem outF_enough {d : List Int} {W : Nat} {c : Pr} : ∀ {f g p : Nat}, d.length ≤ f + p → d.length ≤ g + p → outF d W c f p = outF d W c g p
  | 0, g, p, hf, hg => by cases g <;> simp [outF]; omega
  | f + 1, 0, p, hf, hg => by simp [outF]; omega
  | f + 1, g + 1, p, hf, hg => by
    simp only [outF]
    split
    · have := Nat.le_max_right (tab d W c p).2.len.toNat 1
      rw [outF_enough (f := f) (g := g) (by omega) (by omega)]
    · rfl
theorem outF_end {d : List Int} {W : Nat} {c : Pr} {f p : Nat} (h : d.length ≤ p) : outF d W c f p = [] := by
  cases f <;> simp [outF]; omega
theorem outF_step {d : List Int} {W : Nat} {c : Pr} {f p : Nat} (h : p < d.length) (hf : d.length ≤ f + p) : outF d W c f p = (tab d W c p).2 :: outF d W c f (p + max (tab d W c p).2.len.toNat 1) := by
  rw [outF_enough (f := f) (g := f + 1) hf (by omega)]
  simp only [outF]
  rw [if_pos h]
end Go.Proofs.YtkdgfioigkijgaaGreat.Lz
