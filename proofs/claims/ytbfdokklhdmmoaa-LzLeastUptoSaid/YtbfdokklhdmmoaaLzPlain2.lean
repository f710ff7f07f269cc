/- Tokens that were made are the bytes; the first tokens are the first bytes. Plain Lean, no condition. -/
import Derived.Test.YtbfdokklhdmmoaaLzPlain
set_option linter.unusedVariables false
set_option linter.unusedSimpArgs false
namespace Go.Proofs.Ytbfdokklhdmmoaa.Lz

/-- what a match that was found is -/
def Good (d : List Int) (p w : Nat) (r : Nat × Nat) : Prop := r.1 = 0 ∨ (3 ≤ r.1 ∧ r.1 ≤ 258 ∧ 1 ≤ r.2 ∧ r.2 ≤ w ∧ r.2 ≤ p ∧ p + r.1 ≤ d.length ∧ ∀ j, j < r.1 → at0 d (p - r.2 + j) = at0 d (p + j))
theorem bestF_good {d : List Int} {p w : Nat} (hp : p ≤ d.length) : ∀ q ch b s, q ≤ p → Good d p w (b, s) → Good d p w (bestF d p w q ch b s)
  | 0, ch, b, s, _, h => h
  | q + 1, ch, b, s, hq, h => by
    simp only [bestF]
    split
    · rename_i hc
      split
      · exact bestF_good hp q ch b s (by omega) h
      · rename_i h3
        split
        · refine bestF_good hp q _ _ _ (by omega) (.inr ?_)
          refine ⟨by omega, alike_le d q p, by omega, hc.1, by omega, alike_len d q p hp, fun j hj => ?_⟩
          rw [show p - (p - q) + j = q + j from by omega]
          exact alike_same hj
        · exact bestF_good hp q _ b s (by omega) h
    · exact h
theorem best_good {d : List Int} {p w ch : Nat} (hp : p ≤ d.length) : Good d p w (best d p w ch) := bestF_good hp p ch 0 0 (Nat.le_refl _) (.inl rfl)
theorem best_none {d : List Int} {p w : Nat} : best d p w 0 = (0, 0) := by
  have : ∀ q b s, bestF d p w q 0 b s = (b, s) := by
    intro q b s
    cases q with
    | zero => rfl
    | succ q => simp only [bestF]; rw [if_neg (by omega)]
  exact this p 0 0
theorem take_at {d : List Int} {p : Nat} (h : p < d.length) : d.take p ++ [at0 d p] = d.take (p + 1) := by
  rw [List.take_succ_eq_append_getElem h]
  unfold at0
  rw [List.getD_eq_getElem?_getD, List.getElem?_eq_getElem h]
  rfl
theorem copy_take {d : List Int} {dist : Nat} (hd : 1 ≤ dist) : ∀ k p, dist ≤ p → p + k ≤ d.length → (∀ j, j < k → at0 d (p - dist + j) = at0 d (p + j)) → copyF dist k (d.take p) = d.take (p + k)
  | 0, p, _, _, _ => rfl
  | k + 1, p, h1, h2, h3 => by
    simp only [copyF]
    have e : at0 (d.take p) ((d.take p).length - dist) = at0 d p := by
      have h0 := h3 0 (by omega)
      simp only [Nat.add_zero] at h0
      rw [← h0]
      have : (d.take p).length = p := by rw [List.length_take]; omega
      unfold at0
      rw [this, List.getD_eq_getElem?_getD, List.getD_eq_getElem?_getD, List.getElem?_take, if_pos (by omega)]
    rw [e, take_at (by omega), copy_take hd k (p + 1) (by omega) (by omega) (fun j hj => ?_)]
    · congr 1; omega
    · have := h3 (j + 1) (by omega)
      rw [show p + 1 - dist + j = p - dist + (j + 1) from by omega, show p + 1 + j = p + (j + 1) from by omega]
      exact this
theorem taken_good {d : List Int} {k : Opt} {p : Nat} (hp : p ≤ d.length) : taken d k p = 0 ∨ taken d k p = (best d p k.window.toNat k.chain.toNat).1 := by
  unfold taken
  split
  · exact .inl rfl
  · exact .inr rfl
theorem tok_right {d : List Int} {k : Opt} {p : Nat} (hk : optErr k = 0) (hp : p < d.length) :
    right (tokAt d k p) = true ∧ (tokAt d k p).dist ≤ k.window ∧ (tokAt d k p).dist ≤ (p : Nat) ∧ width (tokAt d k p) = stepAt d k p ∧ p + stepAt d k p ≤ d.length ∧ tokF (tokAt d k p) (d.take p) = d.take (p + stepAt d k p) := by
  have hw : 1 ≤ k.window ∧ k.window ≤ 32768 := by
    unfold optErr at hk
    split at hk
    · cases hk
    · omega
  by_cases h0 : taken d k p = 0
  · have e : tokAt d k p = ⟨at0 d p, 0, 0⟩ := by unfold tokAt; rw [if_pos h0]
    have e1 : stepAt d k p = 1 := by unfold stepAt; rw [if_pos h0]
    rw [e, e1]
    refine ⟨rfl, by simp only; omega, by simp, rfl, by omega, ?_⟩
    show copyF 0 0 _ = _
    exact take_at hp
  · have e : tokAt d k p = ⟨0, taken d k p, (best d p k.window.toNat k.chain.toNat).2⟩ := by unfold tokAt; rw [if_neg h0]
    have e1 : stepAt d k p = taken d k p := by unfold stepAt; rw [if_neg h0]
    have e2 := (taken_good (d := d) (k := k) (p := p) (by omega)).resolve_left h0
    obtain hb | ⟨b1, b2, b3, b4, b5, b6, b7⟩ := best_good (d := d) (p := p) (w := k.window.toNat) (ch := k.chain.toNat) (by omega)
    · omega
    · rw [e, e1, e2]
      generalize best d p k.window.toNat k.chain.toNat = r at *
      obtain ⟨n, s⟩ := r
      simp only at b1 b2 b3 b4 b5 b6 b7 ⊢
      have hr : right ⟨0, (n : Int), (s : Int)⟩ = true := by
        unfold right
        rw [if_neg (by simp only; omega)]
        exact decide_eq_true (show 3 ≤ (n : Int) ∧ (n : Int) ≤ 258 ∧ 1 ≤ (s : Int) ∧ (s : Int) ≤ 32768 ∧ (0 : Int) = 0 from ⟨by omega, by omega, by omega, by omega, rfl⟩)
      refine ⟨hr, by omega, by omega, ?_, b6, ?_⟩
      · unfold width
        rw [if_pos hr, if_neg (by simp only; omega)]
        simp
      · unfold tokF
        rw [if_neg (by simp only; omega)]
        simp only [Int.toNat_natCast]
        exact copy_take b3 n p b5 b6 b7
theorem parse_back {d : List Int} {k : Opt} (hk : optErr k = 0) : ∀ f p i, p ≤ d.length → d.length ≤ f + p →
    checkF k.window (parseF d k f p) i p = (0, 0) ∧ expF (parseF d k f p) (d.take p) = d ∧ p + sizeOf (parseF d k f p) = d.length ∧ p + (parseF d k f p).length ≤ d.length
  | 0, p, i, h, hf => by
    obtain rfl : p = d.length := by omega
    simp [parseF, checkF, expF, sizeOf]
  | f + 1, p, i, h, hf => by
    simp only [parseF]
    by_cases hp : p < d.length
    · rw [if_pos hp]
      obtain ⟨r1, r2, r3, r4, r5, r6⟩ := tok_right (d := d) hk hp
      have hs := stepAt_pos d k p
      obtain ⟨i1, i2, i3, i4⟩ := parse_back (d := d) hk f (p + stepAt d k p) (i + 1) r5 (by omega)
      refine ⟨?_, ?_, ?_, ?_⟩
      · simp only [checkF]
        rw [if_neg (by rw [r1]; simp), if_neg (by omega), r4]
        exact i1
      · simp only [expF]
        rw [r6]
        exact i2
      · simp only [sizeOf, List.map_cons, List.sum_cons] at i3 ⊢
        rw [r4]; omega
      · simp only [List.length_cons]; omega
    · rw [if_neg hp]
      obtain rfl : p = d.length := by omega
      simp [checkF, expF, sizeOf]
/-- tokens that were made are the bytes -/
theorem parse_law {d : List Int} {k : Opt} (hk : optErr k = 0) : check k.window (parse d k) = (0, 0) ∧ expand k.window (parse d k) = d ∧ sizeOf (parse d k) = d.length ∧ (parse d k).length ≤ d.length := by
  have hw : 1 ≤ k.window ∧ k.window ≤ 32768 := by
    unfold optErr at hk
    split at hk
    · cases hk
    · omega
  obtain ⟨i1, i2, i3, i4⟩ := parse_back (d := d) hk d.length 0 0 (Nat.zero_le _) (by omega)
  have e : parse d k = parseF d k d.length 0 := by unfold parse; rw [if_pos hk]
  have c : check k.window (parse d k) = (0, 0) := by unfold check; rw [if_neg (by omega), e]; exact i1
  refine ⟨c, ?_, by rw [e]; omega, by rw [e]; omega⟩
  unfold expand
  rw [if_pos (by rw [c]), e]
  exact i2
theorem parse_plain {d : List Int} {k : Opt} (hk : optErr k = 0) (h0 : k.chain = 0) : (parse d k).length = d.length := by
  have e : parse d k = parseF d k d.length 0 := by unfold parse; rw [if_pos hk]
  have : ∀ f p, p ≤ d.length → d.length ≤ f + p → p + (parseF d k f p).length = d.length := by
    intro f
    induction f with
    | zero => intro p h hf; simp only [parseF, List.length_nil]; omega
    | succ f ih =>
      intro p h hf
      simp only [parseF]
      by_cases hp : p < d.length
      · have ht : stepAt d k p = 1 := by
          have : taken d k p = 0 := by
            have := taken_good (d := d) (k := k) (p := p) (by omega)
            rw [h0] at this
            simp only [Int.toNat_zero, best_none] at this
            omega
          unfold stepAt; rw [if_pos this]
        rw [if_pos hp, List.length_cons, ht]
        have := ih (p + 1) (by omega) (by omega)
        omega
      · rw [if_neg hp, List.length_nil]; omega
  rw [e]
  have := this d.length 0 (Nat.zero_le _) (by omega)
  omega

/-! ### the first tokens are the first bytes -/
theorem copyF_prefix (dist : Nat) : ∀ k b, b <+: copyF dist k b
  | 0, b => List.prefix_refl b
  | k + 1, b => (List.prefix_append b _).trans (copyF_prefix dist k _)
theorem tokF_prefix (t : Tok) (b : List Int) : b <+: tokF t b := by
  unfold tokF
  split
  · exact (List.prefix_append b _).trans (copyF_prefix _ _ _)
  · exact copyF_prefix _ _ _
theorem expF_prefix : ∀ (l : List Tok) (b : List Int), b <+: expF l b
  | [], b => List.prefix_refl b
  | t :: l, b => (tokF_prefix t b).trans (expF_prefix l _)
theorem expF_app : ∀ (l m : List Tok) (b : List Int), expF (l ++ m) b = expF m (expF l b)
  | [], m, b => rfl
  | t :: l, m, b => expF_app l m _
theorem tokF_len {t : Tok} (h : right t = true) (b : List Int) : (tokF t b).length = b.length + width t := by
  unfold tokF width
  rw [copyF_len, if_pos h]
  by_cases h0 : t.len = 0
  · rw [if_pos h0, if_pos h0, h0]; simp
  · rw [if_neg h0, if_neg h0]
theorem checkF_take (w : Int) : ∀ (l : List Tok) (m i n : Nat), (checkF w l i n).2 = 0 → (checkF w (l.take m) i n).2 = 0
  | [], m, i, n, h => by simpa using h
  | t :: l, 0, i, n, h => rfl
  | t :: l, m + 1, i, n, h => by
    simp only [checkF, List.take_succ_cons] at h ⊢
    split
    · rename_i h1; rw [if_pos h1] at h; simp at h
    · rename_i h1
      rw [if_neg h1] at h
      split
      · rename_i h2; rw [if_pos h2] at h; simp at h
      · rename_i h2
        rw [if_neg h2] at h
        exact checkF_take w l m _ _ h
theorem check_take {w : Int} {l : List Tok} (m : Nat) (h : (check w l).2 = 0) : (check w (l.take m)).2 = 0 := by
  unfold check at h ⊢
  split
  · rename_i h1; rw [if_pos h1] at h; simp at h
  · rename_i h1
    rw [if_neg h1] at h
    exact checkF_take w l m 0 0 h
theorem expF_len (w : Int) : ∀ (l : List Tok) (b : List Int) (i n : Nat), (checkF w l i n).2 = 0 → (expF l b).length = b.length + sizeOf l
  | [], b, i, n, h => by simp [expF, sizeOf]
  | t :: l, b, i, n, h => by
    simp only [checkF] at h
    split at h
    · simp at h
    · rename_i h1
      split at h
      · simp at h
      · have hr : right t = true := by simpa using h1
        simp only [expF, sizeOf, List.map_cons, List.sum_cons]
        rw [expF_len w l _ _ _ h, tokF_len hr]
        simp only [sizeOf]; omega
theorem expand_len {w : Int} {l : List Tok} (h : (check w l).2 = 0) : (expand w l).length = sizeOf l := by
  unfold expand
  rw [if_pos h]
  unfold check at h
  split at h
  · simp at h
  · rw [expF_len w l [] 0 0 h]; simp
theorem begins_law {w : Int} {l : List Tok} (m : Nat) (h : (check w l).2 = 0) : (expand w (l.take m)).length ≤ (expand w l).length ∧ expand w (l.take m) = (expand w l).take (expand w (l.take m)).length := by
  have h2 := check_take m h
  have p : expand w (l.take m) <+: expand w l := by
    unfold expand
    rw [if_pos h, if_pos h2]
    conv => rhs; rw [← List.take_append_drop m l, expF_app]
    exact expF_prefix _ _
  exact ⟨p.length_le, List.prefix_iff_eq_take.1 p⟩
end Go.Proofs.Ytbfdokklhdmmoaa.Lz
