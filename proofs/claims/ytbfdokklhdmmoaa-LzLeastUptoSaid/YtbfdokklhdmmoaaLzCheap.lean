/- The cheapest tokens: plain Lean. No condition. -/
import Derived.Test.YtbfdokklhdmmoaaLzNear
set_option linter.unusedVariables false
set_option linter.unusedSimpArgs false
namespace Go.Proofs.Ytbfdokklhdmmoaa.Lz

structure Pr where
  lit : Int
  mat : Int
  far : Int
def mcost (c : Pr) (k : Nat) (rest : Int) : Int := c.mat + c.far * (bitLen k : Nat) + rest
def descF (d : List Int) (p w : Nat) (c : Pr) (least : Nat → Int) : Nat → Int × Tok → Int × Tok
  | 0, s => s
  | m + 1, s => descF d p w c least m (if p + (m + 3) ≤ d.length ∧ near d p (m + 3) w ≠ 0 ∧ mcost c (near d p (m + 3) w) (least (p + (m + 3))) < s.1 then (mcost c (near d p (m + 3) w) (least (p + (m + 3))), ⟨0, ((m + 3 : Nat) : Int), (near d p (m + 3) w : Nat)⟩) else s)
def entry (d : List Int) (w : Nat) (c : Pr) (p : Nat) (least : Nat → Int) : Int × Tok := descF d p w c least 256 (c.lit + least (p + 1), ⟨at0 d p, 0, 0⟩)
def tabF (d : List Int) (w : Nat) (c : Pr) : Nat → Nat → Int × Tok
  | 0, _ => (0, ⟨0, 0, 0⟩)
  | j + 1, i => if i + (j + 1) = d.length then entry d w c i (fun x => (tabF d w c j x).1) else tabF d w c j i
/-- what stands from each place on: its cost, and its first token -/
def tab (d : List Int) (w : Nat) (c : Pr) (i : Nat) : Int × Tok := tabF d w c d.length i
theorem descF_congr {d : List Int} {p w : Nat} {c : Pr} {f g : Nat → Int} (h : ∀ i, p < i → i ≤ d.length → f i = g i) : ∀ m s, descF d p w c f m s = descF d p w c g m s
  | 0, s => rfl
  | m + 1, s => by
    simp only [descF]
    by_cases hl : p + (m + 3) ≤ d.length
    · rw [h (p + (m + 3)) (by omega) hl, descF_congr h m]
    · rw [if_neg (fun e => hl e.1), if_neg (fun e => hl e.1), descF_congr h m]
theorem tabF_stable {d : List Int} {w : Nat} {c : Pr} : ∀ (j m i : Nat), j ≤ m → d.length ≤ i + j → tabF d w c m i = tabF d w c j i
  | j, 0, i, h, hi => by
    obtain rfl : j = 0 := by omega
    rfl
  | j, m + 1, i, h, hi => by
    by_cases e : j = m + 1
    · subst e; rfl
    · simp only [tabF]
      rw [if_neg (by omega)]
      exact tabF_stable j m i (by omega) hi
theorem tab_end (d : List Int) (w : Nat) (c : Pr) {i : Nat} (h : d.length ≤ i) : tab d w c i = (0, ⟨0, 0, 0⟩) := by
  unfold tab
  rw [tabF_stable 0 d.length i (Nat.zero_le _) (by omega)]
  rfl
theorem tab_step {d : List Int} {w : Nat} {c : Pr} {p : Nat} (h : p < d.length) : tab d w c p = entry d w c p (fun i => (tab d w c i).1) := by
  obtain ⟨j, hj⟩ : ∃ j, d.length = p + (j + 1) := ⟨d.length - p - 1, by omega⟩
  have e : tab d w c p = tabF d w c (j + 1) p := tabF_stable (j + 1) d.length p (by omega) (by omega)
  rw [e]
  simp only [tabF]
  rw [if_pos (by omega)]
  unfold entry
  have hs : ∀ i, p < i → i ≤ d.length → (tabF d w c j i).1 = (tab d w c i).1 := fun i h1 h2 => by
    unfold tab
    rw [tabF_stable j d.length i (by omega) (by omega)]
  rw [descF_congr hs]
  have h1 := hs (p + 1) (by omega) (by omega)
  simp only [h1]
/-- in bounds -/
def PrOk (c : Pr) : Prop := 0 ≤ c.lit ∧ c.lit ≤ 1048576 ∧ 0 ≤ c.mat ∧ c.mat ≤ 1048576 ∧ 0 ≤ c.far ∧ c.far ≤ 1048576
theorem bitLen_le (k : Nat) : bitLen k ≤ 64 := bitsF_le 64 k
theorem mcost_bound {c : Pr} (h : PrOk c) (k : Nat) {r : Int} (hr : 0 ≤ r) : 0 ≤ c.far * (bitLen k : Nat) ∧ c.far * (bitLen k : Nat) ≤ 67108864 ∧ r ≤ mcost c k r ∧ 0 ≤ mcost c k r ∧ mcost c k r ≤ r + 68157440 := by
  obtain ⟨h1, h2, h3, h4, h5, h6⟩ := h
  have hb := bitLen_le k
  have e1 : 0 ≤ c.far * (bitLen k : Nat) := Int.mul_nonneg h5 (by omega)
  have e2 : c.far * (bitLen k : Nat) ≤ 1048576 * 64 := Int.mul_le_mul h6 (by omega) (by omega) (by omega)
  unfold mcost
  omega
theorem descF_bound {d : List Int} {p w : Nat} {c : Pr} (hc : PrOk c) {least : Nat → Int} (hl : ∀ i, p < i → i ≤ d.length → 0 ≤ least i) : ∀ m s, 0 ≤ s.1 → 0 ≤ (descF d p w c least m s).1 ∧ (descF d p w c least m s).1 ≤ s.1
  | 0, s, h => ⟨h, Int.le_refl _⟩
  | m + 1, s, h => by
    simp only [descF]
    split
    · rename_i e
      have hm := mcost_bound hc (near d p (m + 3) w) (hl (p + (m + 3)) (by omega) e.1)
      have := descF_bound (w := w) hc hl m (mcost c (near d p (m + 3) w) (least (p + (m + 3))), ⟨0, ((m + 3 : Nat) : Int), (near d p (m + 3) w : Nat)⟩) hm.2.2.2.1
      simp only at this
      omega
    · exact descF_bound (w := w) hc hl m s h
theorem tab_bound {d : List Int} {w : Nat} {c : Pr} (hc : PrOk c) : ∀ (j i : Nat), i + j = d.length → 0 ≤ (tab d w c i).1 ∧ (tab d w c i).1 ≤ (j : Int) * 1048576
  | 0, i, h => by rw [tab_end d w c (by omega)]; simp
  | j + 1, i, h => by
    have hall : ∀ x, i < x → x ≤ d.length → 0 ≤ (tab d w c x).1 := fun x h1 h2 => (tab_bound (d := d) (w := w) hc (d.length - x) x (by omega)).1
    have h1 := tab_bound (d := d) (w := w) hc j (i + 1) (by omega)
    rw [tab_step (by omega)]
    have := descF_bound (w := w) hc (least := fun x => (tab d w c x).1) hall 256 (c.lit + (tab d w c (i + 1)).1, ⟨at0 d i, 0, 0⟩) (by have := hc.1; simp only; omega)
    unfold entry
    have := hc.2.1
    simp only at *
    omega
  termination_by j i _ => j
  decreasing_by all_goals omega

/-! ### the other way round: through the list of nearest's answer, from the shortest on -/
def ascF (p : Nat) (c : Pr) (least : Nat → Int) : List Nat → Nat → Int × Tok → Int × Tok
  | [], _, s => s
  | k :: t, i, s => ascF p c least t (i + 1) (if mcost c k (least (p + (3 + i))) < s.1 ∨ (mcost c k (least (p + (3 + i))) = s.1 ∧ 0 < s.2.len) then (mcost c k (least (p + (3 + i))), ⟨0, ((3 + i : Nat) : Int), (k : Nat)⟩) else s)
/-- the last of the least ones -/
def pickF (p : Nat) (c : Pr) (least : Nat → Int) : List Nat → Nat → Option (Int × Tok)
  | [], _ => none
  | k :: t, i => match pickF p c least t (i + 1) with
    | none => some (mcost c k (least (p + (3 + i))), ⟨0, ((3 + i : Nat) : Int), (k : Nat)⟩)
    | some y => if y.1 ≤ mcost c k (least (p + (3 + i))) then some y else some (mcost c k (least (p + (3 + i))), ⟨0, ((3 + i : Nat) : Int), (k : Nat)⟩)
theorem pick_len {p : Nat} {c : Pr} {least : Nat → Int} : ∀ (L : List Nat) (i : Nat) (y : Int × Tok), pickF p c least L i = some y → 0 < y.2.len
  | [], i, y, h => by cases h
  | k :: t, i, y, h => by
    simp only [pickF] at h
    split at h
    · cases h; simp only; omega
    · rename_i z hz
      split at h
      · cases h; exact pick_len t (i + 1) _ hz
      · cases h; simp only; omega
theorem asc_pick {p : Nat} {c : Pr} {least : Nat → Int} : ∀ (L : List Nat) (i : Nat) (s : Int × Tok), ascF p c least L i s = match pickF p c least L i with | none => s | some y => if y.1 < s.1 ∨ (y.1 = s.1 ∧ 0 < s.2.len) then y else s
  | [], i, s => rfl
  | k :: t, i, s => by
    simp only [ascF, pickF]
    rw [asc_pick t (i + 1)]
    generalize mcost c k (least (p + (3 + i))) = v
    have hl : (0 : Int) < ((3 + i : Nat) : Int) := by omega
    cases hp : pickF p c least t (i + 1) with
    | none => rfl
    | some y =>
      simp only
      by_cases h1 : v < s.1 ∨ (v = s.1 ∧ 0 < s.2.len)
      · rw [if_pos h1]
        simp only
        by_cases h2 : y.1 ≤ v
        · rw [if_pos (show y.1 < v ∨ (y.1 = v ∧ (0 : Int) < ((3 + i : Nat) : Int)) by omega), if_pos h2]
          simp only
          rw [if_pos (by omega)]
        · rw [if_neg (show ¬ (y.1 < v ∨ (y.1 = v ∧ (0 : Int) < ((3 + i : Nat) : Int))) by omega), if_neg h2]
          simp only
          rw [if_pos h1]
      · rw [if_neg h1]
        by_cases h2 : y.1 ≤ v
        · rw [if_pos h2]
        · rw [if_neg h2]
          simp only
          rw [if_neg (by omega), if_neg h1]
theorem desc_none {d : List Int} {p w : Nat} {c : Pr} {least : Nat → Int} : ∀ (m : Nat) (s : Int × Tok) (b : Nat), b ≤ m → (∀ i, b ≤ i → i < m → ¬ (p + (i + 3) ≤ d.length ∧ near d p (i + 3) w ≠ 0)) → descF d p w c least m s = descF d p w c least b s
  | 0, s, b, h, _ => by obtain rfl : b = 0 := by omega
                        rfl
  | m + 1, s, b, h, hn => by
    by_cases e : b = m + 1
    · subst e; rfl
    · simp only [descF]
      rw [if_neg (fun h1 => hn m (by omega) (by omega) ⟨h1.1, h1.2.1⟩)]
      exact desc_none m s b (by omega) (fun i h1 h2 => hn i h1 (by omega))
/-- the first m of them, the greatest first -/
theorem desc_pick {d : List Int} {p w : Nat} {c : Pr} {least : Nat → Int} {L : List Nat} (hg : ∀ i (h : i < L.length), L[i] = near d p (3 + i) w ∧ 1 ≤ L[i]) (hlen : p + (L.length + 2) ≤ d.length ∨ L = []) : ∀ (m : Nat) (s : Int × Tok), m ≤ L.length →
    descF d p w c least m s = match pickF p c least (L.take m) 0 with | none => s | some y => if y.1 < s.1 then y else s
  | 0, s, _ => rfl
  | m + 1, s, hm => by
    have hL : L ≠ [] := by intro e; subst e; simp at hm
    have hlen2 := hlen.resolve_right hL
    simp only [descF]
    rw [desc_pick hg hlen m _ (by omega), List.take_succ_eq_append_getElem (show m < L.length by omega)]
    obtain ⟨g1, g2⟩ := hg m (by omega)
    have e3 : m + 3 = 3 + m := by omega
    rw [e3, ← g1]
    have hp3 : p + (3 + m) ≤ d.length := by omega
    have app : ∀ (T : List Nat) (i x : Nat), pickF p c least (T ++ [x]) i = match pickF p c least T i with
        | none => some (mcost c x (least (p + (3 + (i + T.length)))), ⟨0, ((3 + (i + T.length) : Nat) : Int), (x : Nat)⟩)
        | some y => if mcost c x (least (p + (3 + (i + T.length)))) ≤ y.1 then some (mcost c x (least (p + (3 + (i + T.length)))), ⟨0, ((3 + (i + T.length) : Nat) : Int), (x : Nat)⟩) else some y := by
      intro T
      induction T with
      | nil => intro i x; simp [pickF]
      | cons k t ih =>
        intro i x
        simp only [List.cons_append, pickF, List.length_cons]
        rw [ih (i + 1) x, show i + 1 + t.length = i + (t.length + 1) from by omega]
        generalize mcost c x (least (p + (3 + (i + (t.length + 1))))) = vx
        generalize mcost c k (least (p + (3 + i))) = vk
        cases pickF p c least t (i + 1) with
        | none => rfl
        | some y =>
          simp only
          by_cases h1 : vx ≤ y.1
          · rw [if_pos h1]
            simp only
            by_cases h2 : y.1 ≤ vk
            · rw [if_pos h2, if_pos (by omega)]
              simp only
              rw [if_pos h1]
            · rw [if_neg h2]
          · rw [if_neg h1]
            simp only
            by_cases h2 : y.1 ≤ vk
            · rw [if_pos h2]
              simp only
              rw [if_neg h1]
            · rw [if_neg h2]
              simp only
              rw [if_neg (by omega)]
    rw [app (L.take m) 0 L[m]]
    have el : (L.take m).length = m := by rw [List.length_take]; omega
    rw [el, Nat.zero_add]
    generalize mcost c L[m] (least (p + (3 + m))) = v
    have hk : L[m] ≠ 0 := by omega
    have hs' : (if p + (3 + m) ≤ d.length ∧ L[m] ≠ 0 ∧ v < s.1 then (v, (⟨0, ((3 + m : Nat) : Int), (L[m] : Nat)⟩ : Tok)) else s) = if v < s.1 then (v, (⟨0, ((3 + m : Nat) : Int), (L[m] : Nat)⟩ : Tok)) else s := by
      by_cases h1 : v < s.1
      · rw [if_pos ⟨hp3, hk, h1⟩, if_pos h1]
      · rw [if_neg (fun e => h1 e.2.2), if_neg h1]
    rw [hs']
    cases pickF p c least (L.take m) 0 with
    | none => rfl
    | some y =>
      simp only
      by_cases h1 : v < s.1
      · rw [if_pos h1]
        by_cases h2 : v ≤ y.1
        · rw [if_pos h2]
          simp only
          rw [if_neg (by omega), if_pos h1]
        · rw [if_neg h2]
          simp only
          rw [if_pos (by omega), if_pos (by omega)]
      · rw [if_neg h1]
        by_cases h2 : v ≤ y.1
        · rw [if_pos h2]
          simp only
          rw [if_neg (by omega), if_neg h1]
        · rw [if_neg h2]
/-- both ways come to the same -/
theorem asc_desc {d : List Int} {p w : Nat} {c : Pr} {least : Nat → Int} {L : List Nat} (hp : p ≤ d.length) (h : IsNear d p w L) (s : Int × Tok) (hs : s.2.len = 0) : ascF p c least L 0 s = descF d p w c least 256 s := by
  have hm : L.length + 2 ≤ 258 ∧ p + (L.length + 2) ≤ d.length ∨ L = [] := by
    rcases h.len with e | e
    · unfold most at e; exact .inl (by omega)
    · exact .inr e
  have hl : L.length ≤ 256 := by
    rcases hm with e | e
    · omega
    · subst e; simp
  rw [desc_none 256 s L.length hl (fun i h1 h2 h3 => h3.2 (by rw [show i + 3 = 3 + i from by omega]; exact h.end_ i h1 (by unfold most; omega)))]
  rw [desc_pick h.get (hm.imp (fun e => e.2) id) L.length s (Nat.le_refl _), List.take_length, asc_pick]
  cases pickF p c least L 0 with
  | none => rfl
  | some y =>
    simp only
    by_cases h1 : y.1 < s.1
    · rw [if_pos (.inl h1), if_pos h1]
    · rw [if_neg (by omega), if_neg h1]
end Go.Proofs.Ytbfdokklhdmmoaa.Lz
