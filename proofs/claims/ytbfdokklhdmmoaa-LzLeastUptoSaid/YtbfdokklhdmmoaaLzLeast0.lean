/- The cheapest tokens are the bytes, cost what the table says, and no tokens that are the bytes cost less. Plain Lean, no condition. -/
import Derived.Test.YtbfdokklhdmmoaaLzCheap2
set_option linter.unusedVariables false
set_option linter.unusedSimpArgs false
namespace Go.Proofs.Ytbfdokklhdmmoaa.Lz

def tcost (c : Pr) (t : Tok) : Int := if t.len = 0 then c.lit else c.mat + c.far * (bitLen t.dist.toNat : Nat)
def costL (c : Pr) (l : List Tok) : Int := (l.map (tcost c)).sum
theorem alikeF_all {d : List Int} {q p m : Nat} : ∀ f n, n ≤ m → m ≤ f + n → p + m ≤ d.length → (∀ j, j < m → at0 d (q + j) = at0 d (p + j)) → m ≤ alikeF d q p f n
  | 0, n, h1, h2, _, _ => by simp only [alikeF]; omega
  | f + 1, n, h1, h2, h3, h4 => by
    simp only [alikeF]
    by_cases e : n = m
    · subst e
      split
      · have := alikeF_ge d q p f (n + 1); omega
      · exact Nat.le_refl _
    · rw [if_pos ⟨by omega, h4 n (by omega)⟩]
      exact alikeF_all f (n + 1) (by omega) (by omega) h3 h4
theorem alike_all {d : List Int} {q p m : Nat} (h1 : m ≤ 258) (h2 : p + m ≤ d.length) (h3 : ∀ j, j < m → at0 d (q + j) = at0 d (p + j)) : m ≤ alike d q p := alikeF_all 258 0 (Nat.zero_le _) (by omega) h2 h3
theorem bitsF_mono : ∀ f a b, a ≤ b → bitsF f a ≤ bitsF f b
  | 0, a, b, h => Nat.le_refl _
  | f + 1, a, b, h => by
    simp only [bitsF]
    by_cases h1 : a = 0
    · rw [if_pos h1]; exact Nat.zero_le _
    · rw [if_neg h1, if_neg (by omega)]
      have := bitsF_mono f (a / 2) (b / 2) (Nat.div_le_div_right h)
      omega
theorem nearF_min {d : List Int} {p n w k : Nat} (hk : k ≤ w) (hp : k ≤ p) (ha : n ≤ alike d (p - k) p) : ∀ f j, 1 ≤ j → j ≤ k → k < f + j → nearF d p n w f j ≠ 0 ∧ nearF d p n w f j ≤ k
  | 0, j, h0, h1, h2 => by omega
  | f + 1, j, h0, h1, h2 => by
    simp only [nearF]
    rw [if_pos ⟨by omega, by omega⟩]
    by_cases e : n ≤ alike d (p - j) p
    · rw [if_pos e]; omega
    · rw [if_neg e]
      have : j ≠ k := by rintro rfl; exact e ha
      exact nearF_min hk hp ha f (j + 1) (by omega) (by omega) (by omega)
theorem near_min {d : List Int} {p n w k : Nat} (h1 : 1 ≤ k) (hk : k ≤ w) (hp : k ≤ p) (ha : n ≤ alike d (p - k) p) : near d p n w ≠ 0 ∧ near d p n w ≤ k := nearF_min hk hp ha (p + 1) 1 (Nat.le_refl _) h1 (by omega)
theorem descF_le {d : List Int} {p w : Nat} {c : Pr} {least : Nat → Int} : ∀ m s, (descF d p w c least m s).1 ≤ s.1
  | 0, s => Int.le_refl _
  | m + 1, s => by
    simp only [descF]
    split
    · rename_i e
      have := descF_le (d := d) (p := p) (w := w) (c := c) (least := least) m (mcost c (near d p (m + 3) w) (least (p + (m + 3))), ⟨0, ((m + 3 : Nat) : Int), (near d p (m + 3) w : Nat)⟩)
      simp only at this
      omega
    · exact descF_le m s
theorem descF_cand {d : List Int} {p w : Nat} {c : Pr} {least : Nat → Int} : ∀ m s i, i < m → p + (i + 3) ≤ d.length → near d p (i + 3) w ≠ 0 → (descF d p w c least m s).1 ≤ mcost c (near d p (i + 3) w) (least (p + (i + 3)))
  | 0, s, i, h, _, _ => by omega
  | m + 1, s, i, h, h1, h2 => by
    simp only [descF]
    by_cases e : i = m
    · subst e
      by_cases h3 : mcost c (near d p (i + 3) w) (least (p + (i + 3))) < s.1
      · rw [if_pos ⟨h1, h2, h3⟩]
        exact descF_le i _
      · rw [if_neg (fun e => h3 e.2.2)]
        have := descF_le (d := d) (p := p) (w := w) (c := c) (least := least) i s
        omega
    · exact descF_cand m _ i (by omega) h1 h2
/-- the token that stands and what it costs -/
theorem descF_pair {d : List Int} {p w : Nat} {c : Pr} {least : Nat → Int} {Q : Int × Tok → Prop} : ∀ (m : Nat) (s : Int × Tok), Q s → (∀ i, i < m → p + (i + 3) ≤ d.length → near d p (i + 3) w ≠ 0 → Q (mcost c (near d p (i + 3) w) (least (p + (i + 3))), ⟨0, ((i + 3 : Nat) : Int), (near d p (i + 3) w : Nat)⟩)) → Q (descF d p w c least m s)
  | 0, s, h, _ => h
  | m + 1, s, h, hq => by
    simp only [descF]
    split
    · rename_i e
      exact descF_pair m _ (hq m (Nat.lt_succ_self m) e.1 e.2.1) (fun i hi => hq i (by omega))
    · exact descF_pair m _ h (fun i hi => hq i (by omega))
theorem tab_cost {d : List Int} {w : Nat} {c : Pr} {p : Nat} (h : p < d.length) : (tab d w c p).1 = tcost c (tab d w c p).2 + (tab d w c (p + max (tab d w c p).2.len.toNat 1)).1 := by
  have key : ∀ s : Int × Tok, s = tab d w c p → s.1 = tcost c s.2 + (tab d w c (p + max s.2.len.toNat 1)).1 := by
    intro s hs
    rw [tab_step h] at hs
    unfold entry at hs
    rw [hs]
    refine descF_pair (Q := fun s => s.1 = tcost c s.2 + (tab d w c (p + max s.2.len.toNat 1)).1) 256 _ rfl (fun i hi h1 h2 => ?_)
    have e1 : ((i + 3 : Nat) : Int).toNat = i + 3 := Int.toNat_natCast _
    have e2 : max (i + 3) 1 = i + 3 := by omega
    have e3 : (((near d p (i + 3) w : Nat) : Int)).toNat = near d p (i + 3) w := Int.toNat_natCast _
    simp only [tcost, mcost, e1, e2, e3]
    rw [if_neg (by omega)]
  exact key _ rfl
theorem out_cost {d : List Int} {w : Nat} {c : Pr} : ∀ f p, d.length ≤ f + p → costL c (outF d w c f p) = (tab d w c p).1
  | 0, p, h => by rw [tab_end d w c (by omega)]; rfl
  | f + 1, p, h => by
    simp only [outF]
    split
    · rename_i hp
      have h1 := tab_cost (d := d) (w := w) (c := c) hp
      have h2 := Nat.le_max_right (tab d w c p).2.len.toNat 1
      have h3 := out_cost (d := d) (w := w) (c := c) f (p + max (tab d w c p).2.len.toNat 1) (by omega)
      rw [h1]
      simp only [costL, List.map_cons, List.sum_cons] at h3 ⊢
      omega
    · rw [tab_end d w c (by omega)]; rfl
/-- a token that may stand at a place, and how far it goes -/
def Fits (d : List Int) (w p : Nat) (t : Tok) (s : Nat) : Prop := (t.len = 0 ∧ s = 1 ∧ p + 1 ≤ d.length) ∨ ∃ k : Nat, t.len = (s : Nat) ∧ t.dist = (k : Nat) ∧ 3 ≤ s ∧ s ≤ 258 ∧ p + s ≤ d.length ∧ 1 ≤ k ∧ k ≤ w ∧ k ≤ p ∧ s ≤ alike d (p - k) p
theorem tab_fit {d : List Int} {w : Nat} {c : Pr} (hc : PrOk c) {p : Nat} {t : Tok} {s : Nat} (h : Fits d w p t s) : (tab d w c p).1 ≤ tcost c t + (tab d w c (p + s)).1 := by
  rcases h with ⟨h1, rfl, h2⟩ | ⟨k, h1, h2, h3, h4, h5, h6, h7, h8, h9⟩
  · rw [tab_step (by omega)]
    unfold entry tcost
    rw [if_pos h1]
    exact descF_le 256 _
  · have hn := near_min h6 h7 h8 h9
    obtain ⟨i, rfl⟩ : ∃ i, s = i + 3 := ⟨s - 3, by omega⟩
    rw [tab_step (by omega)]
    have hd := descF_cand (d := d) (p := p) (w := w) (c := c) (least := fun i => (tab d w c i).1) 256 (c.lit + (tab d w c (p + 1)).1, ⟨at0 d p, 0, 0⟩) i (by omega) h5 hn.1
    have hm : c.far * (bitLen (near d p (i + 3) w) : Nat) ≤ c.far * (bitLen k : Nat) := Int.mul_le_mul_of_nonneg_left (by have := bitsF_mono 64 _ _ hn.2; unfold bitLen; omega) hc.2.2.2.2.1
    have e3 : t.dist.toNat = k := by omega
    unfold entry tcost
    rw [if_neg (by omega), e3]
    unfold mcost at hd
    show (descF d p w c (fun i => (tab d w c i).1) 256 (c.lit + (tab d w c (p + 1)).1, ⟨at0 d p, 0, 0⟩)).1 ≤ _
    omega
theorem parse_fits {d : List Int} {k : Opt} {p : Nat} (hp : p < d.length) : Fits d k.window.toNat p (tokAt d k p) (stepAt d k p) := by
  by_cases h0 : taken d k p = 0
  · have e : tokAt d k p = ⟨at0 d p, 0, 0⟩ := by unfold tokAt; rw [if_pos h0]
    have e1 : stepAt d k p = 1 := by unfold stepAt; rw [if_pos h0]
    exact .inl ⟨by rw [e], e1, by omega⟩
  · have e : tokAt d k p = ⟨0, taken d k p, (best d p k.window.toNat k.chain.toNat).2⟩ := by unfold tokAt; rw [if_neg h0]
    have e1 : stepAt d k p = taken d k p := by unfold stepAt; rw [if_neg h0]
    have e2 := (taken_good (d := d) (k := k) (p := p) (by omega)).resolve_left h0
    obtain hb | ⟨b1, b2, b3, b4, b5, b6, b7⟩ := best_good (d := d) (p := p) (w := k.window.toNat) (ch := k.chain.toNat) (by omega)
    · omega
    · refine .inr ⟨(best d p k.window.toNat k.chain.toNat).2, by rw [e, e1], by rw [e], by omega, by omega, by omega, b3, b4, b5, ?_⟩
      rw [e1, e2]
      exact alike_all b2 b6 b7
theorem parse_cost {d : List Int} {k : Opt} {c : Pr} (hc : PrOk c) : ∀ f p, p ≤ d.length → d.length ≤ f + p → (tab d k.window.toNat c p).1 ≤ costL c (parseF d k f p)
  | 0, p, h, hf => by rw [tab_end d _ c (by omega)]; exact Int.le_refl _
  | f + 1, p, h, hf => by
    simp only [parseF]
    split
    · rename_i hp
      have h1 := parse_fits (k := k) hp
      have h2 := tab_fit hc h1
      have hs := stepAt_pos d k p
      have hq : p + stepAt d k p ≤ d.length := by
        rcases h1 with ⟨_, h, h'⟩ | ⟨_, _, _, _, _, h, _⟩ <;> omega
      have h3 := parse_cost (d := d) (k := k) hc f (p + stepAt d k p) hq (by omega)
      simp only [costL, List.map_cons, List.sum_cons] at h3 ⊢
      omega
    · rw [tab_end d _ c (by omega)]; exact Int.le_refl _
theorem lit_cost {d : List Int} {w : Nat} {c : Pr} (hc : PrOk c) : ∀ f p, p + f = d.length → (tab d w c p).1 ≤ c.lit * (f : Nat)
  | 0, p, h => by rw [tab_end d w c (by omega)]; simp
  | f + 1, p, h => by
    have h1 := tab_fit (d := d) hc (w := w) (p := p) (t := ⟨0, 0, 0⟩) (s := 1) (.inl ⟨rfl, rfl, by omega⟩)
    have h2 := lit_cost (d := d) (w := w) hc f (p + 1) (by omega)
    have e : tcost c ⟨0, 0, 0⟩ = c.lit := rfl
    rw [e] at h1
    have e2 : c.lit * ((f + 1 : Nat) : Int) = c.lit * (f : Nat) + c.lit := by push_cast; rw [Int.mul_add, Int.mul_one]
    omega
theorem out_tok {d : List Int} {w : Nat} {c : Pr} {p : Nat} (hw : w ≤ 32768) (hp : p < d.length) :
    right (tab d w c p).2 = true ∧ (tab d w c p).2.dist ≤ (w : Nat) ∧ (tab d w c p).2.dist ≤ (p : Nat) ∧ width (tab d w c p).2 = max (tab d w c p).2.len.toNat 1 ∧ p + max (tab d w c p).2.len.toNat 1 ≤ d.length ∧ tokF (tab d w c p).2 (d.take p) = d.take (p + max (tab d w c p).2.len.toNat 1) := by
  rcases tab_tok (d := d) (w := w) (c := c) hp with e | ⟨l, h3, h4, h5, h6, e⟩
  · rw [e]
    refine ⟨rfl, by simp only; omega, by simp, rfl, by simp only [Int.toNat_zero]; omega, ?_⟩
    show copyF 0 0 _ = _
    exact take_at hp
  · have hg := near_good h6
    have hl := near_le d p l w
    generalize near d p l w = k at *
    have hr : right ⟨0, (l : Int), (k : Int)⟩ = true := by
      unfold right
      rw [if_neg (by simp only; omega)]
      exact decide_eq_true (show 3 ≤ (l : Int) ∧ (l : Int) ≤ 258 ∧ 1 ≤ (k : Int) ∧ (k : Int) ≤ 32768 ∧ (0 : Int) = 0 from ⟨by omega, by omega, by omega, by omega, rfl⟩)
    have em : max ((l : Int).toNat) 1 = l := by simp; omega
    rw [e]
    simp only
    rw [em]
    refine ⟨hr, by omega, by omega, ?_, h5, ?_⟩
    · unfold width
      rw [if_pos hr, if_neg (by simp only; omega)]
      simp
    · unfold tokF
      rw [if_neg (by simp only; omega)]
      simp only [Int.toNat_natCast]
      exact copy_take hg.2 l p hl.2 h5 (fun j hj => alike_same (by omega))
theorem out_back {d : List Int} {w : Nat} {c : Pr} (hw : w ≤ 32768) : ∀ f p i, p ≤ d.length → d.length ≤ f + p →
    checkF (w : Nat) (outF d w c f p) i p = (0, 0) ∧ expF (outF d w c f p) (d.take p) = d
  | 0, p, i, h, hf => by
    obtain rfl : p = d.length := by omega
    simp [outF, checkF, expF]
  | f + 1, p, i, h, hf => by
    simp only [outF]
    by_cases hp : p < d.length
    · rw [if_pos hp]
      obtain ⟨r1, r2, r3, r4, r5, r6⟩ := out_tok (d := d) (c := c) hw hp
      have hs := Nat.le_max_right (tab d w c p).2.len.toNat 1
      obtain ⟨i1, i2⟩ := out_back (d := d) (c := c) hw f (p + max (tab d w c p).2.len.toNat 1) (i + 1) r5 (by omega)
      refine ⟨?_, ?_⟩
      · simp only [checkF]
        rw [if_neg (by rw [r1]; simp), if_neg (by omega), r4]
        exact i1
      · simp only [expF]
        rw [r6]
        exact i2
    · rw [if_neg hp]
      obtain rfl : p = d.length := by omega
      simp [checkF, expF]
/-- tokens that are the bytes -/
theorem out_law {d : List Int} {w : Nat} {c : Pr} (h1 : 1 ≤ w) (hw : w ≤ 32768) : check (w : Nat) (outF d w c d.length 0) = (0, 0) ∧ expand (w : Nat) (outF d w c d.length 0) = d := by
  obtain ⟨i1, i2⟩ := out_back (d := d) (c := c) hw d.length 0 0 (Nat.zero_le _) (by omega)
  have e : check (w : Nat) (outF d w c d.length 0) = (0, 0) := by unfold check; rw [if_neg (by omega)]; exact i1
  refine ⟨e, ?_⟩
  unfold expand
  rw [if_pos (by rw [e])]
  exact i2
theorem out_right {d : List Int} {w : Nat} {c : Pr} (hw : w ≤ 32768) : ∀ f p, ∀ t ∈ outF d w c f p, 0 ≤ t.dist ∧ t.dist ≤ 32768
  | 0, p, t, h => by simp [outF] at h
  | f + 1, p, t, h => by
    simp only [outF] at h
    split at h
    · rename_i hp
      rcases List.mem_cons.mp h with rfl | h
      · rcases tab_tok (d := d) (w := w) (c := c) hp with e | ⟨l, h3, h4, h5, h6, e⟩
        · rw [e]; simp
        · rw [e]
          have := near_le d p l w
          simp only
          omega
      · exact out_right hw f _ t h
    · simp at h
theorem parse_right {d : List Int} {k : Opt} (hk : optErr k = 0) : ∀ f p, ∀ t ∈ parseF d k f p, 0 ≤ t.dist ∧ t.dist ≤ 32768
  | 0, p, t, h => by simp [parseF] at h
  | f + 1, p, t, h => by
    simp only [parseF] at h
    split at h
    · rename_i hp
      rcases List.mem_cons.mp h with rfl | h
      · have hr := right_len (tok_right hk hp).1
        omega
      · exact parse_right hk f _ t h
    · simp at h
theorem tcost_bound {c : Pr} (h : PrOk c) (t : Tok) : 0 ≤ tcost c t ∧ tcost c t ≤ 68157440 := by
  have := mcost_bound h t.dist.toNat (r := 0) (Int.le_refl _)
  obtain ⟨h1, h2, h3, h4, _⟩ := h
  unfold tcost
  split
  · omega
  · omega
theorem costL_bound {c : Pr} (h : PrOk c) : ∀ l : List Tok, 0 ≤ costL c l ∧ costL c l ≤ 68157440 * (l.length : Nat)
  | [] => by simp [costL]
  | t :: l => by
    have h1 := tcost_bound h t
    have h2 := costL_bound h l
    simp only [costL, List.map_cons, List.sum_cons, List.length_cons] at h2 ⊢
    push_cast
    omega
end Go.Proofs.Ytbfdokklhdmmoaa.Lz
