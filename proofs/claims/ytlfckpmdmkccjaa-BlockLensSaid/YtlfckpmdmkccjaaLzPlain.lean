/- Matches and tokens (chapter 07), in plain Lean: what both sides compute. No condition. -/
import Derived.KernelRfl
set_option maxRecDepth 100000
set_option linter.unusedVariables false
set_option linter.unusedSimpArgs false
namespace Go.Proofs.Ytlfckpmdmkccjaa.Lz

/-- the byte at a place -/
def at0 (d : List Int) (i : Nat) : Int := d.getD i 0
def alikeF (d : List Int) (q p : Nat) : Nat → Nat → Nat
  | 0, n => n
  | f + 1, n => if p + n < d.length ∧ at0 d (q + n) = at0 d (p + n) then alikeF d q p f (n + 1) else n
/-- how many bytes from two places on are the same -/
def alike (d : List Int) (q p : Nat) : Nat := alikeF d q p 258 0
theorem alikeF_le (d : List Int) (q p : Nat) : ∀ f n, alikeF d q p f n ≤ f + n
  | 0, n => by simp [alikeF]
  | f + 1, n => by
    simp only [alikeF]
    split
    · have := alikeF_le d q p f (n + 1); omega
    · omega
theorem alikeF_ge (d : List Int) (q p : Nat) : ∀ f n, n ≤ alikeF d q p f n
  | 0, n => by simp [alikeF]
  | f + 1, n => by
    simp only [alikeF]
    split
    · have := alikeF_ge d q p f (n + 1); omega
    · omega
theorem alikeF_len (d : List Int) (q p : Nat) : ∀ f n, p + n ≤ d.length → p + alikeF d q p f n ≤ d.length
  | 0, n, h => by simpa [alikeF] using h
  | f + 1, n, h => by
    simp only [alikeF]
    split
    · rename_i hc
      exact alikeF_len d q p f (n + 1) (by omega)
    · exact h
theorem alike_le (d : List Int) (q p : Nat) : alike d q p ≤ 258 := alikeF_le d q p 258 0
theorem alike_len (d : List Int) (q p : Nat) (h : p ≤ d.length) : p + alike d q p ≤ d.length := alikeF_len d q p 258 0 h
theorem alikeF_same (d : List Int) (q p : Nat) : ∀ f n j, n ≤ j → j < alikeF d q p f n → at0 d (q + j) = at0 d (p + j)
  | 0, n, j, h, hj => by simp only [alikeF] at hj; omega
  | f + 1, n, j, h, hj => by
    simp only [alikeF] at hj
    split at hj
    · rename_i hc
      by_cases e : j = n
      · subst e; exact hc.2
      · exact alikeF_same d q p f (n + 1) j (by omega) hj
    · omega
theorem alike_same {d : List Int} {q p j : Nat} (h : j < alike d q p) : at0 d (q + j) = at0 d (p + j) := alikeF_same d q p 258 0 j (Nat.zero_le _) h
/-- the same three bytes -/
def same3 (d : List Int) (q p : Nat) : Prop := at0 d q = at0 d p ∧ at0 d (q + 1) = at0 d (p + 1) ∧ at0 d (q + 2) = at0 d (p + 2)
instance (d : List Int) (q p : Nat) : Decidable (same3 d q p) := by unfold same3; exact inferInstance
theorem same3_symm {d : List Int} {q p : Nat} (h : same3 d q p) : same3 d p q := ⟨h.1.symm, h.2.1.symm, h.2.2.symm⟩
theorem same3_trans {d : List Int} {a b c : Nat} (h : same3 d a b) (k : same3 d b c) : same3 d a c := ⟨h.1.trans k.1, h.2.1.trans k.2.1, h.2.2.trans k.2.2⟩
theorem alike_three {d : List Int} {q p : Nat} (h : p + 3 ≤ d.length) : 3 ≤ alike d q p ↔ same3 d q p := by
  constructor
  · intro h3
    exact ⟨by simpa using alike_same (d := d) (q := q) (p := p) (j := 0) (by omega), alike_same (by omega), alike_same (by omega)⟩
  · rintro ⟨a, b, c⟩
    unfold alike
    have s : ∀ f n, alikeF d q p (f + 1) n = if p + n < d.length ∧ at0 d (q + n) = at0 d (p + n) then alikeF d q p f (n + 1) else n := fun _ _ => rfl
    rw [s 257 0, if_pos ⟨by omega, by simpa using a⟩, s 256 1, if_pos ⟨by omega, b⟩, s 255 2, if_pos ⟨by omega, c⟩]
    exact alikeF_ge d q p 255 3
def bestF (d : List Int) (p w : Nat) : Nat → Nat → Nat → Nat → Nat × Nat
  | 0, _, b, s => (b, s)
  | q + 1, ch, b, s => if p - q ≤ w ∧ 0 < ch then (if alike d q p < 3 then bestF d p w q ch b s else if b < alike d q p then bestF d p w q (ch - 1) (alike d q p) (p - q) else bestF d p w q (ch - 1) b s) else (b, s)
/-- the match that is found at a place, and its distance -/
def best (d : List Int) (p w ch : Nat) : Nat × Nat := bestF d p w p ch 0 0
theorem bestF_short {d : List Int} {p w : Nat} (h : d.length < p + 3) (hp : p ≤ d.length) : ∀ q ch b s, bestF d p w q ch b s = (b, s)
  | 0, ch, b, s => rfl
  | q + 1, ch, b, s => by
    simp only [bestF]
    split
    · rw [if_pos (by have := alike_len d q p hp; omega), bestF_short h hp q ch b s]
    · rfl
/-- the greatest place below q that has p's three bytes; -1: none -/
def prevF (d : List Int) (p : Nat) : Nat → Int
  | 0 => -1
  | q + 1 => if same3 d q p then (q : Int) else prevF d p q
def prev (d : List Int) (p : Nat) : Int := prevF d p p
theorem prevF_lt (d : List Int) (p : Nat) : ∀ q, prevF d p q < q ∧ -1 ≤ prevF d p q
  | 0 => by simp [prevF]
  | q + 1 => by
    simp only [prevF]
    split
    · omega
    · have := prevF_lt d p q; omega
theorem prevF_same {d : List Int} {a b : Nat} (h : same3 d a b) : ∀ q, prevF d a q = prevF d b q
  | 0 => rfl
  | q + 1 => by
    simp only [prevF]
    by_cases h1 : same3 d q a
    · rw [if_pos h1, if_pos (same3_trans h1 h)]
    · rw [if_neg h1, if_neg (fun h2 => h1 (same3_trans h2 (same3_symm h))), prevF_same h q]
theorem prevF_hit {d : List Int} {p : Nat} : ∀ {q : Nat}, 0 ≤ prevF d p q → same3 d (prevF d p q).toNat p
  | 0, h => by simp [prevF] at h
  | q + 1, h => by
    simp only [prevF] at h ⊢
    by_cases h1 : same3 d q p
    · rw [if_pos h1]; simpa using h1
    · rw [if_neg h1] at h ⊢
      exact prevF_hit h
def chainF (d : List Int) (p w : Nat) : Nat → Int → Nat → Nat → Nat × Nat
  | 0, _, b, s => (b, s)
  | k + 1, c, b, s => if c < 0 ∨ (w : Int) < p - c then (b, s) else
      if b < alike d c.toNat p then chainF d p w k (prev d c.toNat) (alike d c.toNat p) ((p : Int) - c).toNat else chainF d p w k (prev d c.toNat) b s
theorem chain_best {d : List Int} {p w : Nat} (h : p + 3 ≤ d.length) : ∀ q k b s, q ≤ p → chainF d p w k (prevF d p q) b s = bestF d p w q k b s
  | 0, k, b, s, _ => by cases k <;> simp [chainF, bestF, prevF]
  | q + 1, k, b, s, hq => by
    simp only [bestF]
    by_cases hc : p - q ≤ w ∧ 0 < k
    · rw [if_pos hc]
      by_cases h3 : alike d q p < 3
      · rw [if_pos h3]
        have : ¬ same3 d q p := fun e => by have := (alike_three h).2 e; omega
        simp only [prevF]
        rw [if_neg this]
        exact chain_best h q k b s (by omega)
      · rw [if_neg h3]
        have hs : same3 d q p := (alike_three h).1 (by omega)
        obtain ⟨k, rfl⟩ : ∃ k', k = k' + 1 := ⟨k - 1, by omega⟩
        simp only [prevF]
        rw [if_pos hs]
        simp only [chainF, Int.toNat_natCast, Nat.add_sub_cancel]
        rw [if_neg (by omega)]
        have e : prev d q = prevF d p q := prevF_same hs q
        rw [e]
        split
        · rw [chain_best h q k _ _ (by omega)]
          congr 1
          omega
        · rw [chain_best h q k _ _ (by omega)]
    · rw [if_neg hc]
      cases k with
      | zero => rfl
      | succ k =>
        simp only [chainF]
        rw [if_pos]
        have := prevF_lt d p (q + 1)
        have : ¬ p - q ≤ w := fun e => hc ⟨e, by omega⟩
        omega
theorem best_chain {d : List Int} {p w ch : Nat} (h : p + 3 ≤ d.length) : best d p w ch = chainF d p w ch (prev d p) 0 0 := (chain_best h p ch 0 0 (Nat.le_refl _)).symm
theorem best_short {d : List Int} {p w ch : Nat} (h : d.length < p + 3) (hp : p ≤ d.length) : best d p w ch = (0, 0) := bestF_short h hp p ch 0 0

/-! ### tokens -/
structure Tok where
  lit : Int
  len : Int
  dist : Int
def right (t : Tok) : Bool := if t.len = 0 then decide (t.dist = 0) else decide (3 ≤ t.len ∧ t.len ≤ 258 ∧ 1 ≤ t.dist ∧ t.dist ≤ 32768 ∧ t.lit = 0)
def width (t : Tok) : Nat := if right t then (if t.len = 0 then 1 else t.len.toNat) else 0
theorem right_len {t : Tok} (h : right t = true) : t.len = 0 ∧ t.dist = 0 ∨ (3 ≤ t.len ∧ t.len ≤ 258 ∧ 1 ≤ t.dist ∧ t.dist ≤ 32768 ∧ t.lit = 0) := by
  unfold right at h
  by_cases e : t.len = 0
  · rw [if_pos e] at h; exact .inl ⟨e, of_decide_eq_true h⟩
  · rw [if_neg e] at h; exact .inr (of_decide_eq_true h)
theorem width_le (t : Tok) : width t ≤ 258 := by
  unfold width
  by_cases h : right t = true
  · rw [if_pos h]
    have := right_len h
    split <;> omega
  · rw [if_neg h]; omega
def sizeOf (l : List Tok) : Nat := (l.map width).sum
theorem sizeOf_le (l : List Tok) : sizeOf l ≤ 258 * l.length := by
  induction l with
  | nil => simp [sizeOf]
  | cons t l ih => have := width_le t; simp only [sizeOf, List.map_cons, List.sum_cons, List.length_cons] at ih ⊢; omega
/-- the first token that may not be: its place and the error -/
def checkF (w : Int) : List Tok → Nat → Nat → Nat × Int
  | [], _, _ => (0, 0)
  | t :: l, i, n => if right t = false then (i, 70) else if w < t.dist ∨ (n : Int) < t.dist then (i, 71) else checkF w l (i + 1) (n + width t)
def check (w : Int) (l : List Tok) : Nat × Int := if w < 1 ∨ 32768 < w then (0, 1) else checkF w l 0 0
/-- a match laid behind what there is -/
def copyF (dist : Nat) : Nat → List Int → List Int
  | 0, b => b
  | k + 1, b => copyF dist k (b ++ [at0 b (b.length - dist)])
def tokF (t : Tok) (b : List Int) : List Int := copyF t.dist.toNat t.len.toNat (if t.len = 0 then b ++ [t.lit] else b)
def expF : List Tok → List Int → List Int
  | [], b => b
  | t :: l, b => expF l (tokF t b)
def expand (w : Int) (l : List Tok) : List Int := if (check w l).2 = 0 then expF l [] else []
theorem copyF_len (dist : Nat) : ∀ k b, (copyF dist k b).length = b.length + k
  | 0, b => rfl
  | k + 1, b => by simp only [copyF]; rw [copyF_len dist k]; simp; omega

/-! ### parse -/
structure Opt where
  window : Int
  chain : Int
  isLazy : Bool
def optErr (k : Opt) : Int := if k.window < 1 ∨ 32768 < k.window ∨ k.chain < 0 ∨ 4096 < k.chain then 72 else 0
/-- the length that is taken at a place -/
def taken (d : List Int) (k : Opt) (p : Nat) : Nat :=
  if 0 < (best d p k.window.toNat k.chain.toNat).1 ∧ k.isLazy = true ∧ p + 1 < d.length ∧ (best d p k.window.toNat k.chain.toNat).1 < (best d (p + 1) k.window.toNat k.chain.toNat).1 then 0 else (best d p k.window.toNat k.chain.toNat).1
def tokAt (d : List Int) (k : Opt) (p : Nat) : Tok := if taken d k p = 0 then ⟨at0 d p, 0, 0⟩ else ⟨0, taken d k p, (best d p k.window.toNat k.chain.toNat).2⟩
def stepAt (d : List Int) (k : Opt) (p : Nat) : Nat := if taken d k p = 0 then 1 else taken d k p
def parseF (d : List Int) (k : Opt) : Nat → Nat → List Tok
  | 0, _ => []
  | f + 1, p => if p < d.length then tokAt d k p :: parseF d k f (p + stepAt d k p) else []
theorem stepAt_pos (d : List Int) (k : Opt) (p : Nat) : 1 ≤ stepAt d k p := by unfold stepAt; split <;> omega
def parse (d : List Int) (k : Opt) : List Tok := if optErr k = 0 then parseF d k d.length 0 else []
theorem parseF_enough {d : List Int} {k : Opt} : ∀ {f g p : Nat}, d.length ≤ f + p → d.length ≤ g + p → parseF d k f p = parseF d k g p
  | 0, g, p, hf, hg => by cases g <;> simp [parseF]; omega
  | f + 1, 0, p, hf, hg => by simp [parseF]; omega
  | f + 1, g + 1, p, hf, hg => by
    simp only [parseF]
    split
    · have := stepAt_pos d k p
      rw [parseF_enough (f := f) (g := g) (by omega) (by omega)]
    · rfl
theorem parseF_step {d : List Int} {k : Opt} {f p : Nat} (h : p < d.length) (hf : d.length ≤ f + p) : parseF d k f p = tokAt d k p :: parseF d k f (p + stepAt d k p) := by
  have := stepAt_pos d k p
  rw [parseF_enough (f := f) (g := f + 1) hf (by omega)]
  simp only [parseF]
  rw [if_pos h]
theorem parseF_end {d : List Int} {k : Opt} {f p : Nat} (h : d.length ≤ p) : parseF d k f p = [] := by
  cases f with
  | zero => rfl
  | succ f => simp only [parseF]; rw [if_neg (by omega)]
end Go.Proofs.Ytlfckpmdmkccjaa.Lz
