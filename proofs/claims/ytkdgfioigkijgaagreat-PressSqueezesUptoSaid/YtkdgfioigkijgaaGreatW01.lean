import Derived.KernelRfl
set_option maxRecDepth 100000
set_option linter.unusedVariables false
set_option linter.unusedSimpArgs false
namespace Go.Proofs.YtkdgfioigkijgaaGreat.Code
def cnt (lens : List Int) (l : Nat) : Nat := lens.countP (fun x => decide (x = (l : Int)))
def cz (lens : List Int) (l : Nat) : Nat := if l = 0 then 0 else cnt lens l
def bad (lens : List Int) : Bool := decide (288 < lens.length ∨ ∃ x ∈ lens, x < 0 ∨ 15 < x)
def upd (f : Nat → Nat) (i v : Nat) : Nat → Nat := fun j => if j = i then v else f j
def spaceF (f : Nat → Nat) : Nat → Nat
  | 0 => 0
  | l + 1 => spaceF f l + f (l + 1) * 2 ^ (15 - (l + 1))
def space (lens : List Int) : Nat := spaceF (cz lens) 15
def usedF (f : Nat → Nat) : Nat → Nat
  | 0 => 0
  | l + 1 => usedF f l + f l
def used (lens : List Int) : Nat := usedF (cz lens) 16
def check (lens : List Int) : Int :=
  if bad lens = true then 50 else if 32768 < space lens then 51 else if space lens = 32768 ∨ used lens = 0 ∨ (used lens = 1 ∧ cz lens 1 = 1) then 0 else 52
def firstF (f : Nat → Nat) : Nat → Nat
  | 0 => 0
  | l + 1 => (firstF f l + f l) * 2
def codesF : List Int → (Nat → Nat) → List Nat
  | [], _ => []
  | x :: xs, next => (if 0 < x then next x.toNat else 0) :: codesF xs (if 0 < x then upd next x.toNat (next x.toNat + 1) else next)
def codes (lens : List Int) : List Nat := if check lens = 0 then codesF lens (firstF (cz lens)) else []
theorem codesF_len : ∀ (xs : List Int) (f : Nat → Nat), (codesF xs f).length = xs.length
  | [], f => rfl
  | x :: xs, f => by simp only [codesF, List.length_cons, codesF_len xs]
theorem cnt_le (lens : List Int) (l : Nat) : cnt lens l ≤ lens.length := List.countP_le_length
theorem cz_le (lens : List Int) (l : Nat) : cz lens l ≤ lens.length := by
  unfold cz
  split
  · exact Nat.zero_le _
  · exact cnt_le lens l
theorem cnt_take {lens : List Int} {j : Nat} (h : j < lens.length) {v : Nat} (hv : lens[j] = (v : Int)) : cnt (lens.take (j + 1)) = upd (cnt (lens.take j)) v (cnt (lens.take j) v + 1) := by
  funext l
  unfold cnt upd
  rw [List.take_succ_eq_append_getElem h, List.countP_append, List.countP_cons, List.countP_nil, hv]
  by_cases e : l = v
  · subst e; simp
  · have e2 : ¬ ((v : Int) = (l : Int)) := by omega
    simp [e, e2]
theorem bad_false {lens : List Int} (h : bad lens = false) : lens.length ≤ 288 ∧ ∀ x ∈ lens, 0 ≤ x ∧ x ≤ 15 := by
  have h1 := of_decide_eq_false h
  refine ⟨Nat.le_of_not_lt fun e => h1 (.inl e), fun x hx => ?_⟩
  have : ¬ (x < 0 ∨ 15 < x) := fun e => h1 (.inr ⟨x, hx, e⟩)
  omega
theorem bad_at {lens : List Int} {j : Nat} (h : j < lens.length) (hx : lens[j] < 0 ∨ 15 < lens[j]) : bad lens = true := decide_eq_true (.inr ⟨lens[j], List.getElem_mem h, hx⟩)
theorem bad_long {lens : List Int} (h : 288 < lens.length) : bad lens = true := decide_eq_true (.inl h)
theorem bad_not {lens : List Int} (h : lens.length ≤ 288) (h2 : ∀ (j : Nat) (hj : j < lens.length), 0 ≤ lens[j] ∧ lens[j] ≤ 15) : bad lens = false := decide_eq_false (by
  rintro (e | ⟨x, hx, e⟩)
  · omega
  · obtain ⟨j, hj, rfl⟩ := List.getElem_of_mem hx
    have := h2 j hj
    omega)
theorem spaceF_le {f : Nat → Nat} {B : Nat} (h : ∀ l, f l ≤ B) : ∀ n, n ≤ 15 → spaceF f n ≤ n * (B * 16384)
  | 0, _ => by simp [spaceF]
  | n + 1, hn => by
    have h1 := spaceF_le h n (by omega)
    have h2 : f (n + 1) * 2 ^ (15 - (n + 1)) ≤ B * 16384 := Nat.mul_le_mul (h _) (by
      have : 2 ^ (15 - (n + 1)) ≤ 2 ^ 14 := Nat.pow_le_pow_right (by omega) (by omega)
      simpa using this)
    simp only [spaceF]
    rw [Nat.succ_mul]
    omega
theorem firstF_le {f : Nat → Nat} {B : Nat} (h : ∀ l, f l ≤ B) : ∀ n, firstF f n + 2 * B ≤ 2 ^ (n + 1) * B
  | 0 => by simp [firstF]
  | n + 1 => by
    have h1 := firstF_le h n
    have h2 := h n
    simp only [firstF]
    have : 2 ^ (n + 1 + 1) * B = 2 * (2 ^ (n + 1) * B) := by rw [Nat.pow_succ 2 (n + 1)]; rw [Nat.mul_comm (2 ^ (n + 1)) 2, Nat.mul_assoc]
    omega
end Go.Proofs.YtkdgfioigkijgaaGreat.Code
set_option maxRecDepth 100000
set_option linter.unusedVariables false
set_option linter.unusedSimpArgs false
namespace Go.Proofs.YtkdgfioigkijgaaGreat.Code
theorem first_space {f : Nat → Nat} (h0 : f 0 = 0) : ∀ l, l ≤ 15 → (firstF f l + f l) * 2 ^ (15 - l) = spaceF f l
  | 0, _ => by simp [firstF, spaceF, h0]
  | l + 1, h => by
    have ih := first_space h0 l (by omega)
    simp only [firstF, spaceF]
    have e : 2 ^ (15 - l) = 2 * 2 ^ (15 - (l + 1)) := by rw [show 15 - l = (15 - (l + 1)) + 1 from by omega, Nat.pow_succ, Nat.mul_comm]
    rw [← ih, e, Nat.add_mul, Nat.mul_assoc]
theorem spaceF_mono {f : Nat → Nat} : ∀ {a b : Nat}, a ≤ b → spaceF f a ≤ spaceF f b := by
  intro a b h
  induction h with
  | refl => exact Nat.le_refl _
  | step h ih => simp only [spaceF]; omega
theorem first_fits {f : Nat → Nat} (h0 : f 0 = 0) (hs : spaceF f 15 ≤ 32768) {l : Nat} (hl : l ≤ 15) : firstF f l + f l ≤ 2 ^ l := by
  have h1 := first_space h0 l hl
  have h2 := spaceF_mono (f := f) hl
  have h3 : (firstF f l + f l) * 2 ^ (15 - l) ≤ 2 ^ l * 2 ^ (15 - l) := by
    rw [← Nat.pow_add, show l + (15 - l) = 15 from by omega]
    omega
  exact Nat.le_of_mul_le_mul_right h3 (Nat.pow_pos (by omega))
theorem codesF_get : ∀ (xs : List Int) (nx : Nat → Nat) (i : Nat) (h : i < xs.length), 0 < xs[i] → (codesF xs nx)[i]? = some (nx xs[i].toNat + cnt (xs.take i) xs[i].toNat)
  | [], nx, i, h, _ => by simp at h
  | x :: xs, nx, 0, h, hx => by
    have hx' : 0 < x := hx
    simp only [codesF, if_pos hx', List.getElem?_cons_zero]
    simp [cnt]
  | x :: xs, nx, i + 1, h, hx => by
    have hi : i < xs.length := by simpa using h
    have e : (x :: xs)[i + 1] = xs[i] := rfl
    rw [e] at hx ⊢
    simp only [codesF, List.getElem?_cons_succ, List.take_succ_cons]
    rw [codesF_get xs _ i hi hx]
    congr 1
    have ec : cnt (x :: xs.take i) xs[i].toNat = cnt (xs.take i) xs[i].toNat + (if x = ((xs[i].toNat : Nat) : Int) then 1 else 0) := by
      unfold cnt
      rw [List.countP_cons]
      simp
    rw [ec]
    by_cases h0 : 0 < x
    · rw [if_pos h0]
      unfold upd
      by_cases h2 : xs[i].toNat = x.toNat
      · rw [if_pos h2, if_pos (by omega), h2]
        omega
      · rw [if_neg h2, if_neg (by omega)]
        omega
    · rw [if_neg h0, if_neg (by omega)]
      omega
theorem codesF_zero : ∀ (xs : List Int) (nx : Nat → Nat) (i : Nat) (h : i < xs.length), ¬ 0 < xs[i] → (codesF xs nx)[i]? = some 0
  | [], nx, i, h, _ => by simp at h
  | x :: xs, nx, 0, h, hx => by
    have hx' : ¬ 0 < x := hx
    simp only [codesF, if_neg hx', List.getElem?_cons_zero]
  | x :: xs, nx, i + 1, h, hx => by
    have hi : i < xs.length := by simpa using h
    simp only [codesF, List.getElem?_cons_succ]
    exact codesF_zero xs _ i hi hx
theorem cnt_take_lt {xs : List Int} {i : Nat} (h : i < xs.length) {v : Nat} (hv : xs[i] = (v : Int)) : cnt (xs.take i) v < cnt xs v := by
  have h1 := cnt_take h hv
  have h2 : cnt (xs.take (i + 1)) v ≤ cnt xs v := List.Sublist.countP_le (List.take_sublist _ _)
  rw [h1] at h2
  unfold upd at h2
  rw [if_pos rfl] at h2
  omega
theorem check_zero {lens : List Int} (h : check lens = 0) : bad lens = false ∧ space lens ≤ 32768 := by
  unfold check at h
  split at h
  · cases h
  · rename_i hb
    split at h
    · cases h
    · refine ⟨by simpa using hb, by omega⟩
theorem code_fits {lens : List Int} (h : check lens = 0) {i : Nat} (hi : i < lens.length) {v : Nat} (hv : lens[i] = (v : Int)) (h0 : 0 < v) : ∃ cd, (codes lens)[i]? = some cd ∧ cd = firstF (cz lens) v + cnt (lens.take i) v ∧ cd < 2 ^ v ∧ v ≤ 15 := by
  obtain ⟨hb, hs⟩ := check_zero h
  have hall := (bad_false hb).2 lens[i] (List.getElem_mem hi)
  have hv15 : v ≤ 15 := by omega
  have ht : lens[i].toNat = v := by omega
  refine ⟨_, ?_, rfl, ?_, hv15⟩
  · unfold codes
    rw [if_pos h, codesF_get lens _ i hi (by omega), ht]
  · have h1 := first_fits (f := cz lens) (by simp [cz]) hs hv15
    have h2 := cnt_take_lt hi hv
    have h3 : cz lens v = cnt lens v := by unfold cz; rw [if_neg (by omega)]
    omega
theorem codes_len {lens : List Int} (h : check lens = 0) : (codes lens).length = lens.length := by
  unfold codes
  rw [if_pos h, codesF_len]
def bitsOf (lens : List Int) (s : Int) : Nat := if 0 ≤ s ∧ s < (lens.length : Nat) then (lens.getD s.toNat 0).toNat else 0
def codeOf (lens : List Int) (s : Int) : Nat := (codes lens).getD s.toNat 0
theorem bitsOf_fits {lens : List Int} (h : check lens = 0) {s : Int} (hb : bitsOf lens s ≠ 0) : 0 ≤ s ∧ s < (lens.length : Nat) ∧ codeOf lens s < 2 ^ bitsOf lens s ∧ bitsOf lens s ≤ 15 ∧ lens[s.toNat]? = some (bitsOf lens s : Nat) ∧ (codes lens)[s.toNat]? = some (codeOf lens s) := by
  unfold bitsOf at hb ⊢
  split at hb
  · rename_i h1
    rw [if_pos h1]
    have hi : s.toNat < lens.length := by omega
    have hall := (bad_false (check_zero h).1).2 lens[s.toNat] (List.getElem_mem hi)
    have e : lens.getD s.toNat 0 = lens[s.toNat] := by rw [List.getD_eq_getElem?_getD, List.getElem?_eq_getElem hi]; rfl
    rw [e] at hb ⊢
    obtain ⟨cd, c1, c2, c3, c4⟩ := code_fits h hi (v := lens[s.toNat].toNat) (by omega) (by omega)
    have ec : codeOf lens s = cd := by unfold codeOf; rw [List.getD_eq_getElem?_getD, c1]; rfl
    rw [ec]
    exact ⟨h1.1, h1.2, c3, c4, by rw [List.getElem?_eq_getElem hi]; congr 1; omega, c1⟩
  · exact absurd rfl hb
end Go.Proofs.YtkdgfioigkijgaaGreat.Code
set_option maxRecDepth 100000
set_option linter.unusedVariables false
set_option linter.unusedSimpArgs false
namespace Go.Proofs.YtkdgfioigkijgaaGreat.Lz
def at0 (d : List Int) (i : Nat) : Int := d.getD i 0
def alikeF (d : List Int) (q p : Nat) : Nat → Nat → Nat
  | 0, n => n
  | f + 1, n => if p + n < d.length ∧ at0 d (q + n) = at0 d (p + n) then alikeF d q p f (n + 1) else n
def alike (d : List Int) (q p : Nat) : Nat := alikeF d q p 258 0
theorem alikeF_le (d : List Int) (q p : Nat) : ∀ f n, alikeF d q p f n ≤ f + n
  | 0, n => by simp [alikeF]
  | f + 1, n => by
    simp only [alikeF]
    split
    · have := alikeF_le d q p f (n + 1); omega
    · omega
theorem alikeF_ge (d : List Int) (q p : Nat) : ∀ f n, n ≤ alikeF d q p f n
  | 0, n => by simp [alikeF]
  | f + 1, n => by
    simp only [alikeF]
    split
    · have := alikeF_ge d q p f (n + 1); omega
    · omega
theorem alikeF_len (d : List Int) (q p : Nat) : ∀ f n, p + n ≤ d.length → p + alikeF d q p f n ≤ d.length
  | 0, n, h => by simpa [alikeF] using h
  | f + 1, n, h => by
    simp only [alikeF]
    split
    · rename_i hc
      exact alikeF_len d q p f (n + 1) (by omega)
    · exact h
theorem alike_le (d : List Int) (q p : Nat) : alike d q p ≤ 258 := alikeF_le d q p 258 0
theorem alike_len (d : List Int) (q p : Nat) (h : p ≤ d.length) : p + alike d q p ≤ d.length := alikeF_len d q p 258 0 h
theorem alikeF_same (d : List Int) (q p : Nat) : ∀ f n j, n ≤ j → j < alikeF d q p f n → at0 d (q + j) = at0 d (p + j)
  | 0, n, j, h, hj => by simp only [alikeF] at hj; omega
  | f + 1, n, j, h, hj => by
    simp only [alikeF] at hj
    split at hj
    · rename_i hc
      by_cases e : j = n
      · subst e; exact hc.2
      · exact alikeF_same d q p f (n + 1) j (by omega) hj
    · omega
theorem alike_same {d : List Int} {q p j : Nat} (h : j < alike d q p) : at0 d (q + j) = at0 d (p + j) := alikeF_same d q p 258 0 j (Nat.zero_le _) h
def same3 (d : List Int) (q p : Nat) : Prop := at0 d q = at0 d p ∧ at0 d (q + 1) = at0 d (p + 1) ∧ at0 d (q + 2) = at0 d (p + 2)
instance (d : List Int) (q p : Nat) : Decidable (same3 d q p) := by unfold same3; exact inferInstance
theorem same3_symm {d : List Int} {q p : Nat} (h : same3 d q p) : same3 d p q := ⟨h.1.symm, h.2.1.symm, h.2.2.symm⟩
theorem same3_trans {d : List Int} {a b c : Nat} (h : same3 d a b) (k : same3 d b c) : same3 d a c := ⟨h.1.trans k.1, h.2.1.trans k.2.1, h.2.2.trans k.2.2⟩
theorem alike_three {d : List Int} {q p : Nat} (h : p + 3 ≤ d.length) : 3 ≤ alike d q p ↔ same3 d q p := by
  constructor
  · intro h3
    exact ⟨by simpa using alike_same (d := d) (q := q) (p := p) (j := 0) (by omega), alike_same (by omega), alike_same (by omega)⟩
  · rintro ⟨a, b, c⟩
    unfold alike
    have s : ∀ f n, alikeF d q p (f + 1) n = if p + n < d.length ∧ at0 d (q + n) = at0 d (p + n) then alikeF d q p f (n + 1) else n := fun _ _ => rfl
    rw [s 257 0, if_pos ⟨by omega, by simpa using a⟩, s 256 1, if_pos ⟨by omega, b⟩, s 255 2, if_pos ⟨by omega, c⟩]
    exact alikeF_ge d q p 255 3
def bestF (d : List Int) (p w : Nat) : Nat → Nat → Nat → Nat → Nat × Nat
  | 0, _, b, s => (b, s)
  | q + 1, ch, b, s => if p - q ≤ w ∧ 0 < ch then (if alike d q p < 3 then bestF d p w q ch b s else if b < alike d q p then bestF d p w q (ch - 1) (alike d q p) (p - q) else bestF d p w q (ch - 1) b s) else (b, s)
def best (d : List Int) (p w ch : Nat) : Nat × Nat := bestF d p w p ch 0 0
theorem bestF_short {d : List Int} {p w : Nat} (h : d.length < p + 3) (hp : p ≤ d.length) : ∀ q ch b s, bestF d p w q ch b s = (b, s)
  | 0, ch, b, s => rfl
  | q + 1, ch, b, s => by
    simp only [bestF]
    split
    · rw [if_pos (by have := alike_len d q p hp; omega), bestF_short h hp q ch b s]
    · rfl
def prevF (d : List Int) (p : Nat) : Nat → Int
  | 0 => -1
  | q + 1 => if same3 d q p then (q : Int) else prevF d p q
def prev (d : List Int) (p : Nat) : Int := prevF d p p
theorem prevF_lt (d : List Int) (p : Nat) : ∀ q, prevF d p q < q ∧ -1 ≤ prevF d p q
  | 0 => by simp [prevF]
  | q + 1 => by
    simp only [prevF]
    split
    · omega
    · have := prevF_lt d p q; omega
theorem prevF_same {d : List Int} {a b : Nat} (h : same3 d a b) : ∀ q, prevF d a q = prevF d b q
  | 0 => rfl
  | q + 1 => by
    simp only [prevF]
    by_cases h1 : same3 d q a
    · rw [if_pos h1, if_pos (same3_trans h1 h)]
    · rw [if_neg h1, if_neg (fun h2 => h1 (same3_trans h2 (same3_symm h))), prevF_same h q]
theorem prevF_hit {d : List Int} {p : Nat} : ∀ {q : Nat}, 0 ≤ prevF d p q → same3 d (prevF d p q).toNat p
  | 0, h => by simp [prevF] at h
  | q + 1, h => by
    simp only [prevF] at h ⊢
    by_cases h1 : same3 d q p
    · rw [if_pos h1]; simpa using h1
    · rw [if_neg h1] at h ⊢
      exact prevF_hit h
def chainF (d : List Int) (p w : Nat) : Nat → Int → Nat → Nat → Nat × Nat
  | 0, _, b, s => (b, s)
  | k + 1, c, b, s => if c < 0 ∨ (w : Int) < p - c then (b, s) else
      if b < alike d c.toNat p then chainF d p w k (prev d c.toNat) (alike d c.toNat p) ((p : Int) - c).toNat else chainF d p w k (prev d c.toNat) b s
theorem chain_best {d : List Int} {p w : Nat} (h : p + 3 ≤ d.length) : ∀ q k b s, q ≤ p → chainF d p w k (prevF d p q) b s = bestF d p w q k b s
  | 0, k, b, s, _ => by cases k <;> simp [chainF, bestF, prevF]
  | q + 1, k, b, s, hq => by
    simp only [bestF]
    by_cases hc : p - q ≤ w ∧ 0 < k
    · rw [if_pos hc]
      by_cases h3 : alike d q p < 3
      · rw [if_pos h3]
        have : ¬ same3 d q p := fun e => by have := (alike_three h).2 e; omega
        simp only [prevF]
        rw [if_neg this]
        exact chain_best h q k b s (by omega)
      · rw [if_neg h3]
        have hs : same3 d q p := (alike_three h).1 (by omega)
        obtain ⟨k, rfl⟩ : ∃ k', k = k' + 1 := ⟨k - 1, by omega⟩
        simp only [prevF]
        rw [if_pos hs]
        simp only [chainF, Int.toNat_natCast, Nat.add_sub_cancel]
        rw [if_neg (by omega)]
        have e : prev d q = prevF d p q := prevF_same hs q
        rw [e]
        split
        · rw [chain_best h q k _ _ (by omega)]
          congr 1
          omega
        · rw [chain_best h q k _ _ (by omega)]
    · rw [if_neg hc]
      cases k with
      | zero => rfl
      | succ k =>
        simp only [chainF]
        rw [if_pos]
        have := prevF_lt d p (q + 1)
        have : ¬ p - q ≤ w := fun e => hc ⟨e, by omega⟩
        omega
theorem best_chain {d : List Int} {p w ch : Nat} (h : p + 3 ≤ d.length) : best d p w ch = chainF d p w ch (prev d p) 0 0 := (chain_best h p ch 0 0 (Nat.le_refl _)).symm
theorem best_short {d : List Int} {p w ch : Nat} (h : d.length < p + 3) (hp : p ≤ d.length) : best d p w ch = (0, 0) := bestF_short h hp p ch 0 0
structure Tok where
  lit : Int
  len : Int
  dist : Int
def right (t : Tok) : Bool := if t.len = 0 then decide (t.dist = 0) else decide (3 ≤ t.len ∧ t.len ≤ 258 ∧ 1 ≤ t.dist ∧ t.dist ≤ 32768 ∧ t.lit = 0)
def width (t : Tok) : Nat := if right t then (if t.len = 0 then 1 else t.len.toNat) else 0
theorem right_len {t : Tok} (h : right t = true) : t.len = 0 ∧ t.dist = 0 ∨ (3 ≤ t.len ∧ t.len ≤ 258 ∧ 1 ≤ t.dist ∧ t.dist ≤ 32768 ∧ t.lit = 0) := by
  unfold right at h
  by_cases e : t.len = 0
  · rw [if_pos e] at h; exact .inl ⟨e, of_decide_eq_true h⟩
  · rw [if_neg e] at h; exact .inr (of_decide_eq_true h)
theorem width_le (t : Tok) : width t ≤ 258 := by
  unfold width
  by_cases h : right t = true
  · rw [if_pos h]
    have := right_len h
    split <;> omega
  · rw [if_neg h]; omega
def sizeOf (l : List Tok) : Nat := (l.map width).sum
theorem sizeOf_le (l : List Tok) : sizeOf l ≤ 258 * l.length := by
  induction l with
  | nil => simp [sizeOf]
  | cons t l ih => have := width_le t; simp only [sizeOf, List.map_cons, List.sum_cons, List.length_cons] at ih ⊢; omega
def checkF (w : Int) : List Tok → Nat → Nat → Nat × Int
  | [], _, _ => (0, 0)
  | t :: l, i, n => if right t = false then (i, 70) else if w < t.dist ∨ (n : Int) < t.dist then (i, 71) else checkF w l (i + 1) (n + width t)
def check (w : Int) (l : List Tok) : Nat × Int := if w < 1 ∨ 32768 < w then (0, 1) else checkF w l 0 0
def copyF (dist : Nat) : Nat → List Int → List Int
  | 0, b => b
  | k + 1, b => copyF dist k (b ++ [at0 b (b.length - dist)])
def tokF (t : Tok) (b : List Int) : List Int := copyF t.dist.toNat t.len.toNat (if t.len = 0 then b ++ [t.lit] else b)
def expF : List Tok → List Int → List Int
  | [], b => b
  | t :: l, b => expF l (tokF t b)
def expand (w : Int) (l : List Tok) : List Int := if (check w l).2 = 0 then expF l [] else []
structure Opt where
  window : Int
  chain : Int
  isLazy : Bool
def optErr (k : Opt) : Int := if k.window < 1 ∨ 32768 < k.window ∨ k.chain < 0 ∨ 4096 < k.chain then 72 else 0
def taken (d : List Int) (k : Opt) (p : Nat) : Nat :=
  if 0 < (best d p k.window.toNat k.chain.toNat).1 ∧ k.isLazy = true ∧ p + 1 < d.length ∧ (best d p k.window.toNat k.chain.toNat).1 < (best d (p + 1) k.window.toNat k.chain.toNat).1 then 0 else (best d p k.window.toNat k.chain.toNat).1
def tokAt (d : List Int) (k : Opt) (p : Nat) : Tok := if taken d k p = 0 then ⟨at0 d p, 0, 0⟩ else ⟨0, taken d k p, (best d p k.window.toNat k.chain.toNat).2⟩
def stepAt (d : List Int) (k : Opt) (p : Nat) : Nat := if taken d k p = 0 then 1 else taken d k p
def parseF (d : List Int) (k : Opt) : Nat → Nat → List Tok
  | 0, _ => []
  | f + 1, p => if p < d.length then tokAt d k p :: parseF d k f (p + stepAt d k p) else []
theorem stepAt_pos (d : List Int) (k : Opt) (p : Nat) : 1 ≤ stepAt d k p := by unfold stepAt; split <;> omega
def parse (d : List Int) (k : Opt) : List Tok := if optErr k = 0 then parseF d k d.length 0 else []
theorem parseF_enough {d : List Int} {k : Opt} : ∀ {f g p : Nat}, d.length ≤ f + p → d.length ≤ g + p → parseF d k f p = parseF d k g p
  | 0, g, p, hf, hg => by cases g <;> simp [parseF]; omega
  | f + 1, 0, p, hf, hg => by simp [parseF]; omega
  | f + 1, g + 1, p, hf, hg => by
    simp only [parseF]
    split
    · have := stepAt_pos d k p
      rw [parseF_enough (f := f) (g := g) (by omega) (by omega)]
    · rfl
theorem parseF_step {d : List Int} {k : Opt} {f p : Nat} (h : p < d.length) (hf : d.length ≤ f + p) : parseF d k f p = tokAt d k p :: parseF d k f (p + stepAt d k p) := by
  have := stepAt_pos d k p
  rw [parseF_enough (f := f) (g := f + 1) hf (by omega)]
  simp only [parseF]
  rw [if_pos h]
theorem parseF_end {d : List Int} {k : Opt} {f p : Nat} (h : d.length ≤ p) : parseF d k f p = [] := by
  cases f with
  | zero => rfl
  | succ f => simp only [parseF]; rw [if_neg (by omega)]
end Go.Proofs.YtkdgfioigkijgaaGreat.Lz
set_option maxRecDepth 100000
set_option linter.unusedVariables false
set_option linter.unusedSimpArgs false
namespace Go.Proofs.YtkdgfioigkijgaaGreat.Code
def nextF (F : Nat → Nat) (k V h : Nat) : Nat → Nat → Nat → Nat × Nat × Nat
  | 0, _, _ => (2, 0, 0)
  | f + 1, l, c => if h < l then (0, 0, 0) else
      if c + V / 2 ^ (l - 1) % 2 < firstF F l + F l then (1, usedF F l + (c + V / 2 ^ (l - 1) % 2 - firstF F l), l)
      else if usedF F l + F l = k then (2, 0, 0) else nextF F k V h f (l + 1) (2 * (c + V / 2 ^ (l - 1) % 2))
def next (F : Nat → Nat) (k V h : Nat) : Nat × Nat × Nat := if k = 0 then (2, 0, 0) else nextF F k V h 15 1 0
end Go.Proofs.YtkdgfioigkijgaaGreat.Code
set_option maxRecDepth 100000
set_option linter.unusedVariables false
set_option linter.unusedSimpArgs false
namespace Go.Proofs.YtkdgfioigkijgaaGreat.Code
def spaceR (lens : List Int) : Nat := (lens.map fun x => if 0 < x then 2 ^ (15 - x.toNat) else 0).sum
theorem spaceF_cons (x : Int) (xs : List Int) : ∀ n, spaceF (cz (x :: xs)) n = spaceF (cz xs) n + (if 1 ≤ x ∧ x ≤ (n : Int) then 2 ^ (15 - x.toNat) else 0)
  | 0 => by simp only [spaceF]; rw [if_neg (by omega)]
  | n + 1 => by
    simp only [spaceF]
    rw [spaceF_cons x xs n]
    have e : cz (x :: xs) (n + 1) = cz xs (n + 1) + (if x = ((n + 1 : Nat) : Int) then 1 else 0) := by
      unfold cz cnt
      rw [if_neg (by omega), if_neg (by omega), List.countP_cons]
      simp
    rw [e, Nat.add_mul]
    by_cases h : x = ((n + 1 : Nat) : Int)
    · subst h
      rw [if_pos rfl, if_neg (by omega), if_pos (by omega), Int.toNat_natCast]
      omega
    · rw [if_neg h]
      by_cases h2 : 1 ≤ x ∧ x ≤ (n : Int)
      · rw [if_pos h2, if_pos (by omega)]; omega
      · rw [if_neg h2, if_neg (by omega)]; omega
theorem spaceR_eq : ∀ (lens : List Int), (∀ x ∈ lens, 0 ≤ x ∧ x ≤ 15) → spaceR lens = space lens
  | [], _ => by decide
  | x :: xs, h => by
    have hx := h x (List.mem_cons_self ..)
    have ih := spaceR_eq xs (fun y hy => h y (List.mem_cons_of_mem _ hy))
    unfold space at ih ⊢
    rw [spaceF_cons, ← ih]
    simp only [spaceR, List.map_cons, List.sum_cons]
    by_cases h1 : 0 < x
    · rw [if_pos h1, if_pos (by omega)]; omega
    · rw [if_neg h1, if_neg (by omega)]; omega
theorem spaceR_take {lens : List Int} {j : Nat} (h : j < lens.length) : spaceR (lens.take (j + 1)) = spaceR (lens.take j) + (if 0 < lens[j] then 2 ^ (15 - lens[j].toNat) else 0) := by
  have app : ∀ a b : List Int, spaceR (a ++ b) = spaceR a + spaceR b := by
    intro a b
    induction a with
    | nil => simp [spaceR]
    | cons x a ih => simp only [spaceR, List.cons_append, List.map_cons, List.sum_cons] at ih ⊢; omega
  rw [List.take_succ_eq_append_getElem h, app]
  simp [spaceR]
theorem spaceR_le : ∀ (lens : List Int), spaceR lens ≤ lens.length * 16384
  | [] => by simp [spaceR]
  | x :: xs => by
    have ih := spaceR_le xs
    simp only [spaceR, List.map_cons, List.sum_cons, List.length_cons] at ih ⊢
    have : (if 0 < x then 2 ^ (15 - x.toNat) else 0) ≤ 16384 := by
      split
      · have : 2 ^ (15 - x.toNat) ≤ 2 ^ 14 := Nat.pow_le_pow_right (by omega) (by omega)
        simpa using this
      · omega
    omega
def usedR (lens : List Int) : Nat := lens.countP (fun x => decide (0 < x))
theorem usedF_cons (x : Int) (xs : List Int) : ∀ n, usedF (cz (x :: xs)) n = usedF (cz xs) n + (if 0 < x ∧ x < (n : Int) then 1 else 0)
  | 0 => by simp only [usedF]; rw [if_neg (by omega)]
  | n + 1 => by
    simp only [usedF]
    rw [usedF_cons x xs n]
    have e : cz (x :: xs) n = cz xs n + (if 0 < x ∧ x = (n : Int) then 1 else 0) := by
      unfold cz cnt
      by_cases hn : n = 0
      · subst hn; rw [if_pos rfl, if_pos rfl, if_neg (by omega)]
      · rw [if_neg hn, if_neg hn, List.countP_cons]
        by_cases h : x = (n : Int)
        · rw [if_pos (by simpa using h), if_pos (by omega)]
        · rw [if_neg (by simpa using h), if_neg (by omega)]
    rw [e]
    by_cases h : x = (n : Int)
    · by_cases h0 : 0 < x
      · rw [if_neg (by omega), if_pos (by omega), if_pos (by omega)]; omega
      · rw [if_neg (by omega), if_neg (by omega), if_neg (by omega)]; omega
    · by_cases h2 : 0 < x ∧ x < (n : Int)
      · rw [if_pos h2, if_neg (by omega), if_pos (by omega)]; omega
      · rw [if_neg h2, if_neg (by omega), if_neg (by omega)]; omega
theorem usedR_eq : ∀ (lens : List Int), (∀ x ∈ lens, 0 ≤ x ∧ x ≤ 15) → usedR lens = used lens
  | [], _ => by decide
  | x :: xs, h => by
    have hx := h x (List.mem_cons_self ..)
    have ih := usedR_eq xs (fun y hy => h y (List.mem_cons_of_mem _ hy))
    unfold used at ih ⊢
    rw [usedF_cons, ← ih]
    unfold usedR
    rw [List.countP_cons]
    by_cases h1 : 0 < x
    · rw [if_pos (by simpa using h1), if_pos (by omega)]
    · rw [if_neg (by simpa using h1), if_neg (by omega)]
theorem usedR_take {lens : List Int} {j : Nat} (h : j < lens.length) : usedR (lens.take (j + 1)) = usedR (lens.take j) + (if 0 < lens[j] then 1 else 0) := by
  rw [List.take_succ_eq_append_getElem h]
  unfold usedR
  rw [List.countP_append, List.countP_cons, List.countP_nil]
  simp
theorem spaceF_none {f : Nat → Nat} : ∀ n, n ≤ 15 → usedF f (n + 1) = 0 → spaceF f n = 0
  | 0, _, _ => rfl
  | n + 1, hn, h => by
    have h1 : usedF f (n + 1) + f (n + 1) = 0 := h
    simp only [spaceF]
    rw [spaceF_none n (by omega) (by omega)]
    rw [show f (n + 1) = 0 from by omega]
    simp
theorem one_space {f : Nat → Nat} (h0 : f 0 = 0) : ∀ n, n ≤ 15 → usedF f (n + 1) = 1 → ∃ v, 1 ≤ v ∧ v ≤ n ∧ f v = 1 ∧ spaceF f n = 2 ^ (15 - v) ∧ ∀ l, l ≤ n → l ≠ v → f l = 0
  | 0, _, h => by simp only [usedF] at h; omega
  | n + 1, hn, h => by
    have h1 : usedF f (n + 1) + f (n + 1) = 1 := h
    by_cases hf : f (n + 1) = 0
    · obtain ⟨v, v1, v2, v3, v4, v5⟩ := one_space h0 n (by omega) (by omega)
      refine ⟨v, v1, by omega, v3, ?_, fun l hl hlv => ?_⟩
      · simp only [spaceF]; rw [hf, v4]; simp
      · by_cases e : l = n + 1
        · subst e; exact hf
        · exact v5 l (by omega) hlv
    · have hz : usedF f (n + 1) = 0 := by omega
      refine ⟨n + 1, by omega, Nat.le_refl _, by omega, ?_, fun l hl hlv => ?_⟩
      · simp only [spaceF]
        rw [spaceF_none n (by omega) hz, show f (n + 1) = 1 from by omega]
        simp
      · have hm : ∀ m, usedF f m = 0 → ∀ l, l < m → f l = 0 := by
          intro m
          induction m with
          | zero => intro _ l hl; omega
          | succ m ih =>
            intro hm l hl
            simp only [usedF] at hm
            by_cases e : l = m
            · subst e; omega
            · exact ih (by omega) l (by omega)
        exact hm (n + 1) hz l (by omega)
def checkR (lens : List Int) : Int :=
  if bad lens = true then 50 else if 32768 < spaceR lens then 51 else if spaceR lens = 32768 ∨ usedR lens = 0 ∨ (usedR lens = 1 ∧ spaceR lens = 16384) then 0 else 52
theorem checkR_eq (lens : List Int) : checkR lens = check lens := by
  unfold checkR check
  by_cases hb : bad lens = true
  · rw [if_pos hb, if_pos hb]
  · rw [if_neg hb, if_neg hb]
    have hall := (bad_false (by simpa using hb)).2
    rw [spaceR_eq lens hall, usedR_eq lens hall]
    by_cases h1 : used lens = 1
    · obtain ⟨v, v1, v2, v3, v4, v5⟩ := one_space (f := cz lens) (by simp [cz]) 15 (Nat.le_refl _) h1
      have e : space lens = 16384 ↔ cz lens 1 = 1 := by
        unfold space
        rw [v4]
        by_cases hv : v = 1
        · subst hv; simp [v3]
        · have h2 := v5 1 (by omega) (fun e => hv e.symm)
          rw [h2]
          have : 2 ^ (15 - v) ≤ 2 ^ 13 := Nat.pow_le_pow_right (by omega) (by omega)
          omega
      simp only [e]
    · simp only [h1, false_and]
def InvC (lens : List Int) (n i nx last : Nat) : Prop := (last = 0 ∧ nx = 0 ∧ firstF (cz lens) n + cnt (lens.take i) n = 0) ∨ (0 < last ∧ last ≤ n ∧ (nx + 1) * 2 ^ (n - last) = firstF (cz lens) n + cnt (lens.take i) n)
theorem inv_skip {lens : List Int} {n i nx last : Nat} (hi : i < lens.length) (h : lens[i] ≠ (n : Int)) (hI : InvC lens n i nx last) : InvC lens n (i + 1) nx last := by
  have e : cnt (lens.take (i + 1)) n = cnt (lens.take i) n := by
    unfold cnt
    rw [List.take_succ_eq_append_getElem hi, List.countP_append, List.countP_cons, List.countP_nil, if_neg (by simpa using h)]
    omega
  unfold InvC
  rw [e]
  exact hI
theorem inv_row {lens : List Int} {n nx last : Nat} (hn : 1 ≤ n) (hI : InvC lens n lens.length nx last) : InvC lens (n + 1) 0 nx last := by
  unfold InvC at hI ⊢
  rw [List.take_length] at hI
  have e : firstF (cz lens) (n + 1) = (firstF (cz lens) n + cnt lens n) * 2 := by
    have : cz lens n = cnt lens n := by unfold cz; rw [if_neg (by omega)]
    simp only [firstF]
    rw [this]
  have e0 : cnt (lens.take 0) (n + 1) = 0 := by simp [cnt]
  rw [e, e0]
  rcases hI with ⟨h1, h2, h3⟩ | ⟨h1, h2, h3⟩
  · exact .inl ⟨h1, h2, by omega⟩
  · refine .inr ⟨h1, by omega, ?_⟩
    rw [show n + 1 - last = (n - last) + 1 from by omega, Nat.pow_succ, ← Nat.mul_assoc, h3]
    omega
theorem inv_put {lens : List Int} {n i nx last : Nat} (hn : 1 ≤ n) (hi : i < lens.length) (h : lens[i] = (n : Int)) (hI : InvC lens n i nx last) :
    (if 0 < last then (nx + 1) * 2 ^ (n - last) else nx) = firstF (cz lens) n + cnt (lens.take i) n ∧ InvC lens n (i + 1) (firstF (cz lens) n + cnt (lens.take i) n) n := by
  refine ⟨?_, .inr ⟨by omega, Nat.le_refl _, ?_⟩⟩
  · rcases hI with ⟨h1, h2, h3⟩ | ⟨h1, h2, h3⟩
    · rw [if_neg (by omega), h2, h3]
    · rw [if_pos h1, h3]
  · rw [Nat.sub_self, Nat.pow_zero, Nat.mul_one, cnt_take hi h]
    unfold upd
    rw [if_pos rfl]
    omega
def outAt (lens : List Int) (n i s : Nat) : Nat := if 0 < lens.getD s 0 ∧ (lens.getD s 0 < (n : Int) ∨ (lens.getD s 0 = (n : Int) ∧ s < i)) then firstF (cz lens) (lens.getD s 0).toNat + cnt (lens.take s) (lens.getD s 0).toNat else 0
def outL (lens : List Int) (n i : Nat) : List Nat := (List.range lens.length).map (outAt lens n i)
theorem outL_len (lens : List Int) (n i : Nat) : (outL lens n i).length = lens.length := by simp [outL]
theorem outL_get (lens : List Int) (n i : Nat) {j : Nat} (h : j < lens.length) : (outL lens n i)[j]? = some (outAt lens n i j) := by
  unfold outL
  rw [List.getElem?_map, List.getElem?_range h]
  rfl
theorem outL_congr {lens : List Int} {L : List Nat} {n i : Nat} (hl : L.length = lens.length) (h : ∀ j, j < lens.length → L[j]? = some (outAt lens n i j)) : L = outL lens n i := by
  apply List.ext_getElem?
  intro j
  by_cases hj : j < lens.length
  · rw [h j hj, outL_get lens n i hj]
  · rw [List.getElem?_eq_none (by omega), List.getElem?_eq_none (by rw [outL_len]; omega)]
theorem outL_start (lens : List Int) : List.replicate lens.length 0 = outL lens 1 0 := by
  refine outL_congr (by simp) fun j hj => ?_
  rw [List.getElem?_replicate, if_pos hj]
  unfold outAt
  rw [if_neg (by omega)]
theorem getD_at {lens : List Int} {j : Nat} (h : j < lens.length) : lens.getD j 0 = lens[j] := by rw [List.getD_eq_getElem?_getD, List.getElem?_eq_getElem h]; rfl
theorem outL_skip {lens : List Int} {n i : Nat} (hi : i < lens.length) (h : lens[i] ≠ (n : Int)) : outL lens n i = outL lens n (i + 1) := by
  refine outL_congr (outL_len _ _ _) fun j hj => ?_
  rw [outL_get lens n i hj]
  unfold outAt
  rw [getD_at hj]
  by_cases e : j = i
  · subst e
    by_cases h2 : 0 < lens[j] ∧ lens[j] < (n : Int)
    · rw [if_pos ⟨h2.1, .inl h2.2⟩, if_pos ⟨h2.1, .inl h2.2⟩]
    · rw [if_neg (by omega), if_neg (by omega)]
  · by_cases h2 : 0 < lens[j] ∧ (lens[j] < (n : Int) ∨ (lens[j] = (n : Int) ∧ j < i))
    · rw [if_pos h2, if_pos (by omega)]
    · rw [if_neg h2, if_neg (by omega)]
theorem outL_row (lens : List Int) (n : Nat) : outL lens n lens.length = outL lens (n + 1) 0 := by
  refine outL_congr (outL_len _ _ _) fun j hj => ?_
  rw [outL_get lens n _ hj]
  unfold outAt
  by_cases h2 : 0 < lens.getD j 0 ∧ (lens.getD j 0 < (n : Int) ∨ (lens.getD j 0 = (n : Int) ∧ j < lens.length))
  · rw [if_pos h2, if_pos (by omega)]
  · rw [if_neg h2, if_neg (by omega)]
theorem outL_put {lens : List Int} {n i : Nat} (hn : 1 ≤ n) (hi : i < lens.length) (h : lens[i] = (n : Int)) : (outL lens n i).set i (firstF (cz lens) n + cnt (lens.take i) n) = outL lens n (i + 1) := by
  refine outL_congr (by rw [List.length_set, outL_len]) fun j hj => ?_
  by_cases e : j = i
  · subst e
    rw [List.getElem?_set_self (by rw [outL_len]; exact hj)]
    unfold outAt
    rw [getD_at hj, h, if_pos (by omega), Int.toNat_natCast]
  · rw [List.getElem?_set_ne (fun e2 => e e2.symm), outL_get lens n i hj]
    unfold outAt
    by_cases h2 : 0 < lens.getD j 0 ∧ (lens.getD j 0 < (n : Int) ∨ (lens.getD j 0 = (n : Int) ∧ j < i))
    · rw [if_pos h2, if_pos (by omega)]
    · rw [if_neg h2, if_neg (by omega)]
theorem outL_end {lens : List Int} (hc : check lens = 0) : outL lens 16 0 = codes lens := by
  symm
  refine outL_congr (codes_len hc) fun j hj => ?_
  have hall := (bad_false (check_zero hc).1).2 lens[j] (List.getElem_mem hj)
  unfold codes outAt
  rw [if_pos hc, getD_at hj]
  by_cases h0 : 0 < lens[j]
  · rw [codesF_get lens _ j hj h0, if_pos (by omega)]
  · rw [codesF_zero lens _ j hj h0, if_neg (by omega)]
end Go.Proofs.YtkdgfioigkijgaaGreat.Code
set_option linter.unusedVariables false
set_option linter.unusedSimpArgs false
namespace Go.Proofs.YtkdgfioigkijgaaGreat.Sorts
section
variable {α : Type}
def lst (n : Nat) (d : Nat → α) : List α := (List.range n).map d
theorem lst_len (n : Nat) (d : Nat → α) : (lst n d).length = n := by simp [lst]
theorem lst_get {n : Nat} {d : Nat → α} {i : Nat} (h : i < n) : (lst n d)[i]? = some (d i) := by simp [lst, h]
def sw (d : Nat → α) (i j : Nat) : Nat → α := fun k => if k = i then d j else if k = j then d i else d k
theorem sw_perm {n : Nat} {d : Nat → α} {i j : Nat} (hi : i < n) (hj : j < n) : (lst n (sw d i j)).Perm (lst n d) := by
  have h := List.set_set_perm (as := lst n d) (i := i) (j := j) (by rw [lst_len]; exact hi) (by rw [lst_len]; exact hj)
  have gi : (lst n d)[i]'(by rw [lst_len]; exact hi) = d i := by simp [lst]
  have gj : (lst n d)[j]'(by rw [lst_len]; exact hj) = d j := by simp [lst]
  rw [gi, gj] at h
  have e : ((lst n d).set i (d j)).set j (d i) = lst n (sw d i j) := by
    apply List.ext_getElem?
    intro k
    by_cases hk : k < n
    · rw [lst_get hk, List.getElem?_set, List.getElem?_set, List.length_set, lst_len]
      unfold sw
      by_cases e1 : j = k
      · rw [if_pos e1, if_pos (by omega)]
        by_cases e2 : k = i
        · rw [if_pos e2]; congr 1; rw [e1, e2]
        · rw [if_neg e2, if_pos e1.symm]
      · rw [if_neg e1]
        by_cases e2 : i = k
        · rw [if_pos e2, if_pos (by omega), if_pos e2.symm]
        · rw [if_neg e2, if_neg (fun e => e2 e.symm), if_neg (fun e => e1 e.symm), lst_get hk]
    · rw [List.getElem?_eq_none (by simp [lst_len]; omega), List.getElem?_eq_none (by rw [lst_len]; omega)]
  rw [e] at h
  exact h
structure Ch (n a b : Nat) (d d' : Nat → α) : Prop where
  out : ∀ k, ¬ (a ≤ k ∧ k < b) → d' k = d k
  inn : ∀ k, a ≤ k → k < b → ∃ j, a ≤ j ∧ j < b ∧ d' k = d j
  pm : (lst n d').Perm (lst n d)
theorem Ch.refl (n a b : Nat) (d : Nat → α) : Ch n a b d d := ⟨fun _ _ => rfl, fun k h1 h2 => ⟨k, h1, h2, rfl⟩, List.Perm.refl _⟩
theorem Ch.trans {n a b : Nat} {d e f : Nat → α} (h : Ch n a b d e) (k : Ch n a b e f) : Ch n a b d f :=
  ⟨fun x hx => (k.out x hx).trans (h.out x hx), fun x h1 h2 => by
    obtain ⟨j, j1, j2, e1⟩ := k.inn x h1 h2
    obtain ⟨i, i1, i2, e2⟩ := h.inn j j1 j2
    exact ⟨i, i1, i2, e1.trans e2⟩, k.pm.trans h.pm⟩
theorem Ch.wide {n a b a' b' : Nat} {d e : Nat → α} (h : Ch n a b d e) (ha : a' ≤ a) (hb : b ≤ b') : Ch n a' b' d e :=
  ⟨fun x hx => h.out x (by omega), fun x h1 h2 => by
    by_cases hx : a ≤ x ∧ x < b
    · obtain ⟨j, j1, j2, e⟩ := h.inn x hx.1 hx.2
      exact ⟨j, by omega, by omega, e⟩
    · exact ⟨x, h1, h2, h.out x hx⟩, h.pm⟩
theorem Ch.sw {n a b i j : Nat} (d : Nat → α) (hb : b ≤ n) (hi : a ≤ i ∧ i < b) (hj : a ≤ j ∧ j < b) : Ch n a b d (sw d i j) :=
  ⟨fun k hk => by unfold Sorts.sw; rw [if_neg (by omega), if_neg (by omega)], fun k h1 h2 => by
    unfold Sorts.sw
    by_cases e1 : k = i
    · rw [if_pos e1]; exact ⟨j, hj.1, hj.2, rfl⟩
    · rw [if_neg e1]
      by_cases e2 : k = j
      · rw [if_pos e2]; exact ⟨i, hi.1, hi.2, rfl⟩
      · rw [if_neg e2]; exact ⟨k, h1, h2, rfl⟩, sw_perm (by omega) (by omega)⟩
def swr (d : Nat → α) (a b n : Nat) : Nat → α := fun x => if a ≤ x ∧ x < a + n then d (b + (x - a)) else if b ≤ x ∧ x < b + n then d (a + (x - b)) else d x
theorem swr_zero (d : Nat → α) (a b : Nat) : swr d a b 0 = d := by
  funext x; unfold swr; rw [if_neg (by omega), if_neg (by omega)]
theorem swr_step (d : Nat → α) {a b i : Nat} (h : a + i < b) : sw (swr d a b i) (a + i) (b + i) = swr d a b (i + 1) := by
  funext x
  unfold sw swr
  by_cases e1 : x = a + i
  · rw [if_pos e1, if_neg (by omega), if_neg (by omega), if_pos (by omega)]
    congr 1; omega
  · rw [if_neg e1]
    by_cases e2 : x = b + i
    · rw [if_pos e2, if_neg (by omega), if_neg (by omega), if_neg (by omega), if_pos (by omega)]
      congr 1; omega
    · rw [if_neg e2]
      by_cases e3 : a ≤ x ∧ x < a + i
      · rw [if_pos e3, if_pos (by omega)]
      · rw [if_neg e3, if_neg (show ¬ (a ≤ x ∧ x < a + (i + 1)) from by omega)]
        by_cases e4 : b ≤ x ∧ x < b + i
        · rw [if_pos e4, if_pos (by omega)]
        · rw [if_neg e4, if_neg (by omega)]
theorem Ch.swr {n lo hi a b : Nat} (d : Nat → α) : ∀ c, lo ≤ a → a + c ≤ b → b + c ≤ hi → hi ≤ n → Ch n lo hi d (swr d a b c)
  | 0, _, _, _, _ => by rw [swr_zero]; exact Ch.refl _ _ _ _
  | c + 1, h1, h2, h3, h4 => by
    rw [← swr_step d (by omega)]
    exact (Ch.swr d c h1 (by omega) (by omega) h4).trans (Ch.sw _ h4 ⟨by omega, by omega⟩ ⟨by omega, by omega⟩)
def rot (d : Nat → α) (a m b : Nat) : Nat → α := fun x => if a ≤ x ∧ x < a + (b - m) then d (m + (x - a)) else if a + (b - m) ≤ x ∧ x < b then d (x - (b - m)) else d x
structure Rot (n a m b i j : Nat) (d0 d : Nat → α) : Prop where
  ch : Ch n a b d0 d
  bd : 0 < i ∧ 0 < j ∧ i ≤ m - a ∧ j ≤ b - m
  out : ∀ k, ¬ (m - i ≤ k ∧ k < m + j) → d k = rot d0 a m b k
  lo : ∀ k, k < j → rot d0 a m b (m - i + k) = d (m + k)
  hi : ∀ k, k < i → rot d0 a m b (m - i + j + k) = d (m - i + k)
theorem Rot.start {n a m b : Nat} (d : Nat → α) (h1 : a < m) (h2 : m < b) : Rot n a m b (m - a) (b - m) d d :=
  ⟨Ch.refl _ _ _ _, by omega, fun k hk => by unfold rot; rw [if_neg (by omega), if_neg (by omega)],
    fun k hk => by unfold rot; rw [if_pos (by omega)]; congr 1; omega,
    fun k hk => by unfold rot; rw [if_neg (by omega), if_pos (by omega)]; congr 1; omega⟩
theorem Rot.left {n a m b i j : Nat} {d0 d : Nat → α} (h : Rot n a m b i j d0 d) (hij : j < i) (hm : a < m) (hb : m < b) (hn : b ≤ n) : Rot n a m b (i - j) j d0 (swr d (m - i) m j) := by
  obtain ⟨ch, bd, out, lo, hi⟩ := h
  refine ⟨ch.trans (Ch.swr d j (by omega) (by omega) (by omega) hn), by omega, fun k hk => ?_, fun k hk => ?_, fun k hk => ?_⟩
  · unfold swr
    by_cases e : m - i ≤ k ∧ k < m - i + j
    · rw [if_pos e]
      have := lo (k - (m - i)) (by omega)
      rw [show m - i + (k - (m - i)) = k from by omega] at this
      exact this.symm
    · rw [if_neg e, if_neg (by omega)]
      exact out k (by omega)
  · unfold swr
    rw [if_neg (by omega), if_pos (by omega)]
    have := hi k (by omega)
    rw [show m - (i - j) + k = m - i + j + k from by omega, this]
    congr 1; omega
  · unfold swr
    rw [if_neg (by omega), if_neg (by omega)]
    have := hi (j + k) (by omega)
    rw [show m - (i - j) + j + k = m - i + j + (j + k) from by omega, this]
    congr 1; omega
theorem Rot.right {n a m b i j : Nat} {d0 d : Nat → α} (h : Rot n a m b i j d0 d) (hij : i < j) (hm : a < m) (hb : m < b) (hn : b ≤ n) : Rot n a m b i (j - i) d0 (swr d (m - i) (m + j - i) i) := by
  obtain ⟨ch, bd, out, lo, hi⟩ := h
  refine ⟨ch.trans (Ch.swr d i (by omega) (by omega) (by omega) hn), by omega, fun k hk => ?_, fun k hk => ?_, fun k hk => ?_⟩
  · unfold swr
    by_cases e : m + j - i ≤ k ∧ k < m + j - i + i
    · rw [if_neg (by omega), if_pos e]
      have := hi (k - (m + j - i)) (by omega)
      rw [show m - i + j + (k - (m + j - i)) = k from by omega] at this
      exact this.symm
    · rw [if_neg (by omega), if_neg e]
      exact out k (by omega)
  · unfold swr
    rw [if_neg (by omega), if_neg (by omega)]
    exact lo k (by omega)
  · unfold swr
    rw [if_pos (by omega)]
    have := lo (j - i + k) (by omega)
    rw [show m - i + (j - i) + k = m - i + (j - i + k) from by omega, this]
    congr 1; omega
theorem Rot.last {n a m b i : Nat} {d0 d : Nat → α} (h : Rot n a m b i i d0 d) (hm : a < m) (hb : m < b) (hn : b ≤ n) : swr d (m - i) m i = rot d0 a m b ∧ Ch n a b d0 (swr d (m - i) m i) := by
  obtain ⟨ch, bd, out, lo, hi⟩ := h
  refine ⟨?_, ch.trans (Ch.swr d i (by omega) (by omega) (by omega) hn)⟩
  funext k
  unfold swr
  by_cases e : m - i ≤ k ∧ k < m - i + i
  · rw [if_pos e]
    have := lo (k - (m - i)) (by omega)
    rw [show m - i + (k - (m - i)) = k from by omega] at this
    exact this.symm
  · rw [if_neg e]
    by_cases e2 : m ≤ k ∧ k < m + i
    · rw [if_pos e2]
      have := hi (k - m) (by omega)
      rw [show m - i + i + (k - m) = k from by omega] at this
      exact this.symm
    · rw [if_neg e2]
      exact out k (by omega)
variable (key : α → Int) (rk : α → Nat)
def lx (x y : α) : Prop := key x < key y ∨ (key x = key y ∧ rk x < rk y)
variable {key rk}
theorem lx_trans {x y z : α} (h : lx key rk x y) (k : lx key rk y z) : lx key rk x z := by
  unfold lx at *; omega
variable (key rk)
def Srt (d : Nat → α) (a b : Nat) : Prop := ∀ i j, a ≤ i → i < j → j < b → lx key rk (d i) (d j)
structure Ins (n a i j : Nat) (d0 d : Nat → α) : Prop where
  ch : Ch n a (i + 1) d0 d
  bd : a ≤ j ∧ j ≤ i
  srt : ∀ p q, a ≤ p → p < q → q ≤ i → p ≠ j → q ≠ j → lx key rk (d p) (d q)
  up : ∀ q, j < q → q ≤ i → lx key rk (d j) (d q)
  rks : ∀ p, a ≤ p → p ≤ i → p ≠ j → rk (d p) < rk (d j)
variable {key rk}
theorem Ins.start {n a i : Nat} {d : Nat → α} (h : Srt key rk d a i) (hr : ∀ p, a ≤ p → p < i → rk (d p) < rk (d i)) (hi : a ≤ i) : Ins key rk n a i i d d :=
  ⟨Ch.refl _ _ _ _, by omega, fun p q h1 h2 h3 h4 h5 => h p q h1 h2 (by omega), fun q h1 h2 => by omega, fun p h1 h2 h3 => hr p h1 (by omega)⟩
theorem Ins.step {n a i j : Nat} {d0 d : Nat → α} (h : Ins key rk n a i j d0 d) (hj : a < j) (hn : i < n) (hk : key (d j) < key (d (j - 1))) : Ins key rk n a i (j - 1) d0 (sw d j (j - 1)) := by
  obtain ⟨ch, bd, srt, up, rks⟩ := h
  have sj : sw d j (j - 1) j = d (j - 1) := by unfold sw; rw [if_pos rfl]
  have sp : sw d j (j - 1) (j - 1) = d j := by unfold sw; rw [if_neg (by omega), if_pos rfl]
  have so : ∀ k, k ≠ j → k ≠ j - 1 → sw d j (j - 1) k = d k := fun k h1 h2 => by unfold sw; rw [if_neg h1, if_neg h2]
  refine ⟨ch.trans (Ch.sw d (by omega) ⟨by omega, by omega⟩ ⟨by omega, by omega⟩), by omega, fun p q h1 h2 h3 h4 h5 => ?_, fun q h1 h2 => ?_, fun p h1 h2 h3 => ?_⟩
  · by_cases e1 : p = j
    · rw [e1, sj, so q (by omega) (by omega)]; exact srt _ _ (by omega) (by omega) h3 (by omega) (by omega)
    · by_cases e2 : q = j
      · rw [e2, sj, so p (by omega) (by omega)]; exact srt _ _ h1 (by omega) (by omega) (by omega) (by omega)
      · rw [so p e1 h4, so q e2 h5]; exact srt p q h1 h2 h3 e1 e2
  · rw [sp]
    by_cases e2 : q = j
    · rw [e2, sj]; exact .inl hk
    · rw [so q e2 (by omega)]; exact up q (by omega) h2
  · rw [sp]
    by_cases e2 : p = j
    · rw [e2, sj]; exact rks _ (by omega) (by omega) (by omega)
    · rw [so p e2 h3]; exact rks p h1 h2 e2
theorem Ins.done {n a i j : Nat} {d0 d : Nat → α} (h : Ins key rk n a i j d0 d) (hs : j = a ∨ ¬ key (d j) < key (d (j - 1))) : Srt key rk d a (i + 1) := by
  obtain ⟨ch, bd, srt, up, rks⟩ := h
  intro p q h1 h2 h3
  by_cases e1 : p = j
  · rw [e1]; exact up q (by omega) (by omega)
  · by_cases e2 : q = j
    · rw [e2]
      rcases hs with hs | hs
      · omega
      · have h4 : lx key rk (d (j - 1)) (d j) := by
          have := rks (j - 1) (by omega) (by omega) (by omega)
          unfold lx; omega
        by_cases e3 : p = j - 1
        · rw [e3]; exact h4
        · exact lx_trans (srt p (j - 1) h1 (by omega) (by omega) e1 (by omega)) h4
    · exact srt p q h1 h2 (by omega) e1 e2
end
end Go.Proofs.YtkdgfioigkijgaaGreat.Sorts
