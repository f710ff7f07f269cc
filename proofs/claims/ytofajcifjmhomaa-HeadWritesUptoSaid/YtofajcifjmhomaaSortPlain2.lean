/- Stable sorting, plain: two sorted neighbours merged in place, blocks. Plain Lean, no condition. -/
import Derived.Test.YtofajcifjmhomaaSortPlain
set_option maxRecDepth 100000
set_option linter.unusedVariables false
set_option linter.unusedSimpArgs false
namespace Go.Proofs.Ytofajcifjmhomaa.Sorts

section
variable {α : Type} {key : α → Int} {rk : α → Nat}
theorem Srt.key_le {d : Nat → α} {a b i j : Nat} (h : Srt key rk d a b) (hi : a ≤ i) (hij : i ≤ j) (hj : j < b) : key (d i) ≤ key (d j) := by
  by_cases e : i = j
  · subst e; omega
  · have := h i j hi (by omega) hj
    unfold lx at this; omega
theorem Srt.sub {d : Nat → α} {a b a' b' : Nat} (h : Srt key rk d a b) (ha : a ≤ a') (hb : b' ≤ b) : Srt key rk d a' b' := fun i j h1 h2 h3 => h i j (by omega) h2 (by omega)
theorem Srt.tiny (d : Nat → α) {a b : Nat} (h : b ≤ a + 1) : Srt key rk d a b := fun i j h1 h2 h3 => by omega
/-- those of the first range come first -/
def Lo (rk : α → Nat) (d : Nat → α) (a m b : Nat) : Prop := ∀ p q, a ≤ p → p < m → m ≤ q → q < b → rk (d p) < rk (d q)
/-- the first one moved up to k -/
def shl (d : Nat → α) (a k : Nat) : Nat → α := fun x => if a ≤ x ∧ x < k then d (x + 1) else if x = k then d a else d x
theorem shl_start (d : Nat → α) (a : Nat) : shl d a a = d := by
  funext x; unfold shl; rw [if_neg (by omega)]
  by_cases e : x = a
  · rw [if_pos e, e]
  · rw [if_neg e]
theorem shl_step (d : Nat → α) {a k : Nat} (h : a ≤ k) : sw (shl d a k) k (k + 1) = shl d a (k + 1) := by
  funext x; unfold sw shl
  by_cases e1 : x = k
  · rw [if_pos e1, if_neg (by omega), if_neg (by omega), if_pos (by omega), e1]
  · rw [if_neg e1]
    by_cases e2 : x = k + 1
    · rw [if_pos e2, if_neg (by omega), if_pos rfl, if_neg (by omega), if_pos e2]
    · rw [if_neg e2, if_neg e1]
      by_cases e3 : a ≤ x ∧ x < k
      · rw [if_pos e3, if_pos (by omega)]
      · rw [if_neg e3, if_neg (show ¬ (a ≤ x ∧ x < k + 1) from by omega), if_neg e2]
theorem shl_srt {d : Nat → α} {a b i : Nat} (hs : Srt key rk d (a + 1) b) (hl : Lo rk d a (a + 1) b) (hi : a + 1 ≤ i) (hib : i ≤ b) (h1 : ∀ q, a + 1 ≤ q → q < i → key (d q) < key (d a)) (h2 : ∀ q, i ≤ q → q < b → ¬ key (d q) < key (d a)) : Srt key rk (shl d a (i - 1)) a b := by
  have lo : ∀ x, a ≤ x → x < i - 1 → shl d a (i - 1) x = d (x + 1) := fun x e1 e2 => by unfold shl; rw [if_pos ⟨e1, e2⟩]
  have md : shl d a (i - 1) (i - 1) = d a := by unfold shl; rw [if_neg (by omega), if_pos rfl]
  have up : ∀ x, i ≤ x → shl d a (i - 1) x = d x := fun x e1 => by unfold shl; rw [if_neg (by omega), if_neg (by omega)]
  have ax : ∀ q, i ≤ q → q < b → lx key rk (d a) (d q) := fun q e1 e2 => by
    have := h2 q e1 e2
    have := hl a q (by omega) (by omega) (by omega) e2
    unfold lx; omega
  intro p q e1 e2 e3
  by_cases c1 : p < i - 1
  · rw [lo p e1 c1]
    by_cases c2 : q < i - 1
    · rw [lo q (by omega) c2]; exact hs _ _ (by omega) (by omega) (by omega)
    · by_cases c3 : q = i - 1
      · rw [c3, md]; exact .inl (h1 _ (by omega) (by omega))
      · rw [up q (by omega)]; exact hs _ _ (by omega) (by omega) e3
  · by_cases c2 : p = i - 1
    · rw [c2, md, up q (by omega)]; exact ax q (by omega) e3
    · rw [up p (by omega), up q (by omega)]; exact hs _ _ (by omega) e2 e3
/-- the last one moved down to k -/
def shr (d : Nat → α) (m k : Nat) : Nat → α := fun x => if k < x ∧ x ≤ m then d (x - 1) else if x = k then d m else d x
theorem shr_start (d : Nat → α) (m : Nat) : shr d m m = d := by
  funext x; unfold shr; rw [if_neg (by omega)]
  by_cases e : x = m
  · rw [if_pos e, e]
  · rw [if_neg e]
theorem shr_step (d : Nat → α) {m k : Nat} (h : k ≤ m) (hk : 1 ≤ k) : sw (shr d m k) k (k - 1) = shr d m (k - 1) := by
  funext x; unfold sw shr
  by_cases e1 : x = k
  · rw [if_pos e1, if_neg (by omega), if_neg (by omega), if_pos (by omega), e1]
  · rw [if_neg e1]
    by_cases e2 : x = k - 1
    · rw [if_pos e2, if_neg (by omega), if_pos rfl, if_neg (by omega), if_pos e2]
    · rw [if_neg e2, if_neg e1]
      by_cases e3 : k < x ∧ x ≤ m
      · rw [if_pos e3, if_pos (by omega)]
      · rw [if_neg e3, if_neg (show ¬ (k - 1 < x ∧ x ≤ m) from by omega), if_neg e2]
theorem shr_srt {d : Nat → α} {a m i : Nat} (hs : Srt key rk d a m) (hl : Lo rk d a m (m + 1)) (hi : a ≤ i) (him : i ≤ m) (h1 : ∀ q, a ≤ q → q < i → ¬ key (d m) < key (d q)) (h2 : ∀ q, i ≤ q → q < m → key (d m) < key (d q)) : Srt key rk (shr d m i) a (m + 1) := by
  have lo : ∀ x, x < i → shr d m i x = d x := fun x e1 => by unfold shr; rw [if_neg (by omega), if_neg (by omega)]
  have md : shr d m i i = d m := by unfold shr; rw [if_neg (by omega), if_pos rfl]
  have up : ∀ x, i < x → x ≤ m → shr d m i x = d (x - 1) := fun x e1 e2 => by unfold shr; rw [if_pos ⟨e1, e2⟩]
  have ax : ∀ q, a ≤ q → q < i → lx key rk (d q) (d m) := fun q e1 e2 => by
    have := h1 q e1 e2
    have := hl q m (by omega) (by omega) (by omega) (by omega)
    unfold lx; omega
  intro p q e1 e2 e3
  by_cases c1 : p < i
  · rw [lo p c1]
    by_cases c2 : q < i
    · rw [lo q c2]; exact hs _ _ e1 e2 (by omega)
    · by_cases c3 : q = i
      · rw [c3, md]; exact ax p e1 c1
      · rw [up q (by omega) (by omega)]; exact hs _ _ e1 (by omega) (by omega)
  · by_cases c2 : p = i
    · rw [c2, md, up q (by omega) (by omega)]; exact .inl (h2 _ (by omega) (by omega))
    · rw [up p (by omega) (by omega), up q (by omega) (by omega)]; exact hs _ _ (by omega) (by omega) (by omega)
/-- where the two runs are cut -/
structure Cutp (key : α → Int) (d : Nat → α) (a m b start : Nat) : Prop where
  bd : a ≤ start ∧ start ≤ m ∧ start ≤ (a + b) / 2 + m - m ∧ m ≤ (a + b) / 2 + m - start ∧ (a + b) / 2 + m - start ≤ b
  le : ∀ x y, a ≤ x → x < start → (a + b) / 2 + m - start ≤ y → y < b → key (d x) ≤ key (d y)
  lt : ∀ y x, m ≤ y → y < (a + b) / 2 + m - start → start ≤ x → x < m → key (d y) < key (d x)
/-- the search for it: what is known between lo and hi -/
structure Seek (key : α → Int) (d : Nat → α) (p lo hi s r : Nat) : Prop where
  bd : lo ≤ s ∧ s ≤ r ∧ r ≤ hi
  yes : ∀ c, lo ≤ c → c < s → ¬ key (d (p - c)) < key (d c)
  no : ∀ c, r ≤ c → c < hi → key (d (p - c)) < key (d c)
theorem Seek.start (d : Nat → α) {p lo hi : Nat} (h : lo ≤ hi) : Seek key d p lo hi lo hi := ⟨by omega, fun c h1 h2 => by omega, fun c h1 h2 => by omega⟩
theorem Seek.up {d : Nat → α} {a m b p lo hi s r c : Nat} (h : Seek key d p lo hi s r) (h1 : Srt key rk d a m) (h2 : Srt key rk d m b) (hlo : a ≤ lo) (hhi : hi ≤ m) (hp : ∀ x, lo ≤ x → x < hi → m ≤ p - x ∧ p - x < b) (hc : s ≤ c ∧ c < r) (hk : ¬ key (d (p - c)) < key (d c)) : Seek key d p lo hi (c + 1) r :=
  ⟨by have := h.bd; omega, fun x e1 e2 => by
    have hb := h.bd
    have p1 := hp x e1 (by omega)
    have p2 := hp c (by omega) (by omega)
    have k1 := h1.key_le (i := x) (j := c) (by omega) (by omega) (by omega)
    have k2 := h2.key_le (i := p - c) (j := p - x) p2.1 (by omega) p1.2
    omega, h.no⟩
theorem Seek.down {d : Nat → α} {a m b p lo hi s r c : Nat} (h : Seek key d p lo hi s r) (h1 : Srt key rk d a m) (h2 : Srt key rk d m b) (hlo : a ≤ lo) (hhi : hi ≤ m) (hp : ∀ x, lo ≤ x → x < hi → m ≤ p - x ∧ p - x < b) (hc : s ≤ c ∧ c < r) (hk : key (d (p - c)) < key (d c)) : Seek key d p lo hi s c :=
  ⟨by have := h.bd; omega, h.yes, fun x e1 e2 => by
    have hb := h.bd
    have p1 := hp x (by omega) e2
    have p2 := hp c (by omega) (by omega)
    have k1 := h1.key_le (i := c) (j := x) (by omega) (by omega) (by omega)
    have k2 := h2.key_le (i := p - x) (j := p - c) p1.1 (by omega) p2.2
    omega⟩
/-- where the search begins and ends -/
def lo0 (a m b : Nat) : Nat := if (a + b) / 2 < m then (a + b) / 2 + m - b else a
def hi0 (a m b : Nat) : Nat := if (a + b) / 2 < m then (a + b) / 2 else m
theorem ends0 {a m b : Nat} (h1 : a < m) (h2 : m < b) : a ≤ lo0 a m b ∧ lo0 a m b ≤ hi0 a m b ∧ hi0 a m b ≤ m ∧ ∀ x, lo0 a m b ≤ x → x < hi0 a m b → m ≤ (a + b) / 2 + m - 1 - x ∧ (a + b) / 2 + m - 1 - x < b := by
  unfold lo0 hi0
  by_cases e : (a + b) / 2 < m
  · rw [if_pos e, if_pos e]; exact ⟨by omega, by omega, by omega, fun x e1 e2 => by omega⟩
  · rw [if_neg e, if_neg e]; exact ⟨by omega, by omega, by omega, fun x e1 e2 => by omega⟩
theorem Seek.cut {d : Nat → α} {a m b s : Nat} (h1 : a < m) (h2 : m < b) (hs : Srt key rk d a m) (ht : Srt key rk d m b) (h : Seek key d ((a + b) / 2 + m - 1) (lo0 a m b) (hi0 a m b) s s) : Cutp key d a m b s := by
  have hb := h.bd
  have h3 := ends0 h1 h2
  have el : lo0 a m b = if (a + b) / 2 < m then (a + b) / 2 + m - b else a := rfl
  have eh : hi0 a m b = if (a + b) / 2 < m then (a + b) / 2 else m := rfl
  have hbd : a ≤ s ∧ s ≤ m ∧ s ≤ (a + b) / 2 + m - m ∧ m ≤ (a + b) / 2 + m - s ∧ (a + b) / 2 + m - s ≤ b := by
    by_cases e : (a + b) / 2 < m
    · rw [if_pos e] at el eh; omega
    · rw [if_neg e] at el eh; omega
  refine ⟨hbd, fun x y e1 e2 e3 e4 => ?_, fun y x e1 e2 e3 e4 => ?_⟩
  · by_cases e : s = lo0 a m b
    · by_cases c : (a + b) / 2 < m
      · rw [if_pos c] at el; omega
      · rw [if_neg c] at el; omega
    · have hk := h.yes (s - 1) (by omega) (by omega)
      rw [show (a + b) / 2 + m - 1 - (s - 1) = (a + b) / 2 + m - s from by omega] at hk
      have k1 := hs.key_le (i := x) (j := s - 1) (by omega) (by omega) (by omega)
      have k2 := ht.key_le (i := (a + b) / 2 + m - s) (j := y) (by omega) (by omega) (by omega)
      omega
  · by_cases e : s = hi0 a m b
    · by_cases c : (a + b) / 2 < m
      · rw [if_pos c] at eh; omega
      · rw [if_neg c] at eh; omega
    · have hk := h.no s (by omega) (by omega)
      have k1 := hs.key_le (i := s) (j := x) (by omega) (by omega) (by omega)
      have k2 := ht.key_le (i := y) (j := (a + b) / 2 + m - 1 - s) (by omega) (by omega) (by omega)
      omega
theorem rot_ch {n a m b : Nat} (d : Nat → α) (hab : a ≤ m) (hmb : m ≤ b) (h : a < m → m < b → Ch n a b d (rot d a m b)) : Ch n a b d (rot d a m b) := by
  by_cases e1 : a < m
  · by_cases e2 : m < b
    · exact h e1 e2
    · have : rot d a m b = d := by
        funext x; unfold rot
        rw [if_neg (by omega)]
        by_cases e : a + (b - m) ≤ x ∧ x < b
        · rw [if_pos e]; congr 1; omega
        · rw [if_neg e]
      rw [this]; exact Ch.refl _ _ _ _
  · have : rot d a m b = d := by
      funext x; unfold rot
      by_cases e : a ≤ x ∧ x < a + (b - m)
      · rw [if_pos e]; congr 1; omega
      · rw [if_neg e, if_neg (by omega)]
    rw [this]; exact Ch.refl _ _ _ _
theorem rot_none {a m b : Nat} (d : Nat → α) (hab : a ≤ m) (hmb : m ≤ b) (h : ¬ (a < m ∧ m < b)) : rot d a m b = d := by
  funext x; unfold rot
  by_cases e : a ≤ x ∧ x < a + (b - m)
  · rw [if_pos e]; congr 1; omega
  · rw [if_neg e]
    by_cases e : a + (b - m) ≤ x ∧ x < b
    · rw [if_pos e]; congr 1; omega
    · rw [if_neg e]
/-- behind the cut and the exchange: both halves can be merged by themselves, and all of the left one comes first -/
structure Halves (key : α → Int) (rk : α → Nat) (d1 : Nat → α) (a s mid e b : Nat) : Prop where
  s1 : Srt key rk d1 a s
  s2 : Srt key rk d1 s mid
  s3 : Srt key rk d1 mid e
  s4 : Srt key rk d1 e b
  l1 : Lo rk d1 a s mid
  l2 : Lo rk d1 mid e b
  cross : ∀ x y, a ≤ x → x < mid → mid ≤ y → y < b → lx key rk (d1 x) (d1 y)
theorem Cutp.halves {d : Nat → α} {a m b s : Nat} (h : Cutp key d a m b s) (hs : Srt key rk d a m) (ht : Srt key rk d m b) (hl : Lo rk d a m b) :
    Halves key rk (rot d s m ((a + b) / 2 + m - s)) a s ((a + b) / 2) ((a + b) / 2 + m - s) b := by
  obtain ⟨bd, le, lt⟩ := h
  obtain ⟨e, he⟩ : ∃ e, e = (a + b) / 2 + m - s := ⟨_, rfl⟩
  obtain ⟨mid, hmid⟩ : ∃ mid, mid = (a + b) / 2 := ⟨_, rfl⟩
  rw [← he] at bd le lt ⊢
  rw [← hmid] at bd he ⊢
  have r1 : ∀ x, x < s → rot d s m e x = d x := fun x h => by unfold rot; rw [if_neg (by omega), if_neg (by omega)]
  have r2 : ∀ x, s ≤ x → x < mid → rot d s m e x = d (m + (x - s)) := fun x h1 h2 => by unfold rot; rw [if_pos (by omega)]
  have r3 : ∀ x, mid ≤ x → x < e → rot d s m e x = d (x - (e - m)) := fun x h1 h2 => by unfold rot; rw [if_neg (by omega), if_pos (by omega)]
  have r4 : ∀ x, e ≤ x → rot d s m e x = d x := fun x h => by unfold rot; rw [if_neg (by omega), if_neg (by omega)]
  refine ⟨fun i j a1 a2 a3 => ?_, fun i j a1 a2 a3 => ?_, fun i j a1 a2 a3 => ?_, fun i j a1 a2 a3 => ?_, fun i j a1 a2 a3 a4 => ?_, fun i j a1 a2 a3 a4 => ?_, fun x y a1 a2 a3 a4 => ?_⟩
  · rw [r1 i (by omega), r1 j (by omega)]; exact hs i j a1 a2 (by omega)
  · rw [r2 i (by omega) (by omega), r2 j (by omega) (by omega)]; exact ht _ _ (by omega) (by omega) (by omega)
  · rw [r3 i (by omega) (by omega), r3 j (by omega) (by omega)]; exact hs _ _ (by omega) (by omega) (by omega)
  · rw [r4 i (by omega), r4 j (by omega)]; exact ht i j (by omega) a2 a3
  · rw [r1 i (by omega), r2 j (by omega) (by omega)]; exact hl _ _ a1 (by omega) (by omega) (by omega)
  · rw [r3 i (by omega) (by omega), r4 j (by omega)]; exact hl _ _ (by omega) (by omega) (by omega) (by omega)
  · by_cases c1 : x < s
    · rw [r1 x c1]
      by_cases c2 : y < e
      · rw [r3 y a3 c2]; exact hs _ _ a1 (by omega) (by omega)
      · rw [r4 y (by omega)]
        have k1 := le x y a1 c1 (by omega) a4
        have k2 := hl x y a1 (by omega) (by omega) a4
        unfold lx; omega
    · rw [r2 x (by omega) a2]
      by_cases c2 : y < e
      · rw [r3 y a3 c2]; exact .inl (lt _ _ (by omega) (by omega) (by omega) (by omega))
      · rw [r4 y (by omega)]; exact ht _ _ (by omega) (by omega) a4
theorem Halves.join {n a s mid e b : Nat} {d1 d2 d3 : Nat → α} (h : Halves key rk d1 a s mid e b) (ham : a ≤ mid) (hmb : mid ≤ b) (c1 : Ch n a mid d1 d2) (s1 : Srt key rk d2 a mid) (c2 : Ch n mid b d2 d3) (s2 : Srt key rk d3 mid b) : Ch n a b d1 d3 ∧ Srt key rk d3 a b := by
  refine ⟨(c1.wide (Nat.le_refl _) hmb).trans (c2.wide ham (Nat.le_refl _)), fun i j a1 a2 a3 => ?_⟩
  by_cases e1 : j < mid
  · rw [c2.out i (by omega), c2.out j (by omega)]; exact s1 i j a1 a2 e1
  · by_cases e2 : mid ≤ i
    · exact s2 i j e2 a2 a3
    · rw [c2.out i (by omega)]
      obtain ⟨x, x1, x2, x3⟩ := c1.inn i a1 (by omega)
      obtain ⟨y, y1, y2, y3⟩ := c2.inn j (by omega) a3
      rw [x3, y3, c1.out y (by omega)]
      exact h.cross x y x1 x2 y1 y2
/-! ### blocks -/
theorem blk_of {s k i : Nat} (h1 : k * s ≤ i) (h2 : i < k * s + s) : i / s = k := by
  have hs : 0 < s := by omega
  rw [Nat.div_eq_iff hs]
  omega
theorem blk_two (i s : Nat) : i / (2 * s) = i / s / 2 := by rw [Nat.div_div_eq_div_mul, Nat.mul_comm]
/-- below a: sorted by blocks of 2 s; from a on: by blocks of s -/
structure Mix (key : α → Int) (rk : α → Nat) (n s t a : Nat) (d0 d : Nat → α) : Prop where
  pm : (lst n d).Perm (lst n d0)
  out : ∀ i, n ≤ i → d i = d0 i
  ow1 : ∀ i, i < n → i < a → ∃ j, j < n ∧ j / t = i / t ∧ d i = d0 j
  ow2 : ∀ i, i < n → a ≤ i → ∃ j, j < n ∧ j / s = i / s ∧ d i = d0 j
  so1 : ∀ i j, i < j → j < n → j < a → i / t = j / t → lx key rk (d i) (d j)
  so2 : ∀ i j, i < j → j < n → a ≤ i → i / s = j / s → lx key rk (d i) (d j)
theorem Mix.start (n t : Nat) (d : Nat → α) : Mix key rk n 1 t 0 d d :=
  ⟨List.Perm.refl _, fun _ _ => rfl, fun i h1 h2 => by omega, fun i h1 h2 => ⟨i, h1, rfl, rfl⟩, fun i j h1 h2 h3 => by omega, fun i j h1 h2 h3 h4 => by simp at h4; omega⟩
theorem Mix.step {n s t k b : Nat} {d0 d d' : Nat → α} (h : Mix key rk n s t (k * t) d0 d) (ht : 0 < t) (hst : ∀ i j, i / s = j / s → i / t = j / t) (c : Ch n (k * t) b d d') (hs : Srt key rk d' (k * t) b) (hb : b ≤ n) (hk : b ≤ k * t + t) (ha : k * t ≤ b) (he : b = k * t + t ∨ b = n) : Mix key rk n s t b d0 d' := by
  refine ⟨c.pm.trans h.pm, fun i h1 => ?_, fun i h1 h2 => ?_, fun i h1 h2 => ?_, fun i j h1 h2 h3 h4 => ?_, fun i j h1 h2 h3 h4 => ?_⟩
  · rw [c.out i (by omega)]; exact h.out i h1
  · by_cases e : i < k * t
    · rw [c.out i (by omega)]; exact h.ow1 i h1 e
    · obtain ⟨j, j1, j2, j3⟩ := c.inn i (by omega) h2
      obtain ⟨x, x1, x2, x3⟩ := h.ow2 j (by omega) j1
      refine ⟨x, x1, ?_, j3.trans x3⟩
      rw [hst x j x2, blk_of (s := t) (k := k) j1 (by omega), blk_of (s := t) (k := k) (i := i) (by omega) (by omega)]
  · rw [c.out i (by omega)]; exact h.ow2 i h1 (by omega)
  · by_cases e : j < k * t
    · rw [c.out i (by omega), c.out j (by omega)]; exact h.so1 i j h1 h2 e h4
    · have hj : j / t = k := blk_of (by omega) (by omega)
      have hi : k * t ≤ i := by
        by_cases e2 : k * t ≤ i
        · exact e2
        · have : i / t < k := by rw [Nat.div_lt_iff_lt_mul ht]; omega
          omega
      exact hs i j hi h1 h3
  · rw [c.out i (by omega), c.out j (by omega)]; exact h.so2 i j h1 h2 (by omega) h4
/-- what a merge asks of two neighbouring blocks -/
theorem Mix.two {n s k b : Nat} {d0 d : Nat → α} (h : Mix key rk n s (2 * s) (k * (2 * s)) d0 d) (hs : 0 < s) (hinc : ∀ i j, i < j → j < n → rk (d0 i) < rk (d0 j)) (hb : b ≤ n) (hm : k * (2 * s) + s ≤ b) (hk : b ≤ k * (2 * s) + 2 * s) :
    Srt key rk d (k * (2 * s)) (k * (2 * s) + s) ∧ Srt key rk d (k * (2 * s) + s) b ∧ Lo rk d (k * (2 * s)) (k * (2 * s) + s) b := by
  have e0 : k * (2 * s) = (2 * k) * s := by rw [Nat.mul_comm 2 k, Nat.mul_assoc]
  have e1 : (2 * k + 1) * s = (2 * k) * s + s := by rw [Nat.add_mul]; omega
  have b1 : ∀ i, k * (2 * s) ≤ i → i < k * (2 * s) + s → i / s = 2 * k := fun i h1 h2 => blk_of (by omega) (by omega)
  have b2 : ∀ i, k * (2 * s) + s ≤ i → i < b → i / s = 2 * k + 1 := fun i h1 h2 => blk_of (by omega) (by omega)
  refine ⟨fun i j h1 h2 h3 => h.so2 i j h2 (by omega) h1 (by rw [b1 i h1 (by omega), b1 j (by omega) h3]), fun i j h1 h2 h3 => h.so2 i j h2 (by omega) (by omega) (by rw [b2 i h1 (by omega), b2 j (by omega) h3]), fun p q h1 h2 h3 h4 => ?_⟩
  obtain ⟨x, x1, x2, x3⟩ := h.ow2 p (by omega) h1
  obtain ⟨y, y1, y2, y3⟩ := h.ow2 q (by omega) (by omega)
  rw [x3, y3]
  rw [b1 p h1 h2] at x2
  rw [b2 q h3 h4] at y2
  refine hinc x y ?_ y1
  by_cases e : x < y
  · exact e
  · have := Nat.div_le_div_right (c := s) (show y ≤ x from by omega)
    omega
/-- what is left behind the last whole pair is one block -/
theorem Mix.rest {n s k : Nat} {d0 d : Nat → α} (h : Mix key rk n s (2 * s) (k * (2 * s)) d0 d) (hs : 0 < s) (hn : n ≤ k * (2 * s) + s) : Mix key rk n s (2 * s) n d0 d := by
  by_cases hk : k * (2 * s) ≤ n
  · have e0 : k * (2 * s) = (2 * k) * s := by rw [Nat.mul_comm 2 k, Nat.mul_assoc]
    have b1 : ∀ i, k * (2 * s) ≤ i → i < k * (2 * s) + s → i / s = 2 * k := fun i h1 h2 => blk_of (by omega) (by omega)
    exact h.step (by omega) (fun i j e => by rw [blk_two, blk_two, e]) (Ch.refl _ _ _ _) (fun i j h1 h2 h3 => h.so2 i j h2 h3 h1 (by rw [b1 i h1 (by omega), b1 j (by omega) (by omega)])) (Nat.le_refl _) (by omega) hk (.inr rfl)
  · exact ⟨h.pm, h.out, fun i h1 h2 => h.ow1 i h1 (by omega), fun i h1 h2 => by omega, fun i j h1 h2 h3 => h.so1 i j h1 h2 (by omega), fun i j h1 h2 h3 => by omega⟩
/-- the next size -/
theorem Mix.next {n s t a : Nat} {d0 d : Nat → α} (h : Mix key rk n s t a d0 d) (ha : n ≤ a) : Mix key rk n t (2 * t) 0 d0 d :=
  ⟨h.pm, h.out, fun i h1 h2 => by omega, fun i h1 _ => h.ow1 i h1 (by omega), fun i j h1 h2 h3 => by omega, fun i j h1 h2 _ h4 => h.so1 i j h1 h2 (by omega) h4⟩
theorem Mix.end {n s t : Nat} {d0 d : Nat → α} (h : Mix key rk n s t 0 d0 d) (hs : n ≤ s) : Srt key rk d 0 n := fun i j h1 h2 h3 =>
  h.so2 i j h2 h3 (Nat.zero_le _) (by rw [Nat.div_eq_of_lt (by omega), Nat.div_eq_of_lt (by omega)])
theorem srt_list {n : Nat} {d : Nat → α} (h : Srt key rk d 0 n) : (lst n d).Pairwise (lx key rk) := by
  rw [List.pairwise_iff_getElem]
  intro i j hi hj hij
  rw [lst_len] at hi hj
  simp only [lst, List.getElem_map, List.getElem_range]
  exact h i j (Nat.zero_le _) hij hj
/-- sorted and the same elements: the same list -/
theorem srt_one {n : Nat} {d d0 : Nat → α} {L : List α} (h : Srt key rk d 0 n) (hp : (lst n d).Perm L) (hL : L.Pairwise (lx key rk)) : lst n d = L :=
  List.Perm.eq_of_pairwise (le := lx key rk) (fun a b _ _ h1 h2 => by unfold lx at h1 h2; omega) (srt_list h) hL hp
end
end Go.Proofs.Ytofajcifjmhomaa.Sorts
