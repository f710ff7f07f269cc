import Derived.Test.YtkdgfioigkijgaaGreatW01
set_option maxRecDepth 100000
set_option linter.unusedVariables false
set_option linter.unusedSimpArgs false
namespace Go.Proofs.YtkdgfioigkijgaaGreat.Sorts
section
variable {α : Type} {key : α → Int} {rk : α → Nat}
theorem Srt.key_le {d : Nat → α} {a b i j : Nat} (h : Srt key rk d a b) (hi : a ≤ i) (hij : i ≤ j) (hj : j < b) : key (d i) ≤ key (d j) := by
  by_cases e : i = j
  · subst e; omega
  · have := h i j hi (by omega) hj
    unfold lx at this; omega
theorem Srt.sub {d : Nat → α} {a b a' b' : Nat} (h : Srt key rk d a b) (ha : a ≤ a') (hb : b' ≤ b) : Srt key rk d a' b' := fun i j h1 h2 h3 => h i j (by omega) h2 (by omega)
def Lo (rk : α → Nat) (d : Nat → α) (a m b : Nat) : Prop := ∀ p q, a ≤ p → p < m → m ≤ q → q < b → rk (d p) < rk (d q)
def shl (d : Nat → α) (a k : Nat) : Nat → α := fun x => if a ≤ x ∧ x < k then d (x + 1) else if x = k then d a else d x
theorem shl_start (d : Nat → α) (a : Nat) : shl d a a = d := by
  funext x; unfold shl; rw [if_neg (by omega)]
  by_cases e : x = a
  · rw [if_pos e, e]
  · rw [if_neg e]
theorem shl_step (d : Nat → α) {a k : Nat} (h : a ≤ k) : sw (shl d a k) k (k + 1) = shl d a (k + 1) := by
  funext x; unfold sw shl
  by_cases e1 : x = k
  · rw [if_pos e1, if_neg (by omega), if_neg (by omega), if_pos (by omega), e1]
  · rw [if_neg e1]
    by_cases e2 : x = k + 1
    · rw [if_pos e2, if_neg (by omega), if_pos rfl, if_neg (by omega), if_pos e2]
    · rw [if_neg e2, if_neg e1]
      by_cases e3 : a ≤ x ∧ x < k
      · rw [if_pos e3, if_pos (by omega)]
      · rw [if_neg e3, if_neg (show ¬ (a ≤ x ∧ x < k + 1) from by omega), if_neg e2]
theorem shl_srt {d : Nat → α} {a b i : Nat} (hs : Srt key rk d (a + 1) b) (hl : Lo rk d a (a + 1) b) (hi : a + 1 ≤ i) (hib : i ≤ b) (h1 : ∀ q, a + 1 ≤ q → q < i → key (d q) < key (d a)) (h2 : ∀ q, i ≤ q → q < b → ¬ key (d q) < key (d a)) : Srt key rk (shl d a (i - 1)) a b := by
  have lo : ∀ x, a ≤ x → x < i - 1 → shl d a (i - 1) x = d (x + 1) := fun x e1 e2 => by unfold shl; rw [if_pos ⟨e1, e2⟩]
  have md : shl d a (i - 1) (i - 1) = d a := by unfold shl; rw [if_neg (by omega), if_pos rfl]
  have up : ∀ x, i ≤ x → shl d a (i - 1) x = d x := fun x e1 => by unfold shl; rw [if_neg (by omega), if_neg (by omega)]
  have ax : ∀ q, i ≤ q → q < b → lx key rk (d a) (d q) := fun q e1 e2 => by
    have := h2 q e1 e2
    have := hl a q (by omega) (by omega) (by omega) e2
    unfold lx; omega
  intro p q e1 e2 e3
  by_cases c1 : p < i - 1
  · rw [lo p e1 c1]
    by_cases c2 : q < i - 1
    · rw [lo q (by omega) c2]; exact hs _ _ (by omega) (by omega) (by omega)
    · by_cases c3 : q = i - 1
      · rw [c3, md]; exact .inl (h1 _ (by omega) (by omega))
      · rw [up q (by omega)]; exact hs _ _ (by omega) (by omega) e3
  · by_cases c2 : p = i - 1
    · rw [c2, md, up q (by omega)]; exact ax q (by omega) e3
    · rw [up p (by omega), up q (by omega)]; exact hs _ _ (by omega) e2 e3
def shr (d : Nat → α) (m k : Nat) : Nat → α := fun x => if k < x ∧ x ≤ m then d (x - 1) else if x = k then d m else d x
theorem shr_start (d : Nat → α) (m : Nat) : shr d m m = d := by
  funext x; unfold shr; rw [if_neg (by omega)]
  by_cases e : x = m
  · rw [if_pos e, e]
  · rw [if_neg e]
theorem shr_step (d : Nat → α) {m k : Nat} (h : k ≤ m) (hk : 1 ≤ k) : sw (shr d m k) k (k - 1) = shr d m (k - 1) := by
  funext x; unfold sw shr
  by_cases e1 : x = k
  · rw [if_pos e1, if_neg (by omega), if_neg (by omega), if_pos (by omega), e1]
  · rw [if_neg e1]
    by_cases e2 : x = k - 1
    · rw [if_pos e2, if_neg (by omega), if_pos rfl, if_neg (by omega), if_pos e2]
    · rw [if_neg e2, if_neg e1]
      by_cases e3 : k < x ∧ x ≤ m
      · rw [if_pos e3, if_pos (by omega)]
      · rw [if_neg e3, if_neg (show ¬ (k - 1 < x ∧ x ≤ m) from by omega), if_neg e2]
theorem shr_srt {d : Nat → α} {a m i : Nat} (hs : Srt key rk d a m) (hl : Lo rk d a m (m + 1)) (hi : a ≤ i) (him : i ≤ m) (h1 : ∀ q, a ≤ q → q < i → ¬ key (d m) < key (d q)) (h2 : ∀ q, i ≤ q → q < m → key (d m) < key (d q)) : Srt key rk (shr d m i) a (m + 1) := by
  have lo : ∀ x, x < i → shr d m i x = d x := fun x e1 => by unfold shr; rw [if_neg (by omega), if_neg (by omega)]
  have md : shr d m i i = d m := by unfold shr; rw [if_neg (by omega), if_pos rfl]
  have up : ∀ x, i < x → x ≤ m → shr d m i x = d (x - 1) := fun x e1 e2 => by unfold shr; rw [if_pos ⟨e1, e2⟩]
  have ax : ∀ q, a ≤ q → q < i → lx key rk (d q) (d m) := fun q e1 e2 => by
    have := h1 q e1 e2
    have := hl q m (by omega) (by omega) (by omega) (by omega)
    unfold lx; omega
  intro p q e1 e2 e3
  by_cases c1 : p < i
  · rw [lo p c1]
    by_cases c2 : q < i
    · rw [lo q c2]; exact hs _ _ e1 e2 (by omega)
    · by_cases c3 : q = i
      · rw [c3, md]; exact ax p e1 c1
      · rw [up q (by omega) (by omega)]; exact hs _ _ e1 (by omega) (by omega)
  · by_cases c2 : p = i
    · rw [c2, md, up q (by omega) (by omega)]; exact .inl (h2 _ (by omega) (by omega))
    · rw [up p (by omega) (by omega), up q (by omega) (by omega)]; exact hs _ _ (by omega) (by omega) (by omega)
structure Cutp (key : α → Int) (d : Nat → α) (a m b start : Nat) : Prop where
  bd : a ≤ start ∧ start ≤ m ∧ start ≤ (a + b) / 2 + m - m ∧ m ≤ (a + b) / 2 + m - start ∧ (a + b) / 2 + m - start ≤ b
  le : ∀ x y, a ≤ x → x < start → (a + b) / 2 + m - start ≤ y → y < b → key (d x) ≤ key (d y)
  lt : ∀ y x, m ≤ y → y < (a + b) / 2 + m - start → start ≤ x → x < m → key (d y) < key (d x)
structure Seek (key : α → Int) (d : Nat → α) (p lo hi s r : Nat) : Prop where
  bd : lo ≤ s ∧ s ≤ r ∧ r ≤ hi
  yes : ∀ c, lo ≤ c → c < s → ¬ key (d (p - c)) < key (d c)
  no : ∀ c, r ≤ c → c < hi → key (d (p - c)) < key (d c)
theorem Seek.start (d : Nat → α) {p lo hi : Nat} (h : lo ≤ hi) : Seek key d p lo hi lo hi := ⟨by omega, fun c h1 h2 => by omega, fun c h1 h2 => by omega⟩
theorem Seek.up {d : Nat → α} {a m b p lo hi s r c : Nat} (h : Seek key d p lo hi s r) (h1 : Srt key rk d a m) (h2 : Srt key rk d m b) (hlo : a ≤ lo) (hhi : hi ≤ m) (hp : ∀ x, lo ≤ x → x < hi → m ≤ p - x ∧ p - x < b) (hc : s ≤ c ∧ c < r) (hk : ¬ key (d (p - c)) < key (d c)) : Seek key d p lo hi (c + 1) r :=
  ⟨by have := h.bd; omega, fun x e1 e2 => by
    have hb := h.bd
    have p1 := hp x e1 (by omega)
    have p2 := hp c (by omega) (by omega)
    have k1 := h1.key_le (i := x) (j := c) (by omega) (by omega) (by omega)
    have k2 := h2.key_le (i := p - c) (j := p - x) p2.1 (by omega) p1.2
    omega, h.no⟩
theorem Seek.down {d : Nat → α} {a m b p lo hi s r c : Nat} (h : Seek key d p lo hi s r) (h1 : Srt key rk d a m) (h2 : Srt key rk d m b) (hlo : a ≤ lo) (hhi : hi ≤ m) (hp : ∀ x, lo ≤ x → x < hi → m ≤ p - x ∧ p - x < b) (hc : s ≤ c ∧ c < r) (hk : key (d (p - c)) < key (d c)) : Seek key d p lo hi s c :=
  ⟨by have := h.bd; omega, h.yes, fun x e1 e2 => by
    have hb := h.bd
    have p1 := hp x (by omega) e2
    have p2 := hp c (by omega) (by omega)
    have k1 := h1.key_le (i := c) (j := x) (by omega) (by omega) (by omega)
    have k2 := h2.key_le (i := p - x) (j := p - c) p1.1 (by omega) p2.2
    omega⟩
def lo0 (a m b : Nat) : Nat := if (a + b) / 2 < m then (a + b) / 2 + m - b else a
def hi0 (a m b : Nat) : Nat := if (a + b) / 2 < m then (a + b) / 2 else m
theorem ends0 {a m b : Nat} (h1 : a < m) (h2 : m < b) : a ≤ lo0 a m b ∧ lo0 a m b ≤ hi0 a m b ∧ hi0 a m b ≤ m ∧ ∀ x, lo0 a m b ≤ x → x < hi0 a m b → m ≤ (a + b) / 2 + m - 1 - x ∧ (a + b) / 2 + m - 1 - x < b := by
  unfold lo0 hi0
  by_cases e : (a + b) / 2 < m
  · rw [if_pos e, if_pos e]; exact ⟨by omega, by omega, by omega, fun x e1 e2 => by omega⟩
  · rw [if_neg e, if_neg e]; exact ⟨by omega, by omega, by omega, fun x e1 e2 => by omega⟩
theorem Seek.cut {d : Nat → α} {a m b s : Nat} (h1 : a < m) (h2 : m < b) (hs : Srt key rk d a m) (ht : Srt key rk d m b) (h : Seek key d ((a + b) / 2 + m - 1) (lo0 a m b) (hi0 a m b) s s) : Cutp key d a m b s := by
  have hb := h.bd
  have h3 := ends0 h1 h2
  have el : lo0 a m b = if (a + b) / 2 < m then (a + b) / 2 + m - b else a := rfl
  have eh : hi0 a m b = if (a + b) / 2 < m then (a + b) / 2 else m := rfl
  have hbd : a ≤ s ∧ s ≤ m ∧ s ≤ (a + b) / 2 + m - m ∧ m ≤ (a + b) / 2 + m - s ∧ (a + b) / 2 + m - s ≤ b := by
    by_cases e : (a + b) / 2 < m
    · rw [if_pos e] at el eh; omega
    · rw [if_neg e] at el eh; omega
  refine ⟨hbd, fun x y e1 e2 e3 e4 => ?_, fun y x e1 e2 e3 e4 => ?_⟩
  · by_cases e : s = lo0 a m b
    · by_cases c : (a + b) / 2 < m
      · rw [if_pos c] at el; omega
      · rw [if_neg c] at el; omega
    · have hk := h.yes (s - 1) (by omega) (by omega)
      rw [show (a + b) / 2 + m - 1 - (s - 1) = (a + b) / 2 + m - s from by omega] at hk
      have k1 := hs.key_le (i := x) (j := s - 1) (by omega) (by omega) (by omega)
      have k2 := ht.key_le (i := (a + b) / 2 + m - s) (j := y) (by omega) (by omega) (by omega)
      omega
  · by_cases e : s = hi0 a m b
    · by_cases c : (a + b) / 2 < m
      · rw [if_pos c] at eh; omega
      · rw [if_neg c] at eh; omega
    · have hk := h.no s (by omega) (by omega)
      have k1 := hs.key_le (i := s) (j := x) (by omega) (by omega) (by omega)
      have k2 := ht.key_le (i := y) (j := (a + b) / 2 + m - 1 - s) (by omega) (by omega) (by omega)
      omega
theorem rot_none {a m b : Nat} (d : Nat → α) (hab : a ≤ m) (hmb : m ≤ b) (h : ¬ (a < m ∧ m < b)) : rot d a m b = d := by
  funext x; unfold rot
  by_cases e : a ≤ x ∧ x < a + (b - m)
  · rw [if_pos e]; congr 1; omega
  · rw [if_neg e]
    by_cases e : a + (b - m) ≤ x ∧ x < b
    · rw [if_pos e]; congr 1; omega
    · rw [if_neg e]
structure Halves (key : α → Int) (rk : α → Nat) (d1 : Nat → α) (a s mid e b : Nat) : Prop where
  s1 : Srt key rk d1 a s
  s2 : Srt key rk d1 s mid
  s3 : Srt key rk d1 mid e
  s4 : Srt key rk d1 e b
  l1 : Lo rk d1 a s mid
  l2 : Lo rk d1 mid e b
  cross : ∀ x y, a ≤ x → x < mid → mid ≤ y → y < b → lx key rk (d1 x) (d1 y)
theorem Cutp.halves {d : Nat → α} {a m b s : Nat} (h : Cutp key d a m b s) (hs : Srt key rk d a m) (ht : Srt key rk d m b) (hl : Lo rk d a m b) :
    Halves key rk (rot d s m ((a + b) / 2 + m - s)) a s ((a + b) / 2) ((a + b) / 2 + m - s) b := by
  obtain ⟨bd, le, lt⟩ := h
  obtain ⟨e, he⟩ : ∃ e, e = (a + b) / 2 + m - s := ⟨_, rfl⟩
  obtain ⟨mid, hmid⟩ : ∃ mid, mid = (a + b) / 2 := ⟨_, rfl⟩
  rw [← he] at bd le lt ⊢
  rw [← hmid] at bd he ⊢
  have r1 : ∀ x, x < s → rot d s m e x = d x := fun x h => by unfold rot; rw [if_neg (by omega), if_neg (by omega)]
  have r2 : ∀ x, s ≤ x → x < mid → rot d s m e x = d (m + (x - s)) := fun x h1 h2 => by unfold rot; rw [if_pos (by omega)]
  have r3 : ∀ x, mid ≤ x → x < e → rot d s m e x = d (x - (e - m)) := fun x h1 h2 => by unfold rot; rw [if_neg (by omega), if_pos (by omega)]
  have r4 : ∀ x, e ≤ x → rot d s m e x = d x := fun x h => by unfold rot; rw [if_neg (by omega), if_neg (by omega)]
  refine ⟨fun i j a1 a2 a3 => ?_, fun i j a1 a2 a3 => ?_, fun i j a1 a2 a3 => ?_, fun i j a1 a2 a3 => ?_, fun i j a1 a2 a3 a4 => ?_, fun i j a1 a2 a3 a4 => ?_, fun x y a1 a2 a3 a4 => ?_⟩
  · rw [r1 i (by omega), r1 j (by omega)]; exact hs i j a1 a2 (by omega)
  · rw [r2 i (by omega) (by omega), r2 j (by omega) (by omega)]; exact ht _ _ (by omega) (by omega) (by omega)
  · rw [r3 i (by omega) (by omega), r3 j (by omega) (by omega)]; exact hs _ _ (by omega) (by omega) (by omega)
  · rw [r4 i (by omega), r4 j (by omega)]; exact ht i j (by omega) a2 a3
  · rw [r1 i (by omega), r2 j (by omega) (by omega)]; exact hl _ _ a1 (by omega) (by omega) (by omega)
  · rw [r3 i (by omega) (by omega), r4 j (by omega)]; exact hl _ _ (by omega) (by omega) (by omega) (by omega)
  · by_cases c1 : x < s
    · rw [r1 x c1]
      by_cases c2 : y < e
      · rw [r3 y a3 c2]; exact hs _ _ a1 (by omega) (by omega)
      · rw [r4 y (by omega)]
        have k1 := le x y a1 c1 (by omega) a4
        have k2 := hl x y a1 (by omega) (by omega) a4
        unfold lx; omega
    · rw [r2 x (by omega) a2]
      by_cases c2 : y < e
      · rw [r3 y a3 c2]; exact .inl (lt _ _ (by omega) (by omega) (by omega) (by omega))
      · rw [r4 y (by omega)]; exact ht _ _ (by omega) (by omega) a4
theorem Halves.join {n a s mid e b : Nat} {d1 d2 d3 : Nat → α} (h : Halves key rk d1 a s mid e b) (ham : a ≤ mid) (hmb : mid ≤ b) (c1 : Ch n a mid d1 d2) (s1 : Srt key rk d2 a mid) (c2 : Ch n mid b d2 d3) (s2 : Srt key rk d3 mid b) : Ch n a b d1 d3 ∧ Srt key rk d3 a b := by
  refine ⟨(c1.wide (Nat.le_refl _) hmb).trans (c2.wide ham (Nat.le_refl _)), fun i j a1 a2 a3 => ?_⟩
  by_cases e1 : j < mid
  · rw [c2.out i (by omega), c2.out j (by omega)]; exact s1 i j a1 a2 e1
  · by_cases e2 : mid ≤ i
    · exact s2 i j e2 a2 a3
    · rw [c2.out i (by omega)]
      obtain ⟨x, x1, x2, x3⟩ := c1.inn i a1 (by omega)
      obtain ⟨y, y1, y2, y3⟩ := c2.inn j (by omega) a3
      rw [x3, y3, c1.out y (by omega)]
      exact h.cross x y x1 x2 y1 y2
theorem blk_of {s k i : Nat} (h1 : k * s ≤ i) (h2 : i < k * s + s) : i / s = k := by
  have hs : 0 < s := by omega
  rw [Nat.div_eq_iff hs]
  omega
theorem blk_two (i s : Nat) : i / (2 * s) = i / s / 2 := by rw [Nat.div_div_eq_div_mul, Nat.mul_comm]
structure Mix (key : α → Int) (rk : α → Nat) (n s t a : Nat) (d0 d : Nat → α) : Prop where
  pm : (lst n d).Perm (lst n d0)
  out : ∀ i, n ≤ i → d i = d0 i
  ow1 : ∀ i, i < n → i < a → ∃ j, j < n ∧ j / t = i / t ∧ d i = d0 j
  ow2 : ∀ i, i < n → a ≤ i → ∃ j, j < n ∧ j / s = i / s ∧ d i = d0 j
  so1 : ∀ i j, i < j → j < n → j < a → i / t = j / t → lx key rk (d i) (d j)
  so2 : ∀ i j, i < j → j < n → a ≤ i → i / s = j / s → lx key rk (d i) (d j)
theorem Mix.start (n t : Nat) (d : Nat → α) : Mix key rk n 1 t 0 d d :=
  ⟨List.Perm.refl _, fun _ _ => rfl, fun i h1 h2 => by omega, fun i h1 h2 => ⟨i, h1, rfl, rfl⟩, fun i j h1 h2 h3 => by omega, fun i j h1 h2 h3 h4 => by simp at h4; omega⟩
theorem Mix.step {n s t k b : Nat} {d0 d d' : Nat → α} (h : Mix key rk n s t (k * t) d0 d) (ht : 0 < t) (hst : ∀ i j, i / s = j / s → i / t = j / t) (c : Ch n (k * t) b d d') (hs : Srt key rk d' (k * t) b) (hb : b ≤ n) (hk : b ≤ k * t + t) (ha : k * t ≤ b) (he : b = k * t + t ∨ b = n) : Mix key rk n s t b d0 d' := by
  refine ⟨c.pm.trans h.pm, fun i h1 => ?_, fun i h1 h2 => ?_, fun i h1 h2 => ?_, fun i j h1 h2 h3 h4 => ?_, fun i j h1 h2 h3 h4 => ?_⟩
  · rw [c.out i (by omega)]; exact h.out i h1
  · by_cases e : i < k * t
    · rw [c.out i (by omega)]; exact h.ow1 i h1 e
    · obtain ⟨j, j1, j2, j3⟩ := c.inn i (by omega) h2
      obtain ⟨x, x1, x2, x3⟩ := h.ow2 j (by omega) j1
      refine ⟨x, x1, ?_, j3.trans x3⟩
      rw [hst x j x2, blk_of (s := t) (k := k) j1 (by omega), blk_of (s := t) (k := k) (i := i) (by omega) (by omega)]
  · rw [c.out i (by omega)]; exact h.ow2 i h1 (by omega)
  · by_cases e : j < k * t
    · rw [c.out i (by omega), c.out j (by omega)]; exact h.so1 i j h1 h2 e h4
    · have hj : j / t = k := blk_of (by omega) (by omega)
      have hi : k * t ≤ i := by
        by_cases e2 : k * t ≤ i
        · exact e2
        · have : i / t < k := by rw [Nat.div_lt_iff_lt_mul ht]; omega
          omega
      exact hs i j hi h1 h3
  · rw [c.out i (by omega), c.out j (by omega)]; exact h.so2 i j h1 h2 (by omega) h4
theorem Mix.two {n s k b : Nat} {d0 d : Nat → α} (h : Mix key rk n s (2 * s) (k * (2 * s)) d0 d) (hs : 0 < s) (hinc : ∀ i j, i < j → j < n → rk (d0 i) < rk (d0 j)) (hb : b ≤ n) (hm : k * (2 * s) + s ≤ b) (hk : b ≤ k * (2 * s) + 2 * s) :
    Srt key rk d (k * (2 * s)) (k * (2 * s) + s) ∧ Srt key rk d (k * (2 * s) + s) b ∧ Lo rk d (k * (2 * s)) (k * (2 * s) + s) b := by
  have e0 : k * (2 * s) = (2 * k) * s := by rw [Nat.mul_comm 2 k, Nat.mul_assoc]
  have e1 : (2 * k + 1) * s = (2 * k) * s + s := by rw [Nat.add_mul]; omega
  have b1 : ∀ i, k * (2 * s) ≤ i → i < k * (2 * s) + s → i / s = 2 * k := fun i h1 h2 => blk_of (by omega) (by omega)
  have b2 : ∀ i, k * (2 * s) + s ≤ i → i < b → i / s = 2 * k + 1 := fun i h1 h2 => blk_of (by omega) (by omega)
  refine ⟨fun i j h1 h2 h3 => h.so2 i j h2 (by omega) h1 (by rw [b1 i h1 (by omega), b1 j (by omega) h3]), fun i j h1 h2 h3 => h.so2 i j h2 (by omega) (by omega) (by rw [b2 i h1 (by omega), b2 j (by omega) h3]), fun p q h1 h2 h3 h4 => ?_⟩
  obtain ⟨x, x1, x2, x3⟩ := h.ow2 p (by omega) h1
  obtain ⟨y, y1, y2, y3⟩ := h.ow2 q (by omega) (by omega)
  rw [x3, y3]
  rw [b1 p h1 h2] at x2
  rw [b2 q h3 h4] at y2
  refine hinc x y ?_ y1
  by_cases e : x < y
  · exact e
  · have := Nat.div_le_div_right (c := s) (show y ≤ x from by omega)
    omega
theorem Mix.rest {n s k : Nat} {d0 d : Nat → α} (h : Mix key rk n s (2 * s) (k * (2 * s)) d0 d) (hs : 0 < s) (hn : n ≤ k * (2 * s) + s) : Mix key rk n s (2 * s) n d0 d := by
  by_cases hk : k * (2 * s) ≤ n
  · have e0 : k * (2 * s) = (2 * k) * s := by rw [Nat.mul_comm 2 k, Nat.mul_assoc]
    have b1 : ∀ i, k * (2 * s) ≤ i → i < k * (2 * s) + s → i / s = 2 * k := fun i h1 h2 => blk_of (by omega) (by omega)
    exact h.step (by omega) (fun i j e => by rw [blk_two, blk_two, e]) (Ch.refl _ _ _ _) (fun i j h1 h2 h3 => h.so2 i j h2 h3 h1 (by rw [b1 i h1 (by omega), b1 j (by omega) (by omega)])) (Nat.le_refl _) (by omega) hk (.inr rfl)
  · exact ⟨h.pm, h.out, fun i h1 h2 => h.ow1 i h1 (by omega), fun i h1 h2 => by omega, fun i j h1 h2 h3 => h.so1 i j h1 h2 (by omega), fun i j h1 h2 h3 => by omega⟩
theorem Mix.next {n s t a : Nat} {d0 d : Nat → α} (h : Mix key rk n s t a d0 d) (ha : n ≤ a) : Mix key rk n t (2 * t) 0 d0 d :=
  ⟨h.pm, h.out, fun i h1 h2 => by omega, fun i h1 _ => h.ow1 i h1 (by omega), fun i j h1 h2 h3 => by omega, fun i j h1 h2 _ h4 => h.so1 i j h1 h2 (by omega) h4⟩
theorem Mix.end {n s t : Nat} {d0 d : Nat → α} (h : Mix key rk n s t 0 d0 d) (hs : n ≤ s) : Srt key rk d 0 n := fun i j h1 h2 h3 =>
  h.so2 i j h2 h3 (Nat.zero_le _) (by rw [Nat.div_eq_of_lt (by omega), Nat.div_eq_of_lt (by omega)])
theorem srt_list {n : Nat} {d : Nat → α} (h : Srt key rk d 0 n) : (lst n d).Pairwise (lx key rk) := by
  rw [List.pairwise_iff_getElem]
  intro i j hi hj hij
  rw [lst_len] at hi hj
  simp only [lst, List.getElem_map, List.getElem_range]
  exact h i j (Nat.zero_le _) hij hj
theorem srt_one {n : Nat} {d d0 : Nat → α} {L : List α} (h : Srt key rk d 0 n) (hp : (lst n d).Perm L) (hL : L.Pairwise (lx key rk)) : lst n d = L :=
  List.Perm.eq_of_pairwise (le := lx key rk) (fun a b _ _ h1 h2 => by unfold lx at h1 h2; omega) (srt_list h) hL hp
end
end Go.Proofs.YtkdgfioigkijgaaGreat.Sorts
set_option linter.unusedVariables false
set_option linter.unusedSimpArgs false
namespace Go.Proofs.YtkdgfioigkijgaaGreat.Pm
inductive T where
  | leaf (w s : Nat)
  | pack (a b : T)
def T.wt : T → Nat
  | .leaf w _ => w
  | .pack a b => a.wt + b.wt
def T.cnt : T → Nat → Nat
  | .leaf _ s, k => if s = k then 1 else 0
  | .pack a b, k => a.cnt k + b.cnt k
def T.pos : T → Prop
  | .leaf w _ => 0 < w
  | .pack a b => a.pos ∧ b.pos
def le (a b : T) : Bool := decide (a.wt ≤ b.wt)
def Sd (l : List T) : Prop := l.Pairwise (fun a b => a.wt ≤ b.wt)
def ws : List T → Nat
  | [] => 0
  | t :: l => t.wt + ws l
def cl : List T → Nat → Nat
  | [], _ => 0
  | t :: l, k => t.cnt k + cl l k
theorem ws_app (a b : List T) : ws (a ++ b) = ws a + ws b := by
  induction a with
  | nil => simp [ws]
  | cons t a ih => simp only [List.cons_append, ws, ih]; omega
theorem cl_app (a b : List T) (k : Nat) : cl (a ++ b) k = cl a k + cl b k := by
  induction a with
  | nil => simp [cl]
  | cons t a ih => simp only [List.cons_append, cl, ih]; omega
theorem ws_perm {a b : List T} (h : a.Perm b) : ws a = ws b := by
  induction h with
  | nil => rfl
  | cons x _ ih => simp only [ws, ih]
  | swap x y l => simp only [ws]; omega
  | trans _ _ h1 h2 => exact h1.trans h2
theorem cl_perm {a b : List T} (h : a.Perm b) (k : Nat) : cl a k = cl b k := by
  induction h with
  | nil => rfl
  | cons x _ ih => simp only [cl, ih]
  | swap x y l => simp only [cl]; omega
  | trans _ _ h1 h2 => exact h1.trans h2
def pk : List T → List T
  | a :: b :: l => .pack a b :: pk l
  | _ => []
theorem pk_len : ∀ (l : List T), (pk l).length = l.length / 2
  | [] => rfl
  | [_] => by simp [pk]
  | a :: b :: l => by simp only [pk, List.length_cons, pk_len l]; omega
theorem pk_take : ∀ (p : Nat) (l : List T), (pk l).take p = pk (l.take (2 * p))
  | 0, l => by simp [pk]
  | p + 1, [] => by simp [pk]
  | p + 1, [a] => by rw [show 2 * (p + 1) = 2 * p + 1 + 1 from by omega]; simp [pk]
  | p + 1, a :: b :: l => by
    rw [show 2 * (p + 1) = 2 * p + 1 + 1 from by omega, List.take_succ_cons, List.take_succ_cons, pk, pk, List.take_succ_cons, pk_take p l]
theorem pk_ws : ∀ (l : List T), l.length % 2 = 0 → ws (pk l) = ws l
  | [], _ => rfl
  | [a], h => by simp at h
  | a :: b :: l, h => by simp only [pk, ws, T.wt, pk_ws l (by simp at h; omega)]; omega
theorem pk_cl : ∀ (l : List T) (k : Nat), l.length % 2 = 0 → cl (pk l) k = cl l k
  | [], k, _ => rfl
  | [a], k, h => by simp at h
  | a :: b :: l, k, h => by simp only [pk, cl, T.cnt, pk_cl l k (by simp at h; omega)]; omega
theorem pk_get : ∀ (l : List T) (i : Nat) (h : 2 * i + 1 < l.length), (pk l)[i]? = some (.pack l[2 * i] l[2 * i + 1])
  | [], i, h => by simp at h
  | [a], i, h => by simp at h
  | a :: b :: l, 0, h => by simp [pk]
  | a :: b :: l, i + 1, h => by
    rw [pk, List.getElem?_cons_succ, pk_get l i (by simp at h; omega)]
    simp only [show 2 * (i + 1) = 2 * i + 1 + 1 from by omega, List.getElem_cons_succ]
theorem pk_pos : ∀ (l : List T), (∀ t ∈ l, t.pos) → ∀ t ∈ pk l, t.pos
  | [], _, t, h => by simp [pk] at h
  | [a], _, t, h => by simp [pk] at h
  | a :: b :: l, hl, t, h => by
    simp only [pk, List.mem_cons] at h
    rcases h with rfl | h
    · exact ⟨hl a (by simp), hl b (by simp)⟩
    · exact pk_pos l (fun t ht => hl t (by simp [ht])) t h
theorem pk_sd : ∀ (l : List T), Sd l → Sd (pk l)
  | [], _ => by simp [pk, Sd]
  | [a], _ => by simp [pk, Sd]
  | a :: b :: l, h => by
    unfold Sd at h
    simp only [List.pairwise_cons, List.mem_cons] at h
    obtain ⟨h1, h2, h3⟩ := h
    unfold Sd
    rw [pk, List.pairwise_cons]
    refine ⟨fun t ht => ?_, pk_sd l h3⟩
    have : ∀ (m : List T), (∀ x ∈ m, a.wt ≤ x.wt) → (∀ x ∈ m, b.wt ≤ x.wt) → ∀ t ∈ pk m, (T.pack a b).wt ≤ t.wt := by
      intro m
      induction m using pk.induct with
      | case1 x y m ih =>
        intro m1 m2 t ht
        simp only [pk, List.mem_cons] at ht
        rcases ht with rfl | ht
        · have := m1 x (by simp); have := m2 y (by simp); simp only [T.wt]; omega
        · exact ih (fun z hz => m1 z (by simp [hz])) (fun z hz => m2 z (by simp [hz])) t ht
      | case2 m hm =>
        intro m1 m2 t ht
        cases m with
        | nil => simp [pk] at ht
        | cons x m => cases m with
          | nil => simp [pk] at ht
          | cons y m => exact absurd rfl (hm x y m)
    exact this l (fun x hx => h1 x (.inr hx)) h2 t ht
def mg (a b : List T) : List T := a.merge b le
theorem mg_nil (b : List T) : mg [] b = b := List.nil_merge _
theorem mg_nil' (a : List T) : mg a [] = a := List.merge_right _
theorem mg_le {x y : T} (a b : List T) (h : x.wt ≤ y.wt) : mg (x :: a) (y :: b) = x :: mg a (y :: b) := by
  unfold mg; rw [List.cons_merge_cons, if_pos (by unfold le; simpa using h)]
theorem mg_gt {x y : T} (a b : List T) (h : ¬ x.wt ≤ y.wt) : mg (x :: a) (y :: b) = y :: mg (x :: a) b := by
  unfold mg; rw [List.cons_merge_cons, if_neg (by unfold le; simpa using h)]
theorem mg_perm (a b : List T) : (mg a b).Perm (a ++ b) := List.merge_perm_append le
theorem mg_len (a b : List T) : (mg a b).length = a.length + b.length := by rw [(mg_perm a b).length_eq, List.length_append]
theorem mg_sd {a b : List T} (h : Sd a) (k : Sd b) : Sd (mg a b) := by
  have e : ∀ x y : T, le x y = true ↔ x.wt ≤ y.wt := fun x y => by unfold le; simp
  have := List.pairwise_merge (le := le) (fun a b c => by rw [e, e, e]; omega) (fun a b => by rw [Bool.or_eq_true, e, e]; omega) a b (List.Pairwise.imp (fun h => (e _ _).2 h) h) (List.Pairwise.imp (fun h => (e _ _).2 h) k)
  exact List.Pairwise.imp (fun h => (e _ _).1 h) this
theorem mg_split : ∀ (a b : List T) (m : Nat), Sd a → Sd b → m ≤ a.length + b.length → ∃ i p, i + p = m ∧ i ≤ a.length ∧ p ≤ b.length ∧ ((mg a b).take m).Perm (a.take i ++ b.take p) ∧
    (∀ t ∈ b.take p, ∀ u ∈ a.drop i, t.wt < u.wt) ∧ (∀ t ∈ a.take i, ∀ u ∈ b.drop p, t.wt ≤ u.wt) := by
  intro a
  induction a with
  | nil =>
    intro b m _ _ hm
    exact ⟨0, m, by omega, Nat.le_refl _, by simpa using hm, by rw [mg_nil]; simp, fun t _ u hu => by simp at hu, fun t ht => by simp at ht⟩
  | cons x a iha =>
    intro b
    induction b with
    | nil =>
      intro m _ _ hm
      exact ⟨m, 0, by omega, by simpa using hm, Nat.le_refl _, by rw [mg_nil']; simp, fun t ht => by simp at ht, fun t _ u hu => by simp at hu⟩
    | cons y b ihb =>
      intro m ha hb hm
      have ha' := List.pairwise_cons.1 ha
      have hb' := List.pairwise_cons.1 hb
      cases m with
      | zero => exact ⟨0, 0, rfl, Nat.zero_le _, Nat.zero_le _, by simp, fun t ht => by simp at ht, fun t ht => by simp at ht⟩
      | succ m =>
        by_cases h : x.wt ≤ y.wt
        · obtain ⟨i, p, e, h1, h2, h3, h4, h5⟩ := iha (y :: b) m ha'.2 hb (by simp at hm ⊢; omega)
          refine ⟨i + 1, p, by omega, by simpa using h1, h2, ?_, h4, fun t ht u hu => ?_⟩
          · rw [mg_le _ _ h, List.take_succ_cons, List.take_succ_cons, List.cons_append]; exact h3.cons x
          · rw [List.take_succ_cons, List.mem_cons] at ht
            rcases ht with rfl | ht
            · have hu' := List.mem_of_mem_drop hu
              rw [List.mem_cons] at hu'
              rcases hu' with rfl | hu'
              · exact h
              · exact Nat.le_trans h (hb'.1 u hu')
            · exact h5 t ht u hu
        · obtain ⟨i, p, e, h1, h2, h3, h4, h5⟩ := ihb m ha hb'.2 (by simp at hm ⊢; omega)
          refine ⟨i, p + 1, by omega, h1, by simpa using h2, ?_, fun t ht u hu => ?_, h5⟩
          · rw [mg_gt _ _ h, List.take_succ_cons, List.take_succ_cons]
            exact (h3.cons y).trans List.perm_middle.symm
          · rw [List.take_succ_cons, List.mem_cons] at ht
            rcases ht with rfl | ht
            · have hu' := List.mem_of_mem_drop hu
              rw [List.mem_cons] at hu'
              rcases hu' with rfl | hu'
              · omega
              · have := ha'.1 u hu'; omega
            · exact h4 t ht u hu
theorem mg_least : ∀ (a b : List T) (i p : Nat), Sd a → Sd b → i ≤ a.length → p ≤ b.length → ws ((mg a b).take (i + p)) ≤ ws (a.take i) + ws (b.take p) := by
  intro a
  induction a with
  | nil => intro b i p _ _ hi hp; simp at hi; subst hi; rw [mg_nil]; simp [ws]
  | cons x a iha =>
    intro b
    induction b with
    | nil => intro i p _ _ hi hp; simp at hp; subst hp; rw [mg_nil']; simp [ws]
    | cons y b ihb =>
      intro i p ha hb hi hp
      have ha' := List.pairwise_cons.1 ha
      have hb' := List.pairwise_cons.1 hb
      simp only [List.length_cons] at hi hp
      by_cases h : x.wt ≤ y.wt
      · rw [mg_le _ _ h]
        cases i with
        | succ i =>
          have := iha (y :: b) i p ha'.2 hb (by omega) (by simpa using hp)
          rw [show i + 1 + p = i + p + 1 from by omega, List.take_succ_cons, List.take_succ_cons]
          simp only [ws]; omega
        | zero =>
          cases p with
          | zero => simp [ws]
          | succ p =>
            have := iha (y :: b) 0 p ha'.2 hb (by omega) (by simp; omega)
            rw [Nat.zero_add, List.take_succ_cons, List.take_succ_eq_append_getElem (by simp; omega), ws_app, ws, ws]
            have h1 : x.wt ≤ ((y :: b)[p]'(by simp; omega)).wt := by
              cases p with
              | zero => simpa using h
              | succ p => rw [List.getElem_cons_succ]; exact Nat.le_trans h (hb'.1 _ (List.getElem_mem _))
            simp only [Nat.zero_add, List.take_zero, ws, List.take_nil] at this ⊢
            omega
      · rw [mg_gt _ _ h]
        cases p with
        | succ p =>
          have := ihb i p ha hb'.2 (by simpa using hi) (by omega)
          rw [show i + (p + 1) = i + p + 1 from by omega, List.take_succ_cons, List.take_succ_cons]
          simp only [ws]; omega
        | zero =>
          cases i with
          | zero => simp [ws]
          | succ i =>
            have := ihb i 0 ha hb'.2 (by simp; omega) (by omega)
            rw [Nat.add_zero, List.take_succ_cons, List.take_succ_eq_append_getElem (l := x :: a) (by simp; omega), ws_app, ws, ws]
            have h1 : y.wt ≤ ((x :: a)[i]'(by simp; omega)).wt := by
              cases i with
              | zero => simp; omega
              | succ i => rw [List.getElem_cons_succ]; have := ha'.1 _ (List.getElem_mem (l := a) (n := i) (by omega)); omega
            simp only [Nat.add_zero, List.take_zero, ws] at this ⊢
            omega
def row (L : List T) : Nat → List T
  | 0 => L
  | j + 1 => mg L (pk (row L j))
theorem row_sd {L : List T} (h : Sd L) : ∀ j, Sd (row L j)
  | 0 => h
  | j + 1 => mg_sd h (pk_sd _ (row_sd h j))
theorem row_pos {L : List T} (h : ∀ t ∈ L, t.pos) : ∀ j, ∀ t ∈ row L j, t.pos
  | 0 => h
  | j + 1 => fun t ht => by
    rw [row] at ht
    have := (mg_perm _ _).mem_iff.1 ht
    rw [List.mem_append] at this
    rcases this with h1 | h1
    · exact h t h1
    · exact pk_pos _ (row_pos h j) t h1
theorem row_len (L : List T) (j : Nat) : (row L (j + 1)).length = L.length + (row L j).length / 2 := by rw [row, mg_len, pk_len]
theorem row_long (L : List T) : ∀ (j l : Nat), j ≤ l → L.length ≤ 2 ^ (l + 1) → 2 * L.length ≤ (row L j).length + 2 ^ (l + 1 - j) 
  | 0, l, _, h => by simp only [row]; simp; omega
  | j + 1, l, hj, h => by
    have ih := row_long L j l (by omega) h
    rw [row_len]
    rw [show l + 1 - j = (l + 1 - (j + 1)) + 1 from by omega, Nat.pow_succ] at ih
    have : 0 < 2 ^ (l + 1 - (j + 1)) := Nat.two_pow_pos _
    omega
def sumN (f : Nat → Nat) : Nat → Nat
  | 0 => 0
  | k + 1 => sumN f k + f k
structure Sel (L : List T) (j m : Nat) (a : Nat → Nat) : Prop where
  le : ∀ k, a k ≤ L.length
  up : ∀ k, k < j → a k ≤ a (k + 1)
  cl : ∀ s, cl ((row L j).take m) s = sumN (fun k => cl (L.take (a k)) s) (j + 1)
  ws : ws ((row L j).take m) = sumN (fun k => ws (L.take (a k))) (j + 1)
  num : sumN (fun k => a k * 2 ^ k) (j + 1) = m * 2 ^ j
  sub : ∀ t ∈ L.take (a j), t ∈ (row L j).take m
theorem sumN_congr {f g : Nat → Nat} : ∀ n, (∀ k, k < n → f k = g k) → sumN f n = sumN g n
  | 0, _ => rfl
  | n + 1, h => by rw [sumN, sumN, sumN_congr n (fun k hk => h k (by omega)), h n (by omega)]
theorem last_pk {R : List T} {p : Nat} (hs : Sd R) (hp : 0 < p) (hR : 2 * p ≤ R.length) : ∃ x, x ∈ (pk R).take p ∧ ∀ t ∈ R.take (2 * p), t.wt ≤ x.wt := by
  have e := pk_get R (p - 1) (by omega)
  refine ⟨.pack (R[2 * (p - 1)]'(by omega)) (R[2 * (p - 1) + 1]'(by omega)), ?_, fun t ht => ?_⟩
  · rw [List.mem_iff_getElem?]
    exact ⟨p - 1, by rw [List.getElem?_take, if_pos (by omega)]; exact e⟩
  · simp only [T.wt]
    obtain ⟨i, hi⟩ := List.mem_iff_getElem?.1 ht
    rw [List.getElem?_take] at hi
    split at hi
    · rename_i h1
      have hil : i < R.length := by omega
      rw [List.getElem?_eq_getElem hil] at hi
      injection hi with hi
      subst hi
      have := List.pairwise_iff_getElem.1 hs
      by_cases e : i = 2 * (p - 1) + 1
      · subst e; omega
      · have := this i (2 * (p - 1) + 1) hil (by omega) (by omega)
        omega
    · cases hi
theorem sel (L : List T) (hs : Sd L) (hp : ∀ t ∈ L, t.pos) : ∀ (j m : Nat), m ≤ (row L j).length → ∃ a, Sel L j m a := by
  intro j
  induction j with
  | zero =>
    intro m hm
    exact ⟨fun _ => m, fun _ => hm, fun _ h => absurd h (by omega), fun s => by simp [sumN, row], by simp [sumN, row], by simp [sumN], fun t h => h⟩
  | succ j ih =>
    intro m hm
    obtain ⟨i, p, e, h1, h2, h3, h4, h5⟩ := mg_split L (pk (row L j)) m hs (pk_sd _ (row_sd hs j)) (by rw [row_len, ] at hm; rw [pk_len]; exact hm)
    rw [pk_len] at h2
    obtain ⟨a, A⟩ := ih (2 * p) (by omega)
    have hev : ((row L j).take (2 * p)).length % 2 = 0 := by rw [List.length_take]; omega
    have hle : a j ≤ i := by
      by_cases hq : a j ≤ i
      · exact hq
      · exfalso
        have haj := A.le j
        have hmem : L[i]'(by omega) ∈ L.take (a j) := by
          rw [List.mem_iff_getElem?]; exact ⟨i, by rw [List.getElem?_take, if_pos (by omega), List.getElem?_eq_getElem]⟩
        have hm2 := A.sub _ hmem
        have hp0 : 0 < p := by
          by_cases h0 : p = 0
          · subst h0; simp at hm2
          · omega
        obtain ⟨x, hx, hxx⟩ := last_pk (row_sd hs j) hp0 (by omega)
        have q1 := hxx _ hm2
        have q2 := h4 x hx (L[i]'(by omega)) (by rw [List.mem_iff_getElem?]; exact ⟨0, by rw [List.getElem?_drop]; simp⟩)
        omega
    have e2 : (if j + 1 ≤ j then a (j + 1) else i) = i := if_neg (by omega)
    refine ⟨fun k => if k ≤ j then a k else i, fun k => ?_, fun k hk => ?_, fun s => ?_, ?_, ?_, fun t ht => ?_⟩
    · show (if k ≤ j then a k else i) ≤ _
      split
      · exact A.le k
      · exact h1
    · show (if k ≤ j then a k else i) ≤ (if k + 1 ≤ j then a (k + 1) else i)
      rw [if_pos (by omega)]
      by_cases hk2 : k + 1 ≤ j
      · rw [if_pos hk2]; exact A.up k (by omega)
      · rw [if_neg hk2, show k = j from by omega]; exact hle
    · rw [row, cl_perm h3, cl_app, pk_take, pk_cl _ _ hev, A.cl, sumN.eq_2 _ (j + 1)]
      show _ = _ + Pm.cl (L.take (if j + 1 ≤ j then a (j + 1) else i)) s
      rw [e2, Nat.add_comm]
      congr 1
      exact sumN_congr _ fun k hk => by rw [if_pos (show k ≤ j from by omega)]
    · rw [row, ws_perm h3, ws_app, pk_take, pk_ws _ hev, A.ws, sumN.eq_2 _ (j + 1)]
      show _ = _ + Pm.ws (L.take (if j + 1 ≤ j then a (j + 1) else i))
      rw [e2, Nat.add_comm]
      congr 1
      exact sumN_congr _ fun k hk => by rw [if_pos (show k ≤ j from by omega)]
    · rw [sumN.eq_2 _ (j + 1)]
      show _ + (if j + 1 ≤ j then a (j + 1) else i) * 2 ^ (j + 1) = _
      rw [e2, sumN_congr (g := fun k => a k * 2 ^ k) _ (fun k hk => by rw [if_pos (show k ≤ j from by omega)]), A.num, ← e, Nat.add_mul, Nat.pow_succ]
      have : 2 * p * 2 ^ j = p * (2 ^ j * 2) := by rw [Nat.mul_comm 2 p, Nat.mul_assoc, Nat.mul_comm 2]
      omega
    · rw [e2] at ht
      rw [row]
      exact h3.mem_iff.2 (List.mem_append.2 (.inl ht))
end Go.Proofs.YtkdgfioigkijgaaGreat.Pm
set_option maxRecDepth 100000
set_option linter.unusedVariables false
set_option linter.unusedSimpArgs false
namespace Go.Proofs.YtkdgfioigkijgaaGreat.Pm
theorem sumN_zero : ∀ n, sumN (fun _ => 0) n = 0
  | 0 => rfl
  | n + 1 => by rw [sumN, sumN_zero n]
theorem sumN_add (f g : Nat → Nat) : ∀ n, sumN (fun k => f k + g k) n = sumN f n + sumN g n
  | 0 => rfl
  | n + 1 => by simp only [sumN, sumN_add f g n]; omega
theorem sumN_mul (c : Nat) (f : Nat → Nat) : ∀ n, sumN (fun k => c * f k) n = c * sumN f n
  | 0 => rfl
  | n + 1 => by simp only [sumN, sumN_mul c f n, Nat.mul_add]
theorem sumN_le {f g : Nat → Nat} : ∀ n, (∀ k, k < n → f k ≤ g k) → sumN f n ≤ sumN g n
  | 0, _ => Nat.le_refl _
  | n + 1, h => by
    have h1 := sumN_le n (fun k hk => h k (by omega))
    have h2 := h n (by omega)
    simp only [sumN]; omega
def sumL {α : Type} (f : α → Nat) : List α → Nat
  | [] => 0
  | x :: l => f x + sumL f l
theorem sumL_perm {α : Type} {f : α → Nat} {a b : List α} (h : a.Perm b) : sumL f a = sumL f b := by
  induction h with
  | nil => rfl
  | cons x _ ih => simp only [sumL, ih]
  | swap x y l => simp only [sumL]; omega
  | trans _ _ h1 h2 => exact h1.trans h2
theorem sumL_app {α : Type} (f : α → Nat) : ∀ (a b : List α), sumL f (a ++ b) = sumL f a + sumL f b
  | [], b => by simp [sumL]
  | x :: a, b => by simp only [List.cons_append, sumL, sumL_app f a b]; omega
theorem take_least {S L : List T} (h : S.Sublist L) (hs : Sd L) : ws (L.take S.length) ≤ ws S := by
  induction h with
  | slnil => simp [ws]
  | @cons S L x h ih =>
    have hs' := List.pairwise_cons.1 hs
    have ih' := ih hs'.2
    have hle := h.length_le
    cases hn : S.length with
    | zero => simp [ws]
    | succ n =>
      rw [hn] at ih'
      rw [List.take_succ_cons, ws]
      rw [List.take_succ_eq_append_getElem (by omega), ws_app, ws, ws] at ih'
      have := hs'.1 _ (List.getElem_mem (l := L) (n := n) (by omega))
      omega
  | @cons_cons S L x h ih =>
    have hs' := List.pairwise_cons.1 hs
    have ih' := ih hs'.2
    rw [List.length_cons, List.take_succ_cons, ws, ws]
    omega
theorem ws_take_mono (L : List T) {a b : Nat} (h : a ≤ b) : ws (L.take a) ≤ ws (L.take b) := by
  have e : L.take b = L.take a ++ (L.drop a).take (b - a) := by
    rw [← List.take_add, show a + (b - a) = b from by omega]
  rw [e, ws_app]; omega
theorem row_has (L : List T) (c : Nat → Nat) (hc : ∀ i, c i ≤ L.length) : ∀ (k q : Nat), q * 2 ^ k ≤ sumN (fun i => c i * 2 ^ i) (k + 1) → q ≤ (row L k).length
  | 0, q, h => by simp only [sumN, Nat.pow_zero, Nat.mul_one, Nat.zero_add] at h; have := hc 0; rw [row]; omega
  | k + 1, q, h => by
    rw [row_len]
    have hk := hc (k + 1)
    by_cases h1 : q ≤ c (k + 1)
    · omega
    · have := row_has L c hc k (2 * (q - c (k + 1))) (by
        rw [sumN.eq_2 _ (k + 1)] at h
        have e : q * 2 ^ (k + 1) = (q - c (k + 1)) * 2 ^ (k + 1) + c (k + 1) * 2 ^ (k + 1) := by rw [← Nat.add_mul]; congr 1; omega
        have e2 : 2 * (q - c (k + 1)) * 2 ^ k = (q - c (k + 1)) * 2 ^ (k + 1) := by rw [Nat.mul_comm 2, Nat.mul_assoc, Nat.pow_succ, Nat.mul_comm 2]
        omega)
      omega
theorem best (L : List T) (hs : Sd L) (P : Nat → T → Bool) : ∀ (k m : Nat), m * 2 ^ k ≤ sumN (fun i => (L.filter (P i)).length * 2 ^ i) (k + 1) → ws ((row L k).take m) ≤ sumN (fun i => ws (L.filter (P i))) (k + 1)
  | 0, m, h => by
    simp only [sumN, Nat.pow_zero, Nat.mul_one, Nat.zero_add] at h ⊢
    rw [row]
    exact Nat.le_trans (ws_take_mono L h) (take_least List.filter_sublist hs)
  | k + 1, m, h => by
    have hlen : ∀ i, (L.filter (P i)).length ≤ L.length := fun i => List.length_filter_le _ _
    rw [sumN.eq_2 _ (k + 1)] at h ⊢
    have ht := take_least (S := L.filter (P (k + 1))) List.filter_sublist hs
    obtain ⟨c, hc⟩ : ∃ c, c = (L.filter (P (k + 1))).length := ⟨_, rfl⟩
    have hcl := hlen (k + 1)
    rw [← hc] at h ht hcl
    by_cases h1 : m ≤ c
    · have := mg_least L (pk (row L k)) m 0 hs (pk_sd _ (row_sd hs k)) (by omega) (by omega)
      have h2 := ws_take_mono L h1
      simp only [Nat.add_zero, List.take_zero, ws] at this
      rw [row]; omega
    · have e : m * 2 ^ (k + 1) = (m - c) * 2 ^ (k + 1) + c * 2 ^ (k + 1) := by rw [← Nat.add_mul]; congr 1; omega
      have e2 : 2 * (m - c) * 2 ^ k = (m - c) * 2 ^ (k + 1) := by rw [Nat.mul_comm 2, Nat.mul_assoc, Nat.pow_succ, Nat.mul_comm 2]
      have hq : 2 * (m - c) * 2 ^ k ≤ sumN (fun i => (L.filter (P i)).length * 2 ^ i) (k + 1) := by omega
      have ih := best L hs P k (2 * (m - c)) hq
      have hl := row_has L (fun i => (L.filter (P i)).length) hlen k _ hq
      have := mg_least L (pk (row L k)) c (m - c) hs (pk_sd _ (row_sd hs k)) hcl (by rw [pk_len]; omega)
      rw [show c + (m - c) = m from by omega, pk_take, pk_ws _ (by rw [List.length_take]; omega)] at this
      rw [row]; omega
def Leaves (L : List T) (sy : Nat → Nat) : Prop := ∀ r (h : r < L.length), ∃ w, L[r] = .leaf w (sy r)
def Inj (sy : Nat → Nat) (n : Nat) : Prop := ∀ r r', r < n → r' < n → sy r = sy r' → r = r'
theorem cl_take {L : List T} {sy : Nat → Nat} (hl : Leaves L sy) (hi : Inj sy L.length) {r : Nat} (hr : r < L.length) : ∀ m, m ≤ L.length → cl (L.take m) (sy r) = if r < m then 1 else 0
  | 0, _ => by simp [cl]
  | m + 1, h => by
    rw [List.take_succ_eq_append_getElem (by omega), cl_app, cl_take hl hi hr m (by omega)]
    obtain ⟨w, hw⟩ := hl m (by omega)
    rw [hw, cl, cl, T.cnt]
    by_cases e : r = m
    · subst e; rw [if_neg (by omega), if_pos rfl, if_pos (by omega)]
    · rw [if_neg (show ¬ sy m = sy r from fun e2 => e (hi r m hr (by omega) e2.symm))]
      by_cases e2 : r < m
      · rw [if_pos e2, if_pos (by omega)]
      · rw [if_neg e2, if_neg (by omega)]
theorem cl_none {L : List T} {sy : Nat → Nat} (hl : Leaves L sy) {s : Nat} (hs : ∀ r, r < L.length → sy r ≠ s) : ∀ m, cl (L.take m) s = 0
  | 0 => by simp [cl]
  | m + 1 => by
    by_cases h : m < L.length
    · rw [List.take_succ_eq_append_getElem h, cl_app, cl_none hl hs m]
      obtain ⟨w, hw⟩ := hl m h
      rw [hw, cl, cl, T.cnt, if_neg (hs m h)]
    · have := cl_none hl hs m
      rw [List.take_of_length_le (by omega)] at this ⊢
      exact this
def lenR (a : Nat → Nat) (J r : Nat) : Nat := sumN (fun k => if r < a k then 1 else 0) (J + 1)
theorem lenR_le (a : Nat → Nat) (J r : Nat) : lenR a J r ≤ J + 1 := by
  have : ∀ n, sumN (fun k => if r < a k then 1 else 0) n ≤ n := by
    intro n
    induction n with
    | zero => exact Nat.le_refl _
    | succ n ih => rw [sumN]; split <;> omega
  exact this _
theorem lenR_pow (a : Nat → Nat) (r : Nat) : ∀ J, (∀ k, k < J → a k ≤ a (k + 1)) → sumN (fun k => if r < a k then 2 ^ k else 0) (J + 1) + 2 ^ (J + 1 - lenR a J r) = 2 ^ (J + 1)
  | 0, _ => by
    unfold lenR
    by_cases e : r < a 0
    · simp [sumN, e]
    · simp [sumN, e]
  | J + 1, h => by
    have ih := lenR_pow a r J (fun k hk => h k (by omega))
    have hl := lenR_le a J r
    rw [sumN.eq_2 _ (J + 1)]
    unfold lenR at ih hl ⊢
    rw [sumN.eq_2 (fun k => if r < a k then 1 else 0) (J + 1)]
    by_cases e : r < a (J + 1)
    · rw [if_pos e, if_pos e, show J + 1 + 1 - (sumN (fun k => if r < a k then 1 else 0) (J + 1) + 1) = J + 1 - sumN (fun k => if r < a k then 1 else 0) (J + 1) from by omega, Nat.pow_succ 2 (J + 1)]
      omega
    · have hm : ∀ d k, d ≤ J + 1 → k = J + 1 - d → a k ≤ a (J + 1) := by
        intro d
        induction d with
        | zero => intro k _ hk; rw [show k = J + 1 from by omega]; exact Nat.le_refl _
        | succ d ih2 => intro k hd hk; exact Nat.le_trans (h k (by omega)) (ih2 (k + 1) (by omega) (by omega))
      have z : ∀ k, k < J + 1 → ¬ r < a k := fun k hk => by have := hm (J + 1 - k) k (by omega) (by omega); omega
      rw [if_neg e, if_neg e, sumN_congr (g := fun _ => 0) _ (fun k hk => if_neg (z k hk)), sumN_zero, sumN_congr (g := fun _ => 0) _ (fun k hk => if_neg (z k hk)), sumN_zero]
      simp
theorem sumN_lt {a n : Nat} (h : a ≤ n) (c : Nat) : sumN (fun r => if r < a then c else 0) n = a * c := by
  induction n with
  | zero => rw [show a = 0 from by omega]; simp [sumN]
  | succ n ih =>
    rw [sumN]
    by_cases e : a = n + 1
    · subst e
      rw [if_pos (by omega), sumN_congr (g := fun r => if r < n then c else 0) n (fun k hk => by rw [if_pos (by omega), if_pos hk])]
      have : ∀ m, sumN (fun r => if r < m then c else 0) m = m * c := by
        intro m
        rw [sumN_congr (g := fun _ => c) m (fun k hk => if_pos hk)]
        clear ih
        induction m with
        | zero => simp [sumN]
        | succ m ihm => rw [sumN, ihm, Nat.add_mul]; omega
      rw [this, Nat.add_mul]; omega
    · rw [ih (by omega), if_neg (by omega)]; rfl
theorem sumNN (f : Nat → Nat → Nat) (n : Nat) : ∀ m, sumN (fun i => sumN (f i) m) n = sumN (fun j => sumN (fun i => f i j) n) m
  | 0 => sumN_zero n
  | m + 1 => by simp only [sumN]; rw [sumN_add, sumNN f n m]
theorem pm_whole {L : List T} {J : Nat} {a : Nat → Nat} (h : Sel L J (2 * L.length - 2) a) (hn : 2 ≤ L.length) : sumN (fun r => 2 ^ (J + 1 - lenR a J r)) L.length = 2 ^ (J + 1) := by
  have h1 : sumN (fun r => sumN (fun k => if r < a k then 2 ^ k else 0) (J + 1)) L.length = (2 * L.length - 2) * 2 ^ J := by
    rw [sumNN, ← h.num]
    exact sumN_congr _ fun k _ => sumN_lt (h.le k) _
  have h2 : sumN (fun r => sumN (fun k => if r < a k then 2 ^ k else 0) (J + 1) + 2 ^ (J + 1 - lenR a J r)) L.length = L.length * 2 ^ (J + 1) := by
    rw [sumN_congr (g := fun r => if r < L.length then 2 ^ (J + 1) else 0) _ (fun r hr => by rw [if_pos hr]; exact lenR_pow a r J h.up), sumN_lt (Nat.le_refl _)]
  rw [sumN_add, h1] at h2
  have e : (2 * L.length - 2) * 2 ^ J = L.length * 2 ^ (J + 1) - 2 ^ (J + 1) := by
    rw [Nat.sub_mul, Nat.pow_succ]
    have : 2 * L.length * 2 ^ J = L.length * (2 ^ J * 2) := by rw [Nat.mul_comm 2, Nat.mul_assoc, Nat.mul_comm 2]
    omega
  have : 2 ^ (J + 1) ≤ L.length * 2 ^ (J + 1) := Nat.le_mul_of_pos_left _ (by omega)
  omega
theorem sumN_mem {f : Nat → Nat} : ∀ {n r : Nat}, r < n → f r ≤ sumN f n
  | n + 1, r, h => by
    rw [sumN]
    by_cases e : r = n
    · subst e; omega
    · have := sumN_mem (f := f) (n := n) (r := r) (by omega); omega
theorem sumN_mem2 {f : Nat → Nat} {n r s : Nat} (hr : r < n) (hs : s < n) (h : r ≠ s) : f r + f s ≤ sumN f n := by
  induction n with
  | zero => omega
  | succ n ih =>
    rw [sumN]
    by_cases e : r = n
    · subst e; have := sumN_mem (f := f) (n := r) (r := s) (by omega); omega
    · by_cases e2 : s = n
      · subst e2; have := sumN_mem (f := f) (n := s) (r := r) (by omega); omega
      · have := ih (by omega) (by omega); omega
theorem pm_pos {L : List T} {J : Nat} {a : Nat → Nat} (h : Sel L J (2 * L.length - 2) a) (hn : 2 ≤ L.length) {r : Nat} (hr : r < L.length) : 1 ≤ lenR a J r := by
  have h1 := pm_whole h hn
  by_cases e : lenR a J r = 0
  · exfalso
    obtain ⟨s, hs, hne⟩ : ∃ s, s < L.length ∧ r ≠ s := by
      by_cases e0 : r = 0
      · exact ⟨1, by omega, by omega⟩
      · exact ⟨0, by omega, by omega⟩
    have := sumN_mem2 (f := fun r => 2 ^ (J + 1 - lenR a J r)) hr hs hne
    simp only [e, Nat.sub_zero] at this
    have hp : 0 < 2 ^ (J + 1 - lenR a J s) := Nat.two_pow_pos _
    omega
  · omega
end Go.Proofs.YtkdgfioigkijgaaGreat.Pm
set_option maxRecDepth 100000
set_option linter.unusedVariables false
set_option linter.unusedSimpArgs false
namespace Go.Proofs.YtkdgfioigkijgaaGreat.Pm
theorem row_len_le (L : List T) : ∀ j, (row L j).length ≤ 2 * L.length
  | 0 => by simp only [row]; omega
  | j + 1 => by rw [row_len]; have := row_len_le L j; omega
theorem pk_all {P : T → Prop} (hP : ∀ a b, P a → P b → P (.pack a b)) : ∀ (l : List T), (∀ t ∈ l, P t) → ∀ t ∈ pk l, P t
  | [], _, t, h => by simp [pk] at h
  | [a], _, t, h => by simp [pk] at h
  | a :: b :: l, hl, t, h => by
    simp only [pk, List.mem_cons] at h
    rcases h with rfl | h
    · exact hP a b (hl a (by simp)) (hl b (by simp))
    · exact pk_all hP l (fun t ht => hl t (by simp [ht])) t h
theorem row_all {P : T → Prop} (hP : ∀ a b, P a → P b → P (.pack a b)) {L : List T} (h : ∀ t ∈ L, P t) : ∀ j, ∀ t ∈ row L j, P t
  | 0 => h
  | j + 1 => fun t ht => by
    rw [row] at ht
    rcases List.mem_append.1 ((mg_perm _ _).mem_iff.1 ht) with h1 | h1
    · exact h t h1
    · exact pk_all hP _ (row_all hP h j) t h1
theorem pk_wt {M : Nat} : ∀ (l : List T), (∀ t ∈ l, t.wt ≤ M) → ∀ t ∈ pk l, t.wt ≤ 2 * M
  | [], _, t, h => by simp [pk] at h
  | [a], _, t, h => by simp [pk] at h
  | a :: b :: l, hl, t, h => by
    simp only [pk, List.mem_cons] at h
    rcases h with rfl | h
    · have := hl a (by simp); have := hl b (by simp); simp only [T.wt]; omega
    · exact pk_wt l (fun t ht => hl t (by simp [ht])) t h
theorem row_wt {M : Nat} {L : List T} (h : ∀ t ∈ L, t.wt ≤ M) : ∀ j, ∀ t ∈ row L j, t.wt ≤ 2 ^ j * M
  | 0 => fun t ht => by have := h t ht; simp; omega
  | j + 1 => fun t ht => by
    rw [row] at ht
    rcases List.mem_append.1 ((mg_perm _ _).mem_iff.1 ht) with h1 | h1
    · have := h t h1
      have : M ≤ 2 ^ (j + 1) * M := Nat.le_mul_of_pos_left _ (Nat.two_pow_pos _)
      omega
    · have := pk_wt _ (row_wt h j) t h1
      rw [Nat.pow_succ, Nat.mul_comm _ 2, Nat.mul_assoc]; exact this
theorem cl_bd {L : List T} {sy : Nat → Nat} (hl : Leaves L sy) (hi : Inj sy L.length) {J m : Nat} {a : Nat → Nat} (h : Sel L J m a) (s : Nat) : cl ((row L J).take m) s ≤ J + 1 := by
  rw [h.cl]
  have : sumN (fun k => cl (L.take (a k)) s) (J + 1) ≤ sumN (fun _ => 1) (J + 1) := sumN_le _ fun k _ => by
    by_cases e : ∃ r, r < L.length ∧ sy r = s
    · obtain ⟨r, hr, rfl⟩ := e
      rw [cl_take hl hi hr _ (h.le k)]
      split <;> omega
    · rw [cl_none hl (fun r hr he => e ⟨r, hr, he⟩)]; omega
  have e : ∀ n, sumN (fun _ => 1) n = n := by
    intro n
    induction n with
    | zero => rfl
    | succ n ih => rw [sumN, ih]
  rw [e] at this
  exact this
theorem cl_len {L : List T} {sy : Nat → Nat} (hl : Leaves L sy) (hi : Inj sy L.length) {J m : Nat} {a : Nat → Nat} (h : Sel L J m a) {r : Nat} (hr : r < L.length) : cl ((row L J).take m) (sy r) = lenR a J r := by
  rw [h.cl]
  exact sumN_congr _ fun k _ => cl_take hl hi hr _ (h.le k)
theorem mg_cut : ∀ (a b : List T) (k m : Nat), m - k ≤ a.length → (∀ y ∈ b.drop k, ∀ x ∈ a.take (m - k), x.wt ≤ y.wt) → (mg a b).take m = (mg a (b.take k)).take m := by
  intro a
  induction a with
  | nil =>
    intro b k m h1 h2
    simp only [List.length_nil, Nat.le_zero_eq] at h1
    rw [mg_nil, mg_nil, List.take_take, Nat.min_eq_left (by omega)]
  | cons x a iha =>
    intro b
    induction b with
    | nil => intro k m h1 h2; simp
    | cons y b ihb =>
      intro k m h1 h2
      cases m with
      | zero => simp
      | succ m =>
        cases k with
        | zero =>
          have hx := h2 y (by simp) x (by simp)
          rw [mg_le _ _ hx, List.take_zero, mg_nil', List.take_succ_cons, List.take_succ_cons]
          congr 1
          have := iha (y :: b) 0 m (by simp at h1; omega) (fun z hz u hu => h2 z hz u (by simp only [Nat.sub_zero, List.take_succ_cons] at hu ⊢; exact List.mem_cons_of_mem _ hu))
          rw [List.take_zero, mg_nil'] at this
          exact this
        | succ k =>
          rw [List.take_succ_cons]
          by_cases hxy : x.wt ≤ y.wt
          · rw [mg_le _ _ hxy, mg_le _ _ hxy, List.take_succ_cons, List.take_succ_cons]
            congr 1
            have := iha (y :: b) (k + 1) m (by simp at h1; omega) (fun z hz u hu => by
              by_cases e : m - (k + 1) = 0
              · rw [e] at hu; simp at hu
              · refine h2 z hz u ?_
                rw [show m + 1 - (k + 1) = (m - (k + 1)) + 1 from by omega, List.take_succ_cons]
                exact List.mem_cons_of_mem _ hu)
            rw [List.take_succ_cons] at this
            exact this
          · rw [mg_gt _ _ hxy, mg_gt _ _ hxy, List.take_succ_cons, List.take_succ_cons]
            congr 1
            exact ihb k m (by omega) (fun z hz u hu => h2 z (by simpa using hz) u (by rw [show m + 1 - (k + 1) = m - k from by omega]; exact hu))
theorem take_le {R : List T} (hs : Sd R) {i : Nat} (hi : i < R.length) : ∀ x ∈ R.take i, x.wt ≤ R[i].wt := by
  intro x hx
  obtain ⟨j, hj⟩ := List.mem_iff_getElem?.1 hx
  rw [List.getElem?_take] at hj
  split at hj
  · rename_i h1
    rw [List.getElem?_eq_getElem (by omega)] at hj
    injection hj with hj
    subst hj
    exact List.pairwise_iff_getElem.1 hs j i (by omega) hi h1
  · cases hj
theorem row_leaves {L : List T} (hs : Sd L) (hn : 2 ≤ L.length) : ∀ j, ∀ x ∈ L.take (L.length - 1), x ∈ (row L j).take (2 * L.length - 2) := by
  intro j
  induction j with
  | zero =>
    intro x hx
    rw [row, List.take_of_length_le (by omega)]
    exact List.mem_of_mem_take hx
  | succ j ih =>
    intro x hx
    by_cases hlen : 2 * L.length - 2 ≤ L.length + (pk (row L j)).length
    · obtain ⟨i, p, e, h1, h2, h3, h4, h5⟩ := mg_split L (pk (row L j)) (2 * L.length - 2) hs (pk_sd _ (row_sd hs j)) hlen
      rw [row]
      refine h3.mem_iff.2 (List.mem_append.2 (.inl ?_))
      have hi : L.length - 1 ≤ i := by
        by_cases hq : L.length - 1 ≤ i
        · exact hq
        · exfalso
          rw [pk_len] at h2
          have e1 := pk_get (row L j) (L.length - 1) (by omega)
          have m1 : L[i]'(by omega) ∈ L.take (L.length - 1) := by
            rw [List.mem_iff_getElem?]; exact ⟨i, by rw [List.getElem?_take, if_pos (by omega), List.getElem?_eq_getElem]⟩
          have m2 := ih _ m1
          have q1 := take_le (row_sd hs j) (i := 2 * L.length - 2) (by omega) _ m2
          have q2 := h4 _ (show _ ∈ (pk (row L j)).take p from by
            rw [List.mem_iff_getElem?]
            exact ⟨L.length - 1, by rw [List.getElem?_take, if_pos (by omega)]; exact e1⟩) (L[i]'(by omega)) (by rw [List.mem_iff_getElem?]; exact ⟨0, by rw [List.getElem?_drop]; simp⟩)
          simp only [T.wt] at q2
          simp only [show 2 * (L.length - 1) = 2 * L.length - 2 from by omega] at q2
          omega
      obtain ⟨r, hr⟩ := List.mem_iff_getElem?.1 hx
      rw [List.getElem?_take] at hr
      split at hr
      · rw [List.mem_iff_getElem?]; exact ⟨r, by rw [List.getElem?_take, if_pos (by omega)]; exact hr⟩
      · cases hr
    · rw [row, List.take_of_length_le (by rw [mg_len]; omega)]
      exact (mg_perm _ _).mem_iff.2 (List.mem_append.2 (.inl (List.mem_of_mem_take hx)))
def rrow (L : List T) : Nat → List T
  | 0 => L
  | j + 1 => (mg L (pk (rrow L j))).take (2 * L.length - 2)
theorem rrow_eq {L : List T} (hs : Sd L) (hn : 2 ≤ L.length) : ∀ j, rrow L j = (row L j).take (2 * L.length - 2)
  | 0 => by rw [rrow, row, List.take_of_length_le (by omega)]
  | j + 1 => by
    rw [rrow, row, rrow_eq hs hn j]
    have e := pk_take (L.length - 1) (row L j)
    rw [show 2 * (L.length - 1) = 2 * L.length - 2 from by omega] at e
    rw [← e]
    refine (mg_cut L (pk (row L j)) (L.length - 1) (2 * L.length - 2) (by omega) (fun y hy x hx => ?_)).symm
    rw [show 2 * L.length - 2 - (L.length - 1) = L.length - 1 from by omega] at hx
    obtain ⟨t, ht⟩ := List.mem_iff_getElem?.1 hy
    rw [List.getElem?_drop] at ht
    have hlt : L.length - 1 + t < (pk (row L j)).length := by
      by_cases h : L.length - 1 + t < (pk (row L j)).length
      · exact h
      · rw [List.getElem?_eq_none (by omega)] at ht; cases ht
    rw [pk_len] at hlt
    have e1 := pk_get (row L j) (L.length - 1 + t) (by omega)
    rw [e1] at ht
    injection ht with ht
    subst ht
    have q1 := take_le (row_sd hs j) (i := 2 * (L.length - 1 + t)) (by omega) x (by
      have := row_leaves hs hn j x hx
      obtain ⟨r, hr⟩ := List.mem_iff_getElem?.1 this
      rw [List.getElem?_take] at hr
      split at hr
      · rw [List.mem_iff_getElem?]; exact ⟨r, by rw [List.getElem?_take, if_pos (by omega)]; exact hr⟩
      · cases hr)
    simp only [T.wt]
    omega
theorem long (L : List T) (J : Nat) (h : L.length ≤ 2 ^ (J + 1)) : 2 * L.length - 2 ≤ (row L J).length := by
  have := row_long L J J (Nat.le_refl _) h
  rw [show J + 1 - J = 1 from by omega] at this
  omega
end Go.Proofs.YtkdgfioigkijgaaGreat.Pm
