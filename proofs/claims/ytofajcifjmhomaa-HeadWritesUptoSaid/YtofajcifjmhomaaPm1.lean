/- Package-merge, plain: trees, rows, what the first items of a row are. Plain Lean, no condition. -/
set_option linter.unusedVariables false
set_option linter.unusedSimpArgs false
namespace Go.Proofs.Ytofajcifjmhomaa.Pm

/-- A leaf (its count and its symbol), or a package. -/
inductive T where
  | leaf (w s : Nat)
  | pack (a b : T)
def T.wt : T → Nat
  | .leaf w _ => w
  | .pack a b => a.wt + b.wt
/-- how often a symbol's leaf is in it -/
def T.cnt : T → Nat → Nat
  | .leaf _ s, k => if s = k then 1 else 0
  | .pack a b, k => a.cnt k + b.cnt k
def T.pos : T → Prop
  | .leaf w _ => 0 < w
  | .pack a b => a.pos ∧ b.pos
theorem T.pos_wt : ∀ (t : T), t.pos → 0 < t.wt
  | .leaf w _, h => h
  | .pack a b, h => by have := T.pos_wt a h.1; simp only [T.wt]; omega
def le (a b : T) : Bool := decide (a.wt ≤ b.wt)
def Sd (l : List T) : Prop := l.Pairwise (fun a b => a.wt ≤ b.wt)
/-- all that they weigh -/
def ws : List T → Nat
  | [] => 0
  | t :: l => t.wt + ws l
def cl : List T → Nat → Nat
  | [], _ => 0
  | t :: l, k => t.cnt k + cl l k
theorem ws_app (a b : List T) : ws (a ++ b) = ws a + ws b := by
  induction a with
  | nil => simp [ws]
  | cons t a ih => simp only [List.cons_append, ws, ih]; omega
theorem cl_app (a b : List T) (k : Nat) : cl (a ++ b) k = cl a k + cl b k := by
  induction a with
  | nil => simp [cl]
  | cons t a ih => simp only [List.cons_append, cl, ih]; omega
theorem ws_perm {a b : List T} (h : a.Perm b) : ws a = ws b := by
  induction h with
  | nil => rfl
  | cons x _ ih => simp only [ws, ih]
  | swap x y l => simp only [ws]; omega
  | trans _ _ h1 h2 => exact h1.trans h2
theorem cl_perm {a b : List T} (h : a.Perm b) (k : Nat) : cl a k = cl b k := by
  induction h with
  | nil => rfl
  | cons x _ ih => simp only [cl, ih]
  | swap x y l => simp only [cl]; omega
  | trans _ _ h1 h2 => exact h1.trans h2
def pk : List T → List T
  | a :: b :: l => .pack a b :: pk l
  | _ => []
theorem pk_len : ∀ (l : List T), (pk l).length = l.length / 2
  | [] => rfl
  | [_] => by simp [pk]
  | a :: b :: l => by simp only [pk, List.length_cons, pk_len l]; omega
theorem pk_take : ∀ (p : Nat) (l : List T), (pk l).take p = pk (l.take (2 * p))
  | 0, l => by simp [pk]
  | p + 1, [] => by simp [pk]
  | p + 1, [a] => by rw [show 2 * (p + 1) = 2 * p + 1 + 1 from by omega]; simp [pk]
  | p + 1, a :: b :: l => by
    rw [show 2 * (p + 1) = 2 * p + 1 + 1 from by omega, List.take_succ_cons, List.take_succ_cons, pk, pk, List.take_succ_cons, pk_take p l]
theorem pk_ws : ∀ (l : List T), l.length % 2 = 0 → ws (pk l) = ws l
  | [], _ => rfl
  | [a], h => by simp at h
  | a :: b :: l, h => by simp only [pk, ws, T.wt, pk_ws l (by simp at h; omega)]; omega
theorem pk_cl : ∀ (l : List T) (k : Nat), l.length % 2 = 0 → cl (pk l) k = cl l k
  | [], k, _ => rfl
  | [a], k, h => by simp at h
  | a :: b :: l, k, h => by simp only [pk, cl, T.cnt, pk_cl l k (by simp at h; omega)]; omega
theorem pk_get : ∀ (l : List T) (i : Nat) (h : 2 * i + 1 < l.length), (pk l)[i]? = some (.pack l[2 * i] l[2 * i + 1])
  | [], i, h => by simp at h
  | [a], i, h => by simp at h
  | a :: b :: l, 0, h => by simp [pk]
  | a :: b :: l, i + 1, h => by
    rw [pk, List.getElem?_cons_succ, pk_get l i (by simp at h; omega)]
    simp only [show 2 * (i + 1) = 2 * i + 1 + 1 from by omega, List.getElem_cons_succ]
theorem pk_pos : ∀ (l : List T), (∀ t ∈ l, t.pos) → ∀ t ∈ pk l, t.pos
  | [], _, t, h => by simp [pk] at h
  | [a], _, t, h => by simp [pk] at h
  | a :: b :: l, hl, t, h => by
    simp only [pk, List.mem_cons] at h
    rcases h with rfl | h
    · exact ⟨hl a (by simp), hl b (by simp)⟩
    · exact pk_pos l (fun t ht => hl t (by simp [ht])) t h
theorem pk_sd : ∀ (l : List T), Sd l → Sd (pk l)
  | [], _ => by simp [pk, Sd]
  | [a], _ => by simp [pk, Sd]
  | a :: b :: l, h => by
    unfold Sd at h
    simp only [List.pairwise_cons, List.mem_cons] at h
    obtain ⟨h1, h2, h3⟩ := h
    unfold Sd
    rw [pk, List.pairwise_cons]
    refine ⟨fun t ht => ?_, pk_sd l h3⟩
    have : ∀ (m : List T), (∀ x ∈ m, a.wt ≤ x.wt) → (∀ x ∈ m, b.wt ≤ x.wt) → ∀ t ∈ pk m, (T.pack a b).wt ≤ t.wt := by
      intro m
      induction m using pk.induct with
      | case1 x y m ih =>
        intro m1 m2 t ht
        simp only [pk, List.mem_cons] at ht
        rcases ht with rfl | ht
        · have := m1 x (by simp); have := m2 y (by simp); simp only [T.wt]; omega
        · exact ih (fun z hz => m1 z (by simp [hz])) (fun z hz => m2 z (by simp [hz])) t ht
      | case2 m hm =>
        intro m1 m2 t ht
        cases m with
        | nil => simp [pk] at ht
        | cons x m => cases m with
          | nil => simp [pk] at ht
          | cons y m => exact absurd rfl (hm x y m)
    exact this l (fun x hx => h1 x (.inr hx)) h2 t ht
/-- leaves and packages by their weights, leaves first -/
def mg (a b : List T) : List T := a.merge b le
theorem mg_nil (b : List T) : mg [] b = b := List.nil_merge _
theorem mg_nil' (a : List T) : mg a [] = a := List.merge_right _
theorem mg_le {x y : T} (a b : List T) (h : x.wt ≤ y.wt) : mg (x :: a) (y :: b) = x :: mg a (y :: b) := by
  unfold mg; rw [List.cons_merge_cons, if_pos (by unfold le; simpa using h)]
theorem mg_gt {x y : T} (a b : List T) (h : ¬ x.wt ≤ y.wt) : mg (x :: a) (y :: b) = y :: mg (x :: a) b := by
  unfold mg; rw [List.cons_merge_cons, if_neg (by unfold le; simpa using h)]
theorem mg_perm (a b : List T) : (mg a b).Perm (a ++ b) := List.merge_perm_append le
theorem mg_len (a b : List T) : (mg a b).length = a.length + b.length := by rw [(mg_perm a b).length_eq, List.length_append]
theorem mg_sd {a b : List T} (h : Sd a) (k : Sd b) : Sd (mg a b) := by
  have e : ∀ x y : T, le x y = true ↔ x.wt ≤ y.wt := fun x y => by unfold le; simp
  have := List.pairwise_merge (le := le) (fun a b c => by rw [e, e, e]; omega) (fun a b => by rw [Bool.or_eq_true, e, e]; omega) a b (List.Pairwise.imp (fun h => (e _ _).2 h) h) (List.Pairwise.imp (fun h => (e _ _).2 h) k)
  exact List.Pairwise.imp (fun h => (e _ _).1 h) this
/-- what the first m of the two together are: the first of the one and of the other -/
theorem mg_split : ∀ (a b : List T) (m : Nat), Sd a → Sd b → m ≤ a.length + b.length → ∃ i p, i + p = m ∧ i ≤ a.length ∧ p ≤ b.length ∧ ((mg a b).take m).Perm (a.take i ++ b.take p) ∧
    (∀ t ∈ b.take p, ∀ u ∈ a.drop i, t.wt < u.wt) ∧ (∀ t ∈ a.take i, ∀ u ∈ b.drop p, t.wt ≤ u.wt) := by
  intro a
  induction a with
  | nil =>
    intro b m _ _ hm
    exact ⟨0, m, by omega, Nat.le_refl _, by simpa using hm, by rw [mg_nil]; simp, fun t _ u hu => by simp at hu, fun t ht => by simp at ht⟩
  | cons x a iha =>
    intro b
    induction b with
    | nil =>
      intro m _ _ hm
      exact ⟨m, 0, by omega, by simpa using hm, Nat.le_refl _, by rw [mg_nil']; simp, fun t ht => by simp at ht, fun t _ u hu => by simp at hu⟩
    | cons y b ihb =>
      intro m ha hb hm
      have ha' := List.pairwise_cons.1 ha
      have hb' := List.pairwise_cons.1 hb
      cases m with
      | zero => exact ⟨0, 0, rfl, Nat.zero_le _, Nat.zero_le _, by simp, fun t ht => by simp at ht, fun t ht => by simp at ht⟩
      | succ m =>
        by_cases h : x.wt ≤ y.wt
        · obtain ⟨i, p, e, h1, h2, h3, h4, h5⟩ := iha (y :: b) m ha'.2 hb (by simp at hm ⊢; omega)
          refine ⟨i + 1, p, by omega, by simpa using h1, h2, ?_, h4, fun t ht u hu => ?_⟩
          · rw [mg_le _ _ h, List.take_succ_cons, List.take_succ_cons, List.cons_append]; exact h3.cons x
          · rw [List.take_succ_cons, List.mem_cons] at ht
            rcases ht with rfl | ht
            · have hu' := List.mem_of_mem_drop hu
              rw [List.mem_cons] at hu'
              rcases hu' with rfl | hu'
              · exact h
              · exact Nat.le_trans h (hb'.1 u hu')
            · exact h5 t ht u hu
        · obtain ⟨i, p, e, h1, h2, h3, h4, h5⟩ := ihb m ha hb'.2 (by simp at hm ⊢; omega)
          refine ⟨i, p + 1, by omega, h1, by simpa using h2, ?_, fun t ht u hu => ?_, h5⟩
          · rw [mg_gt _ _ h, List.take_succ_cons, List.take_succ_cons]
            exact (h3.cons y).trans List.perm_middle.symm
          · rw [List.take_succ_cons, List.mem_cons] at ht
            rcases ht with rfl | ht
            · have hu' := List.mem_of_mem_drop hu
              rw [List.mem_cons] at hu'
              rcases hu' with rfl | hu'
              · omega
              · have := ha'.1 u hu'; omega
            · exact h4 t ht u hu
/-- no choice of as many from both weighs less -/
theorem mg_least : ∀ (a b : List T) (i p : Nat), Sd a → Sd b → i ≤ a.length → p ≤ b.length → ws ((mg a b).take (i + p)) ≤ ws (a.take i) + ws (b.take p) := by
  intro a
  induction a with
  | nil => intro b i p _ _ hi hp; simp at hi; subst hi; rw [mg_nil]; simp [ws]
  | cons x a iha =>
    intro b
    induction b with
    | nil => intro i p _ _ hi hp; simp at hp; subst hp; rw [mg_nil']; simp [ws]
    | cons y b ihb =>
      intro i p ha hb hi hp
      have ha' := List.pairwise_cons.1 ha
      have hb' := List.pairwise_cons.1 hb
      simp only [List.length_cons] at hi hp
      by_cases h : x.wt ≤ y.wt
      · rw [mg_le _ _ h]
        cases i with
        | succ i =>
          have := iha (y :: b) i p ha'.2 hb (by omega) (by simpa using hp)
          rw [show i + 1 + p = i + p + 1 from by omega, List.take_succ_cons, List.take_succ_cons]
          simp only [ws]; omega
        | zero =>
          cases p with
          | zero => simp [ws]
          | succ p =>
            have := iha (y :: b) 0 p ha'.2 hb (by omega) (by simp; omega)
            rw [Nat.zero_add, List.take_succ_cons, List.take_succ_eq_append_getElem (by simp; omega), ws_app, ws, ws]
            have h1 : x.wt ≤ ((y :: b)[p]'(by simp; omega)).wt := by
              cases p with
              | zero => simpa using h
              | succ p => rw [List.getElem_cons_succ]; exact Nat.le_trans h (hb'.1 _ (List.getElem_mem _))
            simp only [Nat.zero_add, List.take_zero, ws, List.take_nil] at this ⊢
            omega
      · rw [mg_gt _ _ h]
        cases p with
        | succ p =>
          have := ihb i p ha hb'.2 (by simpa using hi) (by omega)
          rw [show i + (p + 1) = i + p + 1 from by omega, List.take_succ_cons, List.take_succ_cons]
          simp only [ws]; omega
        | zero =>
          cases i with
          | zero => simp [ws]
          | succ i =>
            have := ihb i 0 ha hb'.2 (by simp; omega) (by omega)
            rw [Nat.add_zero, List.take_succ_cons, List.take_succ_eq_append_getElem (l := x :: a) (by simp; omega), ws_app, ws, ws]
            have h1 : y.wt ≤ ((x :: a)[i]'(by simp; omega)).wt := by
              cases i with
              | zero => simp; omega
              | succ i => rw [List.getElem_cons_succ]; have := ha'.1 _ (List.getElem_mem (l := a) (n := i) (by omega)); omega
            simp only [Nat.add_zero, List.take_zero, ws] at this ⊢
            omega
/-- the rows, the first first -/
def row (L : List T) : Nat → List T
  | 0 => L
  | j + 1 => mg L (pk (row L j))
theorem row_sd {L : List T} (h : Sd L) : ∀ j, Sd (row L j)
  | 0 => h
  | j + 1 => mg_sd h (pk_sd _ (row_sd h j))
theorem row_pos {L : List T} (h : ∀ t ∈ L, t.pos) : ∀ j, ∀ t ∈ row L j, t.pos
  | 0 => h
  | j + 1 => fun t ht => by
    rw [row] at ht
    have := (mg_perm _ _).mem_iff.1 ht
    rw [List.mem_append] at this
    rcases this with h1 | h1
    · exact h t h1
    · exact pk_pos _ (row_pos h j) t h1
theorem row_len (L : List T) (j : Nat) : (row L (j + 1)).length = L.length + (row L j).length / 2 := by rw [row, mg_len, pk_len]
/-- it is long enough -/
theorem row_long (L : List T) : ∀ (j l : Nat), j ≤ l → L.length ≤ 2 ^ (l + 1) → 2 * L.length ≤ (row L j).length + 2 ^ (l + 1 - j) 
  | 0, l, _, h => by simp only [row]; simp; omega
  | j + 1, l, hj, h => by
    have ih := row_long L j l (by omega) h
    rw [row_len]
    rw [show l + 1 - j = (l + 1 - (j + 1)) + 1 from by omega, Nat.pow_succ] at ih
    have : 0 < 2 ^ (l + 1 - (j + 1)) := Nat.two_pow_pos _
    omega
def sumN (f : Nat → Nat) : Nat → Nat
  | 0 => 0
  | k + 1 => sumN f k + f k
/-- how the first m of a row are chosen: of each row ahead so many leaves -/
structure Sel (L : List T) (j m : Nat) (a : Nat → Nat) : Prop where
  le : ∀ k, a k ≤ L.length
  up : ∀ k, k < j → a k ≤ a (k + 1)
  cl : ∀ s, cl ((row L j).take m) s = sumN (fun k => cl (L.take (a k)) s) (j + 1)
  ws : ws ((row L j).take m) = sumN (fun k => ws (L.take (a k))) (j + 1)
  num : sumN (fun k => a k * 2 ^ k) (j + 1) = m * 2 ^ j
  sub : ∀ t ∈ L.take (a j), t ∈ (row L j).take m
theorem sumN_congr {f g : Nat → Nat} : ∀ n, (∀ k, k < n → f k = g k) → sumN f n = sumN g n
  | 0, _ => rfl
  | n + 1, h => by rw [sumN, sumN, sumN_congr n (fun k hk => h k (by omega)), h n (by omega)]
theorem last_pk {R : List T} {p : Nat} (hs : Sd R) (hp : 0 < p) (hR : 2 * p ≤ R.length) : ∃ x, x ∈ (pk R).take p ∧ ∀ t ∈ R.take (2 * p), t.wt ≤ x.wt := by
  have e := pk_get R (p - 1) (by omega)
  refine ⟨.pack (R[2 * (p - 1)]'(by omega)) (R[2 * (p - 1) + 1]'(by omega)), ?_, fun t ht => ?_⟩
  · rw [List.mem_iff_getElem?]
    exact ⟨p - 1, by rw [List.getElem?_take, if_pos (by omega)]; exact e⟩
  · simp only [T.wt]
    obtain ⟨i, hi⟩ := List.mem_iff_getElem?.1 ht
    rw [List.getElem?_take] at hi
    split at hi
    · rename_i h1
      have hil : i < R.length := by omega
      rw [List.getElem?_eq_getElem hil] at hi
      injection hi with hi
      subst hi
      have := List.pairwise_iff_getElem.1 hs
      by_cases e : i = 2 * (p - 1) + 1
      · subst e; omega
      · have := this i (2 * (p - 1) + 1) hil (by omega) (by omega)
        omega
    · cases hi
theorem sel (L : List T) (hs : Sd L) (hp : ∀ t ∈ L, t.pos) : ∀ (j m : Nat), m ≤ (row L j).length → ∃ a, Sel L j m a := by
  intro j
  induction j with
  | zero =>
    intro m hm
    exact ⟨fun _ => m, fun _ => hm, fun _ h => absurd h (by omega), fun s => by simp [sumN, row], by simp [sumN, row], by simp [sumN], fun t h => h⟩
  | succ j ih =>
    intro m hm
    obtain ⟨i, p, e, h1, h2, h3, h4, h5⟩ := mg_split L (pk (row L j)) m hs (pk_sd _ (row_sd hs j)) (by rw [row_len, ] at hm; rw [pk_len]; exact hm)
    rw [pk_len] at h2
    obtain ⟨a, A⟩ := ih (2 * p) (by omega)
    have hev : ((row L j).take (2 * p)).length % 2 = 0 := by rw [List.length_take]; omega
    have hle : a j ≤ i := by
      by_cases hq : a j ≤ i
      · exact hq
      · exfalso
        have haj := A.le j
        have hmem : L[i]'(by omega) ∈ L.take (a j) := by
          rw [List.mem_iff_getElem?]; exact ⟨i, by rw [List.getElem?_take, if_pos (by omega), List.getElem?_eq_getElem]⟩
        have hm2 := A.sub _ hmem
        have hp0 : 0 < p := by
          by_cases h0 : p = 0
          · subst h0; simp at hm2
          · omega
        obtain ⟨x, hx, hxx⟩ := last_pk (row_sd hs j) hp0 (by omega)
        have q1 := hxx _ hm2
        have q2 := h4 x hx (L[i]'(by omega)) (by rw [List.mem_iff_getElem?]; exact ⟨0, by rw [List.getElem?_drop]; simp⟩)
        omega
    have e2 : (if j + 1 ≤ j then a (j + 1) else i) = i := if_neg (by omega)
    refine ⟨fun k => if k ≤ j then a k else i, fun k => ?_, fun k hk => ?_, fun s => ?_, ?_, ?_, fun t ht => ?_⟩
    · show (if k ≤ j then a k else i) ≤ _
      split
      · exact A.le k
      · exact h1
    · show (if k ≤ j then a k else i) ≤ (if k + 1 ≤ j then a (k + 1) else i)
      rw [if_pos (by omega)]
      by_cases hk2 : k + 1 ≤ j
      · rw [if_pos hk2]; exact A.up k (by omega)
      · rw [if_neg hk2, show k = j from by omega]; exact hle
    · rw [row, cl_perm h3, cl_app, pk_take, pk_cl _ _ hev, A.cl, sumN.eq_2 _ (j + 1)]
      show _ = _ + Pm.cl (L.take (if j + 1 ≤ j then a (j + 1) else i)) s
      rw [e2, Nat.add_comm]
      congr 1
      exact sumN_congr _ fun k hk => by rw [if_pos (show k ≤ j from by omega)]
    · rw [row, ws_perm h3, ws_app, pk_take, pk_ws _ hev, A.ws, sumN.eq_2 _ (j + 1)]
      show _ = _ + Pm.ws (L.take (if j + 1 ≤ j then a (j + 1) else i))
      rw [e2, Nat.add_comm]
      congr 1
      exact sumN_congr _ fun k hk => by rw [if_pos (show k ≤ j from by omega)]
    · rw [sumN.eq_2 _ (j + 1)]
      show _ + (if j + 1 ≤ j then a (j + 1) else i) * 2 ^ (j + 1) = _
      rw [e2, sumN_congr (g := fun k => a k * 2 ^ k) _ (fun k hk => by rw [if_pos (show k ≤ j from by omega)]), A.num, ← e, Nat.add_mul, Nat.pow_succ]
      have : 2 * p * 2 ^ j = p * (2 ^ j * 2) := by rw [Nat.mul_comm 2 p, Nat.mul_assoc, Nat.mul_comm 2]
      omega
    · rw [e2] at ht
      rw [row]
      exact h3.mem_iff.2 (List.mem_append.2 (.inl ht))
end Go.Proofs.Ytofajcifjmhomaa.Pm
