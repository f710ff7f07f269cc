/- Package-merge, plain: it is the best; what it chooses takes the whole space. Plain Lean, no condition. -/
import Derived.Test.YtofajcifjmhomaaPm1
set_option maxRecDepth 100000
set_option linter.unusedVariables false
set_option linter.unusedSimpArgs false
namespace Go.Proofs.Ytofajcifjmhomaa.Pm

theorem sumN_zero : ∀ n, sumN (fun _ => 0) n = 0
  | 0 => rfl
  | n + 1 => by rw [sumN, sumN_zero n]
theorem sumN_add (f g : Nat → Nat) : ∀ n, sumN (fun k => f k + g k) n = sumN f n + sumN g n
  | 0 => rfl
  | n + 1 => by simp only [sumN, sumN_add f g n]; omega
theorem sumN_mul (c : Nat) (f : Nat → Nat) : ∀ n, sumN (fun k => c * f k) n = c * sumN f n
  | 0 => rfl
  | n + 1 => by simp only [sumN, sumN_mul c f n, Nat.mul_add]
theorem sumN_le {f g : Nat → Nat} : ∀ n, (∀ k, k < n → f k ≤ g k) → sumN f n ≤ sumN g n
  | 0, _ => Nat.le_refl _
  | n + 1, h => by
    have h1 := sumN_le n (fun k hk => h k (by omega))
    have h2 := h n (by omega)
    simp only [sumN]; omega
/-- the sum over a list -/
def sumL {α : Type} (f : α → Nat) : List α → Nat
  | [] => 0
  | x :: l => f x + sumL f l
theorem sumL_perm {α : Type} {f : α → Nat} {a b : List α} (h : a.Perm b) : sumL f a = sumL f b := by
  induction h with
  | nil => rfl
  | cons x _ ih => simp only [sumL, ih]
  | swap x y l => simp only [sumL]; omega
  | trans _ _ h1 h2 => exact h1.trans h2
theorem sumL_congr {α : Type} {f g : α → Nat} : ∀ (l : List α), (∀ x ∈ l, f x = g x) → sumL f l = sumL g l
  | [], _ => rfl
  | x :: l, h => by rw [sumL, sumL, h x (by simp), sumL_congr l (fun y hy => h y (by simp [hy]))]
theorem sumL_le {α : Type} {f g : α → Nat} : ∀ (l : List α), (∀ x ∈ l, f x ≤ g x) → sumL f l ≤ sumL g l
  | [], _ => Nat.le_refl _
  | x :: l, h => by
    have := h x (by simp)
    have := sumL_le l (fun y hy => h y (by simp [hy]))
    simp only [sumL]; omega
theorem sumL_add {α : Type} (f g : α → Nat) : ∀ (l : List α), sumL (fun x => f x + g x) l = sumL f l + sumL g l
  | [] => rfl
  | x :: l => by simp only [sumL, sumL_add f g l]; omega
theorem sumL_const {α : Type} (c : Nat) : ∀ (l : List α), sumL (fun _ => c) l = l.length * c
  | [] => by simp [sumL]
  | x :: l => by simp only [sumL, sumL_const c l, List.length_cons, Nat.add_mul]; omega
theorem sumL_app {α : Type} (f : α → Nat) : ∀ (a b : List α), sumL f (a ++ b) = sumL f a + sumL f b
  | [], b => by simp [sumL]
  | x :: a, b => by simp only [List.cons_append, sumL, sumL_app f a b]; omega
theorem sumL_mem {α : Type} {f : α → Nat} : ∀ {l : List α} {x : α}, x ∈ l → f x ≤ sumL f l
  | y :: l, x, h => by
    rcases List.mem_cons.1 h with rfl | h
    · simp only [sumL]; omega
    · have := sumL_mem (f := f) h; simp only [sumL]; omega
theorem ws_sumL : ∀ (l : List T), ws l = sumL T.wt l
  | [] => rfl
  | x :: l => by rw [ws, sumL, ws_sumL l]
/-- the two sums exchanged -/
theorem sum_swap {α : Type} (f : Nat → α → Nat) (n : Nat) : ∀ (l : List α), sumN (fun i => sumL (f i) l) n = sumL (fun x => sumN (fun i => f i x) n) l
  | [] => by simp only [sumL]; exact sumN_zero n
  | x :: l => by simp only [sumL]; rw [sumN_add, sum_swap f n l]
theorem filter_sum {α : Type} (P : α → Bool) (f : α → Nat) : ∀ (l : List α), sumL f (l.filter P) = sumL (fun x => if P x = true then f x else 0) l
  | [] => rfl
  | x :: l => by
    by_cases h : P x = true
    · rw [List.filter_cons_of_pos h, sumL, sumL, if_pos h, filter_sum P f l]
    · rw [List.filter_cons_of_neg h, sumL, if_neg h, filter_sum P f l, Nat.zero_add]
theorem filter_len {α : Type} (P : α → Bool) (l : List α) : (l.filter P).length = sumL (fun x => if P x = true then 1 else 0) l := by
  have := filter_sum P (fun _ => 1) l
  rw [sumL_const] at this
  omega
/-- the first ones weigh no more than any others -/
theorem take_least {S L : List T} (h : S.Sublist L) (hs : Sd L) : ws (L.take S.length) ≤ ws S := by
  induction h with
  | slnil => simp [ws]
  | @cons S L x h ih =>
    have hs' := List.pairwise_cons.1 hs
    have ih' := ih hs'.2
    have hle := h.length_le
    cases hn : S.length with
    | zero => simp [ws]
    | succ n =>
      rw [hn] at ih'
      rw [List.take_succ_cons, ws]
      rw [List.take_succ_eq_append_getElem (by omega), ws_app, ws, ws] at ih'
      have := hs'.1 _ (List.getElem_mem (l := L) (n := n) (by omega))
      omega
  | @cons_cons S L x h ih =>
    have hs' := List.pairwise_cons.1 hs
    have ih' := ih hs'.2
    rw [List.length_cons, List.take_succ_cons, ws, ws]
    omega
theorem ws_take_mono (L : List T) {a b : Nat} (h : a ≤ b) : ws (L.take a) ≤ ws (L.take b) := by
  have e : L.take b = L.take a ++ (L.drop a).take (b - a) := by
    rw [← List.take_add, show a + (b - a) = b from by omega]
  rw [e, ws_app]; omega
/-- a row has as many items as can be asked for -/
theorem row_has (L : List T) (c : Nat → Nat) (hc : ∀ i, c i ≤ L.length) : ∀ (k q : Nat), q * 2 ^ k ≤ sumN (fun i => c i * 2 ^ i) (k + 1) → q ≤ (row L k).length
  | 0, q, h => by simp only [sumN, Nat.pow_zero, Nat.mul_one, Nat.zero_add] at h; have := hc 0; rw [row]; omega
  | k + 1, q, h => by
    rw [row_len]
    have hk := hc (k + 1)
    by_cases h1 : q ≤ c (k + 1)
    · omega
    · have := row_has L c hc k (2 * (q - c (k + 1))) (by
        rw [sumN.eq_2 _ (k + 1)] at h
        have e : q * 2 ^ (k + 1) = (q - c (k + 1)) * 2 ^ (k + 1) + c (k + 1) * 2 ^ (k + 1) := by rw [← Nat.add_mul]; congr 1; omega
        have e2 : 2 * (q - c (k + 1)) * 2 ^ k = (q - c (k + 1)) * 2 ^ (k + 1) := by rw [Nat.mul_comm 2, Nat.mul_assoc, Nat.pow_succ, Nat.mul_comm 2]
        omega)
      omega
/-- no other choice of as much weighs less -/
theorem best (L : List T) (hs : Sd L) (P : Nat → T → Bool) : ∀ (k m : Nat), m * 2 ^ k ≤ sumN (fun i => (L.filter (P i)).length * 2 ^ i) (k + 1) → ws ((row L k).take m) ≤ sumN (fun i => ws (L.filter (P i))) (k + 1)
  | 0, m, h => by
    simp only [sumN, Nat.pow_zero, Nat.mul_one, Nat.zero_add] at h ⊢
    rw [row]
    exact Nat.le_trans (ws_take_mono L h) (take_least List.filter_sublist hs)
  | k + 1, m, h => by
    have hlen : ∀ i, (L.filter (P i)).length ≤ L.length := fun i => List.length_filter_le _ _
    rw [sumN.eq_2 _ (k + 1)] at h ⊢
    have ht := take_least (S := L.filter (P (k + 1))) List.filter_sublist hs
    obtain ⟨c, hc⟩ : ∃ c, c = (L.filter (P (k + 1))).length := ⟨_, rfl⟩
    have hcl := hlen (k + 1)
    rw [← hc] at h ht hcl
    by_cases h1 : m ≤ c
    · have := mg_least L (pk (row L k)) m 0 hs (pk_sd _ (row_sd hs k)) (by omega) (by omega)
      have h2 := ws_take_mono L h1
      simp only [Nat.add_zero, List.take_zero, ws] at this
      rw [row]; omega
    · have e : m * 2 ^ (k + 1) = (m - c) * 2 ^ (k + 1) + c * 2 ^ (k + 1) := by rw [← Nat.add_mul]; congr 1; omega
      have e2 : 2 * (m - c) * 2 ^ k = (m - c) * 2 ^ (k + 1) := by rw [Nat.mul_comm 2, Nat.mul_assoc, Nat.pow_succ, Nat.mul_comm 2]
      have hq : 2 * (m - c) * 2 ^ k ≤ sumN (fun i => (L.filter (P i)).length * 2 ^ i) (k + 1) := by omega
      have ih := best L hs P k (2 * (m - c)) hq
      have hl := row_has L (fun i => (L.filter (P i)).length) hlen k _ hq
      have := mg_least L (pk (row L k)) c (m - c) hs (pk_sd _ (row_sd hs k)) hcl (by rw [pk_len]; omega)
      rw [show c + (m - c) = m from by omega, pk_take, pk_ws _ (by rw [List.length_take]; omega)] at this
      rw [row]; omega
theorem geo (s : Nat) : ∀ K, s ≤ K → sumN (fun i => if s ≤ i then 2 ^ i else 0) K + 2 ^ s = 2 ^ K
  | 0, h => by simp at h; subst h; rfl
  | K + 1, h => by
    rw [sumN]
    by_cases e : s = K + 1
    · subst e
      rw [if_neg (by omega), sumN_congr (g := fun _ => 0) K (fun k hk => if_neg (by omega)), sumN_zero]; omega
    · have := geo s K (by omega)
      rw [if_pos (by omega), Nat.pow_succ]; omega
theorem ones (s : Nat) : ∀ K, s ≤ K → sumN (fun i => if s ≤ i then 1 else 0) K + s = K
  | 0, h => by simp at h; subst h; rfl
  | K + 1, h => by
    rw [sumN]
    by_cases e : s = K + 1
    · subst e
      rw [if_neg (by omega), sumN_congr (g := fun _ => 0) K (fun k hk => if_neg (by omega)), sumN_zero]; omega
    · have := ones s K (by omega)
      rw [if_pos (by omega)]; omega
/-- G8: no other lengths cost less -/
theorem pm_best (L : List T) (hs : Sd L) (J : Nat) (o : T → Nat) (ho : ∀ t ∈ L, o t ≤ J + 1) (hk : sumL (fun t => 2 ^ (J + 1 - o t)) L ≤ 2 ^ (J + 1)) :
    ws ((row L J).take (2 * L.length - 2)) ≤ sumL (fun t => t.wt * o t) L := by
  obtain ⟨P, hP⟩ : ∃ P : Nat → T → Bool, P = fun i t => decide (J + 1 - o t ≤ i) := ⟨_, rfl⟩
  have h1 : sumN (fun i => (L.filter (P i)).length * 2 ^ i) (J + 1) + sumL (fun t => 2 ^ (J + 1 - o t)) L = L.length * 2 ^ (J + 1) := by
    have e1 : ∀ i, (L.filter (P i)).length * 2 ^ i = sumL (fun t => if J + 1 - o t ≤ i then 2 ^ i else 0) L := by
      intro i
      have := filter_sum (P i) (fun _ => 2 ^ i) L
      rw [sumL_const] at this
      rw [this]
      exact sumL_congr L fun t _ => by subst hP; simp
    rw [sumN_congr _ (fun i _ => e1 i), sum_swap, ← sumL_add, ← sumL_const]
    exact sumL_congr L fun t ht => geo (J + 1 - o t) (J + 1) (by omega)
  have h2 : sumN (fun i => ws (L.filter (P i))) (J + 1) = sumL (fun t => t.wt * o t) L := by
    have e1 : ∀ i, ws (L.filter (P i)) = sumL (fun t => t.wt * (if J + 1 - o t ≤ i then 1 else 0)) L := by
      intro i
      rw [ws_sumL, filter_sum]
      exact sumL_congr L fun t _ => by
        subst hP
        by_cases h : J + 1 - o t ≤ i
        · simp [h]
        · simp [h]
    rw [sumN_congr _ (fun i _ => e1 i), sum_swap]
    exact sumL_congr L fun t ht => by
      rw [sumN_mul]
      have := ones (J + 1 - o t) (J + 1) (by omega)
      have := ho t ht
      congr 1; omega
  rw [← h2]
  refine best L hs P J _ ?_
  have e : (2 * L.length - 2) * 2 ^ J = L.length * 2 ^ (J + 1) - 2 ^ (J + 1) := by
    rw [Nat.sub_mul, Nat.pow_succ]
    have : 2 * L.length * 2 ^ J = L.length * (2 ^ J * 2) := by rw [Nat.mul_comm 2, Nat.mul_assoc, Nat.mul_comm 2]
    omega
  omega

/-! ### what is chosen -/
/-- the leaves: symbols of their own -/
def Leaves (L : List T) (sy : Nat → Nat) : Prop := ∀ r (h : r < L.length), ∃ w, L[r] = .leaf w (sy r)
def Inj (sy : Nat → Nat) (n : Nat) : Prop := ∀ r r', r < n → r' < n → sy r = sy r' → r = r'
theorem cl_take {L : List T} {sy : Nat → Nat} (hl : Leaves L sy) (hi : Inj sy L.length) {r : Nat} (hr : r < L.length) : ∀ m, m ≤ L.length → cl (L.take m) (sy r) = if r < m then 1 else 0
  | 0, _ => by simp [cl]
  | m + 1, h => by
    rw [List.take_succ_eq_append_getElem (by omega), cl_app, cl_take hl hi hr m (by omega)]
    obtain ⟨w, hw⟩ := hl m (by omega)
    rw [hw, cl, cl, T.cnt]
    by_cases e : r = m
    · subst e; rw [if_neg (by omega), if_pos rfl, if_pos (by omega)]
    · rw [if_neg (show ¬ sy m = sy r from fun e2 => e (hi r m hr (by omega) e2.symm))]
      by_cases e2 : r < m
      · rw [if_pos e2, if_pos (by omega)]
      · rw [if_neg e2, if_neg (by omega)]
theorem cl_none {L : List T} {sy : Nat → Nat} (hl : Leaves L sy) {s : Nat} (hs : ∀ r, r < L.length → sy r ≠ s) : ∀ m, cl (L.take m) s = 0
  | 0 => by simp [cl]
  | m + 1 => by
    by_cases h : m < L.length
    · rw [List.take_succ_eq_append_getElem h, cl_app, cl_none hl hs m]
      obtain ⟨w, hw⟩ := hl m h
      rw [hw, cl, cl, T.cnt, if_neg (hs m h)]
    · have := cl_none hl hs m
      rw [List.take_of_length_le (by omega)] at this ⊢
      exact this
/-- the length of the leaf at r -/
def lenR (a : Nat → Nat) (J r : Nat) : Nat := sumN (fun k => if r < a k then 1 else 0) (J + 1)
theorem lenR_le (a : Nat → Nat) (J r : Nat) : lenR a J r ≤ J + 1 := by
  have : ∀ n, sumN (fun k => if r < a k then 1 else 0) n ≤ n := by
    intro n
    induction n with
    | zero => exact Nat.le_refl _
    | succ n ih => rw [sumN]; split <;> omega
  exact this _
theorem lenR_anti (a : Nat → Nat) (J : Nat) {r r' : Nat} (h : r ≤ r') : lenR a J r' ≤ lenR a J r :=
  sumN_le _ fun k _ => by
    by_cases e : r' < a k
    · rw [if_pos e, if_pos (by omega)]; exact Nat.le_refl _
    · rw [if_neg e]; exact Nat.zero_le _
theorem lenR_pow (a : Nat → Nat) (r : Nat) : ∀ J, (∀ k, k < J → a k ≤ a (k + 1)) → sumN (fun k => if r < a k then 2 ^ k else 0) (J + 1) + 2 ^ (J + 1 - lenR a J r) = 2 ^ (J + 1)
  | 0, _ => by
    unfold lenR
    by_cases e : r < a 0
    · simp [sumN, e]
    · simp [sumN, e]
  | J + 1, h => by
    have ih := lenR_pow a r J (fun k hk => h k (by omega))
    have hl := lenR_le a J r
    rw [sumN.eq_2 _ (J + 1)]
    unfold lenR at ih hl ⊢
    rw [sumN.eq_2 (fun k => if r < a k then 1 else 0) (J + 1)]
    by_cases e : r < a (J + 1)
    · rw [if_pos e, if_pos e, show J + 1 + 1 - (sumN (fun k => if r < a k then 1 else 0) (J + 1) + 1) = J + 1 - sumN (fun k => if r < a k then 1 else 0) (J + 1) from by omega, Nat.pow_succ 2 (J + 1)]
      omega
    · have hm : ∀ d k, d ≤ J + 1 → k = J + 1 - d → a k ≤ a (J + 1) := by
        intro d
        induction d with
        | zero => intro k _ hk; rw [show k = J + 1 from by omega]; exact Nat.le_refl _
        | succ d ih2 => intro k hd hk; exact Nat.le_trans (h k (by omega)) (ih2 (k + 1) (by omega) (by omega))
      have z : ∀ k, k < J + 1 → ¬ r < a k := fun k hk => by have := hm (J + 1 - k) k (by omega) (by omega); omega
      rw [if_neg e, if_neg e, sumN_congr (g := fun _ => 0) _ (fun k hk => if_neg (z k hk)), sumN_zero, sumN_congr (g := fun _ => 0) _ (fun k hk => if_neg (z k hk)), sumN_zero]
      simp
theorem sumN_lt {a n : Nat} (h : a ≤ n) (c : Nat) : sumN (fun r => if r < a then c else 0) n = a * c := by
  induction n with
  | zero => rw [show a = 0 from by omega]; simp [sumN]
  | succ n ih =>
    rw [sumN]
    by_cases e : a = n + 1
    · subst e
      rw [if_pos (by omega), sumN_congr (g := fun r => if r < n then c else 0) n (fun k hk => by rw [if_pos (by omega), if_pos hk])]
      have : ∀ m, sumN (fun r => if r < m then c else 0) m = m * c := by
        intro m
        rw [sumN_congr (g := fun _ => c) m (fun k hk => if_pos hk)]
        clear ih
        induction m with
        | zero => simp [sumN]
        | succ m ihm => rw [sumN, ihm, Nat.add_mul]; omega
      rw [this, Nat.add_mul]; omega
    · rw [ih (by omega), if_neg (by omega)]; rfl
theorem sumNN (f : Nat → Nat → Nat) (n : Nat) : ∀ m, sumN (fun i => sumN (f i) m) n = sumN (fun j => sumN (fun i => f i j) n) m
  | 0 => sumN_zero n
  | m + 1 => by simp only [sumN]; rw [sumN_add, sumNN f n m]
/-- P4.4: two or more take the whole space -/
theorem pm_whole {L : List T} {J : Nat} {a : Nat → Nat} (h : Sel L J (2 * L.length - 2) a) (hn : 2 ≤ L.length) : sumN (fun r => 2 ^ (J + 1 - lenR a J r)) L.length = 2 ^ (J + 1) := by
  have h1 : sumN (fun r => sumN (fun k => if r < a k then 2 ^ k else 0) (J + 1)) L.length = (2 * L.length - 2) * 2 ^ J := by
    rw [sumNN, ← h.num]
    exact sumN_congr _ fun k _ => sumN_lt (h.le k) _
  have h2 : sumN (fun r => sumN (fun k => if r < a k then 2 ^ k else 0) (J + 1) + 2 ^ (J + 1 - lenR a J r)) L.length = L.length * 2 ^ (J + 1) := by
    rw [sumN_congr (g := fun r => if r < L.length then 2 ^ (J + 1) else 0) _ (fun r hr => by rw [if_pos hr]; exact lenR_pow a r J h.up), sumN_lt (Nat.le_refl _)]
  rw [sumN_add, h1] at h2
  have e : (2 * L.length - 2) * 2 ^ J = L.length * 2 ^ (J + 1) - 2 ^ (J + 1) := by
    rw [Nat.sub_mul, Nat.pow_succ]
    have : 2 * L.length * 2 ^ J = L.length * (2 ^ J * 2) := by rw [Nat.mul_comm 2, Nat.mul_assoc, Nat.mul_comm 2]
    omega
  have : 2 ^ (J + 1) ≤ L.length * 2 ^ (J + 1) := Nat.le_mul_of_pos_left _ (by omega)
  omega
theorem sumN_mem {f : Nat → Nat} : ∀ {n r : Nat}, r < n → f r ≤ sumN f n
  | n + 1, r, h => by
    rw [sumN]
    by_cases e : r = n
    · subst e; omega
    · have := sumN_mem (f := f) (n := n) (r := r) (by omega); omega
theorem sumN_mem2 {f : Nat → Nat} {n r s : Nat} (hr : r < n) (hs : s < n) (h : r ≠ s) : f r + f s ≤ sumN f n := by
  induction n with
  | zero => omega
  | succ n ih =>
    rw [sumN]
    by_cases e : r = n
    · subst e; have := sumN_mem (f := f) (n := r) (r := s) (by omega); omega
    · by_cases e2 : s = n
      · subst e2; have := sumN_mem (f := f) (n := s) (r := r) (by omega); omega
      · have := ih (by omega) (by omega); omega
theorem pm_pos {L : List T} {J : Nat} {a : Nat → Nat} (h : Sel L J (2 * L.length - 2) a) (hn : 2 ≤ L.length) {r : Nat} (hr : r < L.length) : 1 ≤ lenR a J r := by
  have h1 := pm_whole h hn
  by_cases e : lenR a J r = 0
  · exfalso
    obtain ⟨s, hs, hne⟩ : ∃ s, s < L.length ∧ r ≠ s := by
      by_cases e0 : r = 0
      · exact ⟨1, by omega, by omega⟩
      · exact ⟨0, by omega, by omega⟩
    have := sumN_mem2 (f := fun r => 2 ^ (J + 1 - lenR a J r)) hr hs hne
    simp only [e, Nat.sub_zero] at this
    have hp : 0 < 2 ^ (J + 1 - lenR a J s) := Nat.two_pow_pos _
    omega
  · omega
/-- what they cost -/
theorem pm_cost {L : List T} {J m : Nat} {a : Nat → Nat} (h : Sel L J m a) : ws ((row L J).take m) = sumN (fun r => (if hr : r < L.length then (L[r]'hr).wt else 0) * lenR a J r) L.length := by
  have e : ∀ k, ws (L.take (a k)) = sumN (fun r => (if hr : r < L.length then (L[r]'hr).wt else 0) * (if r < a k then 1 else 0)) L.length := by
    intro k
    have : ∀ (M : List T) (c n : Nat), n ≤ M.length → c ≤ n → ws (M.take c) = sumN (fun r => (if hr : r < M.length then (M[r]'hr).wt else 0) * (if r < c then 1 else 0)) n := by
      intro M c n
      induction n with
      | zero => intro _ h; rw [show c = 0 from by omega]; simp [ws, sumN]
      | succ n ih =>
        intro hn hc
        rw [sumN]
        by_cases e : c = n + 1
        · subst e
          rw [List.take_succ_eq_append_getElem (by omega), ws_app, ws, ws, dif_pos (by omega), if_pos (by omega)]
          have : ∀ q, q ≤ n → ws (M.take q) = sumN (fun r => (if hr : r < M.length then (M[r]'hr).wt else 0) * (if r < n + 1 then 1 else 0)) q := by
            intro q
            induction q with
            | zero => intro _; simp [ws, sumN]
            | succ q ihq =>
              intro hq
              rw [sumN, ← ihq (by omega), List.take_succ_eq_append_getElem (by omega), ws_app, ws, ws, dif_pos (by omega), if_pos (by omega)]; omega
          rw [this n (Nat.le_refl _)]; omega
        · rw [ih (by omega) (by omega), if_neg (show ¬ n < c from by omega)]; omega
    exact this L (a k) L.length (Nat.le_refl _) (h.le k)
  rw [h.ws, sumN_congr _ (fun k _ => e k), sumNN]
  exact sumN_congr _ fun r _ => by unfold lenR; rw [← sumN_mul]
end Go.Proofs.Ytofajcifjmhomaa.Pm
