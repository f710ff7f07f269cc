/- A heap of numbers, plain; Huffman's sum by the two least. Plain Lean, no condition. -/
import Derived.Test.YtomiammdfiddbaaSortPlain
set_option linter.unusedVariables false
set_option linter.unusedSimpArgs false
namespace Go.Proofs.Ytomiammdfiddbaa.Heaps
open Go.Proofs.Ytomiammdfiddbaa.Sorts (lst lst_len lst_get sw sw_perm)

def kid (a b : Nat) : Prop := b = 2 * a + 1 ∨ b = 2 * a + 2
/-- none below lo is greater than its children -/
def Hq (d : Nat → Int) (n lo : Nat) : Prop := ∀ a b, lo ≤ a → kid a b → b < n → d a ≤ d b
theorem sw_l (d : Nat → Int) (i j : Nat) : sw d i j i = d j := by unfold sw; rw [if_pos rfl]
theorem sw_r (d : Nat → Int) (i j : Nat) : sw d i j j = d i := by
  unfold sw
  by_cases h : j = i
  · rw [if_pos h, h]
  · rw [if_neg h, if_pos rfl]
theorem sw_o (d : Nat → Int) {i j k : Nat} (h1 : k ≠ i) (h2 : k ≠ j) : sw d i j k = d k := by unfold sw; rw [if_neg h1, if_neg h2]
structure Dn (d : Nat → Int) (n lo i : Nat) : Prop where
  far : ∀ a b, lo ≤ a → a ≠ i → kid a b → b < n → d a ≤ d b
  up : ∀ a b, lo ≤ a → kid a i → kid i b → b < n → d a ≤ d b
theorem Dn.start {d : Nat → Int} {n i : Nat} (h : Hq d n (i + 1)) : Dn d n i i :=
  ⟨fun a b h1 h2 h3 h4 => h a b (by omega) h3 h4, fun a b h1 h2 => by unfold kid at h2; omega⟩
theorem Dn.done {d : Nat → Int} {n lo i : Nat} (h : Dn d n lo i) (hc : ∀ b, kid i b → b < n → d i ≤ d b) : Hq d n lo := fun a b h1 h2 h3 => by
  by_cases e : a = i
  · subst e; exact hc b h2 h3
  · exact h.far a b h1 e h2 h3
theorem Dn.step {d : Nat → Int} {n lo i c : Nat} (h : Dn d n lo i) (hl : lo ≤ i) (hk : kid i c) (hn : c < n) (hmin : ∀ b, kid i b → b < n → d c ≤ d b) (hlt : d c ≤ d i) : Dn (sw d i c) n lo c := by
  have hic : i < c := by unfold kid at hk; omega
  refine ⟨fun a b h1 h2 h3 h4 => ?_, fun a b h1 h2 h3 h4 => ?_⟩
  · by_cases ea : a = i
    · subst ea
      rw [sw_l]
      by_cases eb : b = c
      · rw [eb, sw_r]; exact hlt
      · rw [sw_o d (by unfold kid at h3; omega) eb]; exact hmin b h3 h4
    · rw [sw_o d ea h2]
      by_cases eb : b = i
      · rw [eb, sw_l]; exact h.up a c h1 (by rw [← eb]; exact h3) hk hn
      · by_cases ec : b = c
        · exfalso; unfold kid at h3 hk; omega
        · rw [sw_o d eb ec]; exact h.far a b h1 ea h3 h4
  · have ea : a = i := by unfold kid at h2 hk; omega
    subst ea
    rw [sw_l, sw_o d (by unfold kid at h3; omega) (by unfold kid at h3; omega)]
    exact h.far c b (by omega) (by omega) h3 h4
structure Up (d : Nat → Int) (n j : Nat) : Prop where
  far : ∀ a b, b ≠ j → kid a b → b < n → d a ≤ d b
  jump : ∀ a b, kid a j → kid j b → b < n → d a ≤ d b
theorem Up.start {d : Nat → Int} {n : Nat} (h : Hq d n 0) : Up d (n + 1) n :=
  ⟨fun a b h1 h2 h3 => h a b (Nat.zero_le _) h2 (by omega), fun a b h1 h2 h3 => by unfold kid at h2; omega⟩
theorem Up.done {d : Nat → Int} {n j : Nat} (h : Up d n j) (hc : ∀ a, kid a j → d a ≤ d j) : Hq d n 0 := fun a b h1 h2 h3 => by
  by_cases e : b = j
  · subst e; exact hc a h2
  · exact h.far a b e h2 h3
theorem Up.step {d : Nat → Int} {n i j : Nat} (h : Up d n j) (hj : j < n) (hk : kid i j) (hlt : d j ≤ d i) : Up (sw d i j) n i := by
  have hij : i < j := by unfold kid at hk; omega
  refine ⟨fun a b h1 h2 h3 => ?_, fun a b h1 h2 h3 => ?_⟩
  · by_cases eb : b = j
    · subst eb
      have : a = i := by unfold kid at h2 hk; omega
      subst this
      rw [sw_l, sw_r]; exact hlt
    · rw [sw_o d h1 eb]
      by_cases ea : a = i
      · subst ea
        rw [sw_l]
        exact Int.le_trans hlt (h.far a b eb h2 h3)
      · by_cases ec : a = j
        · subst ec
          rw [sw_r]; exact h.jump i b hk h2 h3
        · rw [sw_o d ea ec]; exact h.far a b eb h2 h3
  · have e1 : a ≠ i := by unfold kid at h1; omega
    have e2 : a ≠ j := by unfold kid at h1; omega
    have k := h.far a i (by omega) h1 (by omega)
    rw [sw_o d e1 e2]
    by_cases eb : b = j
    · rw [eb, sw_r]; exact k
    · rw [sw_o d (by unfold kid at h2; omega) eb]
      exact Int.le_trans k (h.far i b eb h2 h3)
theorem Hq.min {d : Nat → Int} {n : Nat} (h : Hq d n 0) : ∀ i, i < n → d 0 ≤ d i := by
  intro i
  induction i using Nat.strongRecOn with
  | ind i ih =>
    intro hi
    by_cases h0 : i = 0
    · rw [h0]; exact Int.le_refl _
    · have k : kid ((i - 1) / 2) i := by unfold kid; omega
      exact Int.le_trans (ih ((i - 1) / 2) (by omega) (by omega)) (h _ i (Nat.zero_le _) k hi)
theorem lst_succ {α : Type} (n : Nat) (d : Nat → α) : lst (n + 1) d = lst n d ++ [d n] := by simp [lst, List.range_succ]
theorem lst_congr {α : Type} {n : Nat} {d e : Nat → α} (h : ∀ i, i < n → d i = e i) : lst n d = lst n e := by
  unfold lst
  exact List.map_congr_left fun i hi => h i (List.mem_range.1 hi)
theorem lst_mem {α : Type} {n : Nat} {d : Nat → α} {x : α} (h : x ∈ lst n d) : ∃ i, i < n ∧ x = d i := by
  simp only [lst, List.mem_map, List.mem_range] at h
  obtain ⟨i, hi, e⟩ := h
  exact ⟨i, hi, e.symm⟩
theorem lst_in {α : Type} {n : Nat} {d : Nat → α} {i : Nat} (h : i < n) : d i ∈ lst n d := by
  simp only [lst, List.mem_map, List.mem_range]
  exact ⟨i, h, rfl⟩
/-! ### the two least -/
def inp (x : Int) : List Int → List Int
  | [] => [x]
  | y :: l => if x ≤ y then x :: y :: l else y :: inp x l
def sot : List Int → List Int
  | [] => []
  | x :: l => inp x (sot l)
theorem inp_perm (x : Int) : ∀ l, (inp x l).Perm (x :: l)
  | [] => List.Perm.refl _
  | y :: l => by
    unfold inp
    split
    · exact List.Perm.refl _
    · exact (List.Perm.cons y (inp_perm x l)).trans (List.Perm.swap x y l)
theorem sot_perm : ∀ l, (sot l).Perm l
  | [] => List.Perm.refl _
  | x :: l => (inp_perm x _).trans (List.Perm.cons x (sot_perm l))
theorem inp_sorted (x : Int) : ∀ l : List Int, l.Pairwise (· ≤ ·) → (inp x l).Pairwise (· ≤ ·)
  | [], _ => by simp [inp]
  | y :: l, h => by
    rw [List.pairwise_cons] at h
    unfold inp
    split
    · rename_i hx
      rw [List.pairwise_cons, List.pairwise_cons]
      refine ⟨fun z hz => ?_, h.1, h.2⟩
      rcases List.mem_cons.1 hz with rfl | hz
      · exact hx
      · exact Int.le_trans hx (h.1 z hz)
    · rename_i hx
      rw [List.pairwise_cons]
      refine ⟨fun z hz => ?_, inp_sorted x l h.2⟩
      have := (inp_perm x l).mem_iff.1 hz
      rcases List.mem_cons.1 this with rfl | hz
      · omega
      · exact h.1 z hz
theorem sot_sorted : ∀ l, (sot l).Pairwise (· ≤ ·)
  | [] => List.Pairwise.nil
  | x :: l => inp_sorted x _ (sot_sorted l)
theorem sorted_one {l k : List Int} (h1 : l.Pairwise (· ≤ ·)) (h2 : k.Pairwise (· ≤ ·)) (h : l.Perm k) : l = k :=
  List.Perm.eq_of_pairwise (le := (· ≤ ·)) (fun a b _ _ x y => Int.le_antisymm x y) h1 h2 h
theorem sot_eq {l k : List Int} (h : l.Perm k) : sot l = sot k :=
  sorted_one (sot_sorted l) (sot_sorted k) (((sot_perm l).trans h).trans (sot_perm k).symm)
/-- the sum of Huffman's way, in so many rounds -/
def hf : Nat → List Int → Int
  | 0, _ => 0
  | k + 1, l => match sot l with
    | a :: b :: r => a + b + hf k ((a + b) :: r)
    | _ => 0
theorem hf_perm : ∀ (k : Nat) {l m : List Int}, l.Perm m → hf k l = hf k m
  | 0, _, _, _ => rfl
  | k + 1, l, m, h => by unfold hf; rw [sot_eq h]
theorem hf_step {k : Nat} {l r : List Int} {a b : Int} (h : l.Perm (a :: b :: r)) (h1 : a ≤ b) (h2 : ∀ x ∈ r, b ≤ x) : hf (k + 1) l = a + b + hf k ((a + b) :: r) := by
  have e : sot l = a :: b :: sot r := by
    refine sorted_one (sot_sorted l) ?_ (((sot_perm l).trans h).trans (List.Perm.cons a (List.Perm.cons b (sot_perm r).symm)))
    rw [List.pairwise_cons, List.pairwise_cons]
    refine ⟨fun x hx => ?_, fun x hx => h2 x ((sot_perm r).mem_iff.1 hx), sot_sorted r⟩
    rcases List.mem_cons.1 hx with rfl | hx
    · exact h1
    · exact Int.le_trans h1 (h2 x ((sot_perm r).mem_iff.1 hx))
  rw [hf, e]
  exact congrArg (a + b + ·) (hf_perm k (List.Perm.cons _ (sot_perm r)))
theorem sum_perm {l m : List Int} (h : l.Perm m) : l.sum = m.sum := by
  induction h with
  | nil => rfl
  | cons x _ ih => simp [ih]
  | swap x y l => simp; omega
  | trans _ _ a b => exact a.trans b
theorem sum_nonneg {l : List Int} (h : ∀ x ∈ l, 0 ≤ x) : 0 ≤ l.sum := by
  induction l with
  | nil => simp
  | cons x l ih =>
    have := ih fun y hy => h y (List.mem_cons_of_mem _ hy)
    have := h x List.mem_cons_self
    simp; omega
theorem le_sum {l : List Int} (h : ∀ x ∈ l, 0 ≤ x) {x : Int} (hx : x ∈ l) : x ≤ l.sum := by
  induction l with
  | nil => cases hx
  | cons y l ih =>
    have a := sum_nonneg fun z hz => h z (List.mem_cons_of_mem _ hz)
    have b := h y List.mem_cons_self
    rcases List.mem_cons.1 hx with rfl | hx
    · simp; omega
    · have := ih (fun z hz => h z (List.mem_cons_of_mem _ hz)) hx
      simp; omega
/-- what is in use -/
def pos (fs : List Int) : List Int := fs.filter fun x => decide (0 < x)
def leastN (fs : List Int) (cn : Int) : Int × Int := if cn ≠ 0 then (0, cn) else if (pos fs).length = 1 then ((pos fs).sum, 0) else (hf ((pos fs).length - 1) (pos fs), 0)
theorem pos_snoc {fs : List Int} {j : Nat} (h : j < fs.length) : pos (fs.take (j + 1)) = pos (fs.take j) ++ if 0 < fs[j] then [fs[j]] else [] := by
  unfold pos
  rw [List.take_succ_eq_append_getElem h, List.filter_append]
  congr 1
  simp only [List.filter_cons, List.filter_nil]
  by_cases e : 0 < fs[j] <;> simp [e]
theorem pos_mem {fs : List Int} {x : Int} (h : x ∈ pos fs) : 0 < x ∧ x ∈ fs := by
  simp only [pos, List.mem_filter, decide_eq_true_eq] at h
  exact ⟨h.2, h.1⟩
theorem sum_le {l : List Int} {B : Int} (h : ∀ x ∈ l, x ≤ B) : l.sum ≤ B * l.length := by
  induction l with
  | nil => simp
  | cons x l ih =>
    have a := ih fun y hy => h y (List.mem_cons_of_mem _ hy)
    have b := h x List.mem_cons_self
    have c : B * ((x :: l).length : Int) = B * (l.length : Int) + B := by rw [List.length_cons, Int.natCast_add, Int.mul_add]; omega
    rw [c]
    simp; omega
end Go.Proofs.Ytomiammdfiddbaa.Heaps
