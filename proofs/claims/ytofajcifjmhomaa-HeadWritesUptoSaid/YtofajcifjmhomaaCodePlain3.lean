/- The symbols by their codes. Plain Lean, no condition. -/
import Derived.Test.YtofajcifjmhomaaCodePlain2
set_option maxRecDepth 100000
set_option linter.unusedVariables false
set_option linter.unusedSimpArgs false
namespace Go.Proofs.Ytofajcifjmhomaa.Code

/-- each symbol stands where its code says -/
def SymOk (lens : List Int) (S : Nat → Nat) : Prop := ∀ (s : Nat) (hs : s < lens.length) (v : Nat), lens[s] = (v : Int) → 0 < v → S (usedF (cz lens) v + cnt (lens.take s) v) = s
/-- how many stand when those of length l are gone through up to i -/
def kk (lens : List Int) (l i : Nat) : Nat := usedF (cz lens) l + (if l = 0 then 0 else cnt (lens.take i) l)
/-- those that are before (l, i) stand -/
def SymTo (lens : List Int) (S : Nat → Nat) (l i : Nat) : Prop := ∀ (s : Nat) (hs : s < lens.length) (v : Nat), lens[s] = (v : Int) → 0 < v → (v < l ∨ (v = l ∧ s < i)) → S (usedF (cz lens) v + cnt (lens.take s) v) = s
theorem usedF_mono {f : Nat → Nat} : ∀ {a b : Nat}, a ≤ b → usedF f a ≤ usedF f b := by
  intro a b h
  induction h with
  | refl => exact Nat.le_refl _
  | step h ih => simp only [usedF]; omega
theorem cnt_take_mono (lens : List Int) (v : Nat) {i j : Nat} (h : i ≤ j) : cnt (lens.take i) v ≤ cnt (lens.take j) v := by
  have e : lens.take i = (lens.take j).take i := by rw [List.take_take, Nat.min_eq_left h]
  rw [e]
  exact List.Sublist.countP_le (List.take_sublist _ _)
theorem cnt_take_le (lens : List Int) (v i : Nat) : cnt (lens.take i) v ≤ cnt lens v := List.Sublist.countP_le (List.take_sublist _ _)
theorem kk_lt {lens : List Int} {s v : Nat} (hs : s < lens.length) (hv : lens[s] = (v : Int)) (h0 : 0 < v) (h15 : v ≤ 15) : usedF (cz lens) v + cnt (lens.take s) v < used lens := by
  have h1 := cnt_take_lt hs hv
  have h2 : usedF (cz lens) (v + 1) ≤ usedF (cz lens) 16 := usedF_mono (by omega)
  have h3 : cz lens v = cnt lens v := by unfold cz; rw [if_neg (by omega)]
  simp only [usedF] at h2
  unfold used
  simp only [usedF]
  omega
theorem kk_le {lens : List Int} {l i s v : Nat} (h0 : 0 < v) (h : l < v ∨ (l = v ∧ i ≤ s)) : kk lens l i ≤ usedF (cz lens) v + cnt (lens.take s) v := by
  unfold kk
  rcases h with h | ⟨rfl, h⟩
  · have h1 : usedF (cz lens) (l + 1) ≤ usedF (cz lens) v := usedF_mono (by omega)
    simp only [usedF] at h1
    by_cases hl : l = 0
    · rw [if_pos hl]; omega
    · rw [if_neg hl]
      have h2 := cnt_take_le lens l i
      have h3 : cz lens l = cnt lens l := by unfold cz; rw [if_neg hl]
      omega
  · rw [if_neg (by omega)]
    have := cnt_take_mono lens l h
    omega
/-- all stand when so many stand -/
theorem sym_all {lens : List Int} {S : Nat → Nat} {l i : Nat} (hb : bad lens = false) (h : SymTo lens S l i) (hk : kk lens l i = used lens) : SymOk lens S := by
  intro s hs v hv h0
  by_cases hc : v < l ∨ (v = l ∧ s < i)
  · exact h s hs v hv h0 hc
  · have h15 : v ≤ 15 := by
      have := (bad_false hb).2 lens[s] (List.getElem_mem hs)
      omega
    have h1 := kk_lt hs hv h0 h15
    have h2 := kk_le (lens := lens) (l := l) (i := i) (s := s) h0 (by omega)
    omega
theorem sym_end {lens : List Int} {S : Nat → Nat} (hb : bad lens = false) (h : SymTo lens S 16 0) : SymOk lens S := by
  intro s hs v hv h0
  have h15 : v ≤ 15 := by
    have := (bad_false hb).2 lens[s] (List.getElem_mem hs)
    omega
  exact h s hs v hv h0 (.inl (by omega))
theorem kk_row {lens : List Int} (l : Nat) : kk lens l lens.length = kk lens (l + 1) 0 := by
  have e : cz lens l = if l = 0 then 0 else cnt lens l := rfl
  unfold kk
  simp only [usedF, List.take_length]
  rw [e]
  by_cases h : l = 0
  · subst h; simp [cnt]
  · rw [if_neg h, if_neg (by omega)]; simp [cnt]
theorem sym_row {lens : List Int} {S : Nat → Nat} {l : Nat} (h : SymTo lens S l lens.length) : SymTo lens S (l + 1) 0 := by
  intro s hs v hv h0 hc
  exact h s hs v hv h0 (by omega)
theorem kk_skip {lens : List Int} {l i : Nat} (hi : i < lens.length) (h : ¬ (lens[i] = (l : Int) ∧ 0 < l)) : kk lens l (i + 1) = kk lens l i := by
  unfold kk
  by_cases hl : l = 0
  · rw [if_pos hl, if_pos hl]
  · rw [if_neg hl, if_neg hl]
    have hne : ¬ lens[i] = (l : Int) := fun e => h ⟨e, by omega⟩
    unfold cnt
    rw [List.take_succ_eq_append_getElem hi, List.countP_append, List.countP_cons, List.countP_nil, if_neg (by simpa using hne)]
    omega
theorem sym_skip {lens : List Int} {S : Nat → Nat} {l i : Nat} (hi : i < lens.length) (h : ¬ (lens[i] = (l : Int) ∧ 0 < l)) (hS : SymTo lens S l i) : SymTo lens S l (i + 1) := by
  intro s hs v hv h0 hc
  rcases hc with hc | ⟨rfl, hc⟩
  · exact hS s hs v hv h0 (.inl hc)
  · by_cases e : s = i
    · subst e; exact absurd ⟨hv, h0⟩ h
    · exact hS s hs v hv h0 (.inr ⟨rfl, by omega⟩)
theorem kk_put {lens : List Int} {l i : Nat} (hi : i < lens.length) (h : lens[i] = (l : Int)) (hl : 0 < l) : kk lens l (i + 1) = kk lens l i + 1 := by
  unfold kk
  rw [if_neg (by omega), if_neg (by omega), cnt_take hi h]
  unfold upd
  rw [if_pos rfl]
  omega
theorem sym_put {lens : List Int} {S : Nat → Nat} {l i : Nat} (hb : bad lens = false) (hi : i < lens.length) (h : lens[i] = (l : Int)) (hl : 0 < l) (hS : SymTo lens S l i) : SymTo lens (upd S (kk lens l i) i) l (i + 1) := by
  intro s hs v hv h0 hc
  have hkk : kk lens l i = usedF (cz lens) l + cnt (lens.take i) l := by unfold kk; rw [if_neg (by omega)]
  by_cases e : s = i
  · subst e
    obtain rfl : v = l := by omega
    unfold upd
    rw [if_pos hkk.symm]
  · have hc2 : v < l ∨ (v = l ∧ s < i) := by omega
    have h1 := hS s hs v hv h0 hc2
    have hlt : usedF (cz lens) v + cnt (lens.take s) v < kk lens l i := by
      rw [hkk]
      rcases hc2 with hc2 | ⟨rfl, hc2⟩
      · have h2 : usedF (cz lens) (v + 1) ≤ usedF (cz lens) l := usedF_mono (by omega)
        have h3 := cnt_take_lt hs hv
        have h4 : cz lens v = cnt lens v := by unfold cz; rw [if_neg (by omega)]
        simp only [usedF] at h2
        omega
      · have h3 := cnt_take hs hv
        have h4 := cnt_take_mono lens v (show s + 1 ≤ i by omega)
        rw [h3] at h4
        unfold upd at h4
        rw [if_pos rfl] at h4
        omega
    unfold upd
    rw [if_neg (by omega)]
    exact h1
theorem used_le {lens : List Int} (hb : bad lens = false) : used lens ≤ lens.length := by
  obtain ⟨h1, h2⟩ := bad_false hb
  have key : ∀ (l : List Int) (n : Nat), usedF (cz l) n ≤ l.countP (fun x => decide (x < (n : Int))) := by
    intro l n
    induction n with
    | zero => exact Nat.zero_le _
    | succ n ih =>
      simp only [usedF]
      have h3 : cz l n ≤ l.countP (fun x => decide (x = (n : Int))) := by unfold cz; split; exact Nat.zero_le _; exact Nat.le_refl _
      have h4 : l.countP (fun x => decide (x < ((n + 1 : Nat) : Int))) = l.countP (fun x => decide (x < (n : Int))) + l.countP (fun x => decide (x = (n : Int))) := by
        clear ih h3
        induction l with
        | nil => rfl
        | cons x l ih =>
          simp only [List.countP_cons, ih, decide_eq_true_eq]
          by_cases e1 : x < (n : Int)
          · rw [if_pos (by omega), if_pos e1, if_neg (by omega)]; omega
          · by_cases e2 : x = (n : Int)
            · rw [if_pos (by omega), if_neg e1, if_pos e2]; omega
            · rw [if_neg (by omega), if_neg e1, if_neg e2]
              omega
      omega
  exact Nat.le_trans (key lens 16) List.countP_le_length
end Go.Proofs.Ytofajcifjmhomaa.Code
