/- Chapter 09, plain: what a token's signs are within, what the tokens of a block cost. No condition. -/
import Derived.Test.YtlfckpmdmkccjaaBlkH
set_option linter.unusedVariables false
set_option linter.unusedSimpArgs false
set_option maxRecDepth 100000
namespace Go.Proofs.Ytlfckpmdmkccjaa.Blk
open Go.RowKit Go.Proofs.Ytlfckpmdmkccjaa.Lib Go.Proofs.Ytlfckpmdmkccjaa.Ints Go.Proofs.Ytlfckpmdmkccjaa.Lz
def LitB (l : List Tok) : Prop := ∀ t ∈ l, 0 ≤ t.lit ∧ t.lit ≤ 255
theorem plc_fit (l : List (Int × Int)) (v : Int) (h0 : (l.getD 0 (0, 0)).1 ≤ v) : ∀ n, 0 < n → (∀ i, i + 1 < n → (l.getD (i + 1) (0, 0)).1 ≤ (l.getD i (0, 0)).1 + 2 ^ (l.getD i (0, 0)).2.toNat) → v < (l.getD (n - 1) (0, 0)).1 + 2 ^ (l.getD (n - 1) (0, 0)).2.toNat →
    (l.getD (plc l v n) (0, 0)).1 ≤ v ∧ v < (l.getD (plc l v n) (0, 0)).1 + 2 ^ (l.getD (plc l v n) (0, 0)).2.toNat
  | 0, h, _, _ => absurd h (Nat.lt_irrefl 0)
  | n + 1, _, hs, hv => by
    rw [plc]
    by_cases h : (l.getD n (0, 0)).1 ≤ v
    · rw [if_pos h]; exact ⟨h, hv⟩
    · rw [if_neg h]
      cases n with
      | zero => exact absurd h0 h
      | succ n =>
        refine plc_fit l v h0 (n + 1) (by omega) (fun i hi => hs i (by omega)) ?_
        have := hs n (by omega)
        simp only [Nat.add_sub_cancel]
        omega
theorem lenT_steps : ∀ i, i + 1 < 29 → (lenT.getD (i + 1) (0, 0)).1 ≤ (lenT.getD i (0, 0)).1 + 2 ^ (lenT.getD i (0, 0)).2.toNat := by
  intro i hi
  have : ∀ i, i < 28 → (lenT.getD (i + 1) (0, 0)).1 ≤ (lenT.getD i (0, 0)).1 + 2 ^ (lenT.getD i (0, 0)).2.toNat := by decide
  exact this i (by omega)
theorem distT_steps : ∀ i, i + 1 < 30 → (distT.getD (i + 1) (0, 0)).1 ≤ (distT.getD i (0, 0)).1 + 2 ^ (distT.getD i (0, 0)).2.toNat := by
  intro i hi
  have : ∀ i, i < 29 → (distT.getD (i + 1) (0, 0)).1 ≤ (distT.getD i (0, 0)).1 + 2 ^ (distT.getD i (0, 0)).2.toNat := by decide
  exact this i (by omega)
theorem lenT_fit {v : Int} (h0 : 3 ≤ v) (h1 : v ≤ 258) : (lenT.getD (plc lenT v 29) (0, 0)).1 ≤ v ∧ v < (lenT.getD (plc lenT v 29) (0, 0)).1 + 2 ^ (lenT.getD (plc lenT v 29) (0, 0)).2.toNat :=
  plc_fit lenT v (by show (3 : Int) ≤ v; exact h0) 29 (by omega) lenT_steps (by show v < (258 : Int) + 2 ^ 0; omega)
theorem distT_fit {v : Int} (h0 : 1 ≤ v) (h1 : v ≤ 32768) : (distT.getD (plc distT v 30) (0, 0)).1 ≤ v ∧ v < (distT.getD (plc distT v 30) (0, 0)).1 + 2 ^ (distT.getD (plc distT v 30) (0, 0)).2.toNat :=
  plc_fit distT v (by show (1 : Int) ≤ v; exact h0) 30 (by omega) distT_steps (by show v < (24577 : Int) + 2 ^ 13; omega)
/-- a symbol, more bits' number and how many they are -/
structure Sg (x : Int × Int × Int) (lo hi mb : Int) : Prop where
  sym : lo ≤ x.1 ∧ x.1 < hi
  bits : 0 ≤ x.2.2 ∧ x.2.2 ≤ mb
  val : 0 ≤ x.2.1 ∧ x.2.1 < 2 ^ x.2.2.toNat
theorem symN_len {v : Int} (h0 : 3 ≤ v) (h1 : v ≤ 258) : Sg ((symN lenT 257 3 258 v).1, (symN lenT 257 3 258 v).2.2.1, (symN lenT 257 3 258 v).2.1) 257 286 5 := by
  unfold symN
  rw [if_neg (by omega)]
  have hp := plc_lt lenT v 29 (by decide)
  have hf := lenT_fit h0 h1
  have hb := lenT_le _ hp
  refine ⟨⟨?_, ?_⟩, ⟨?_, ?_⟩, ?_, ?_⟩ <;> simp only [show lenT.length = 29 from rfl] <;> omega
theorem symN_dist {v : Int} (h0 : 1 ≤ v) (h1 : v ≤ 32768) : Sg ((symN distT 0 1 32768 v).1, (symN distT 0 1 32768 v).2.2.1, (symN distT 0 1 32768 v).2.1) 0 30 13 := by
  unfold symN
  rw [if_neg (by omega)]
  have hp := plc_lt distT v 30 (by decide)
  have hf := distT_fit h0 h1
  have hb := distT_le _ hp
  refine ⟨⟨?_, ?_⟩, ⟨?_, ?_⟩, ?_, ?_⟩ <;> simp only [show distT.length = 30 from rfl] <;> omega
theorem sgA_fit {t : Tok} (hr : right t = true) (hl : 0 ≤ t.lit ∧ t.lit ≤ 255) : Sg (sgA t) 0 286 5 ∧ (sgA t).1 ≠ 256 := by
  unfold sgA
  rcases right_len hr with ⟨h, _⟩ | ⟨h1, h2, _⟩
  · rw [if_pos h]
    refine ⟨⟨⟨hl.1, ?_⟩, ⟨Int.le_refl _, ?_⟩, Int.le_refl _, ?_⟩, ?_⟩
    all_goals (simp only; first | omega | decide)
  · rw [if_neg (by omega)]
    have h := symN_len h1 h2
    exact ⟨⟨⟨by have := h.sym; omega, h.sym.2⟩, h.bits, h.val⟩, by have := h.sym; simp only at this ⊢; omega⟩
theorem sgB_fit {t : Tok} (hr : right t = true) : Sg (sgB t) 0 30 13 := by
  unfold sgB
  rcases right_len hr with ⟨h, _⟩ | ⟨h1, h2, h3, h4, _⟩
  · rw [if_pos h]
    refine ⟨⟨Int.le_refl _, ?_⟩, ⟨Int.le_refl _, ?_⟩, Int.le_refl _, ?_⟩
    all_goals (simp only; first | omega | decide)
  · rw [if_neg (by omega)]
    exact symN_dist h3 h4
/-! ### what codes cost -/
def tkBits (lit dist : List Int) (t : Tok) : Int :=
  lit.getD (sgA t).1.toNat 0 + (sgA t).2.2 + if t.len = 0 then 0 else dist.getD (sgB t).1.toNat 0 + (sgB t).2.2
def codedF (lit dist : List Int) : List Tok → Int
  | [] => 0
  | t :: l => tkBits lit dist t + codedF lit dist l
def codedN (lit dist : List Int) (l : List Tok) : Int := lit.getD 256 0 + codedF lit dist l
def Lens15 (l : List Int) : Prop := ∀ x ∈ l, 0 ≤ x ∧ x ≤ 15
theorem lens15_get {l : List Int} (h : Lens15 l) (i : Nat) : 0 ≤ l.getD i 0 ∧ l.getD i 0 ≤ 15 := by
  rw [List.getD_eq_getElem?_getD]
  cases hx : l[i]? with
  | none => simp
  | some x => exact h x (List.mem_of_getElem? hx)
theorem tkBits_le {lit dist : List Int} (ha : Lens15 lit) (hb : Lens15 dist) {t : Tok} (hr : right t = true) (hl : 0 ≤ t.lit ∧ t.lit ≤ 255) : 0 ≤ tkBits lit dist t ∧ tkBits lit dist t ≤ 48 := by
  have h1 := lens15_get ha (sgA t).1.toNat
  have h2 := lens15_get hb (sgB t).1.toNat
  have h3 := (sgA_fit hr hl).1.bits
  have h4 := (sgB_fit hr).bits
  unfold tkBits
  split <;> omega
theorem codedF_app (lit dist : List Int) : ∀ a b, codedF lit dist (a ++ b) = codedF lit dist a + codedF lit dist b
  | [], b => by simp [codedF]
  | t :: a, b => by simp only [List.cons_append, codedF, codedF_app lit dist a b]; omega
theorem codedF_take {lit dist : List Int} {l : List Tok} {j : Nat} (h : j < l.length) : codedF lit dist (l.take (j + 1)) = codedF lit dist (l.take j) + tkBits lit dist l[j] := by
  rw [List.take_succ_eq_append_getElem h, codedF_app]
  simp [codedF]
theorem codedF_le {lit dist : List Int} (ha : Lens15 lit) (hb : Lens15 dist) : ∀ (l : List Tok), (∀ t ∈ l, right t = true) → LitB l → 0 ≤ codedF lit dist l ∧ codedF lit dist l ≤ 48 * (l.length : Nat)
  | [], _, _ => by simp [codedF]
  | t :: l, hr, hl => by
    have h1 := tkBits_le ha hb (hr t (by simp)) (hl t (by simp))
    have h2 := codedF_le ha hb l (fun u hu => hr u (by simp [hu])) (fun u hu => hl u (by simp [hu]))
    simp only [codedF, List.length_cons]
    omega
/-- why tokens may not stand in a block -/
def mayB (l : List Tok) : Int := if 65536 < l.length then 90 else if l.all right then 0 else 91
theorem mayB_zero {l : List Tok} (h : mayB l = 0) : l.length ≤ 65536 ∧ ∀ t ∈ l, right t = true := by
  unfold mayB at h
  split at h
  · cases h
  · split at h
    · rename_i h1 h2
      exact ⟨by omega, by simpa using h2⟩
    · cases h
theorem width_zero {t : Tok} : width t = 0 ↔ right t = false := by
  unfold width
  cases h : right t
  · simp
  · simp only [if_true]
    have := right_len h
    split <;> simp <;> omega
theorem sizeOf_one (t : Tok) : Lz.sizeOf [t] = width t := by simp [Lz.sizeOf]
theorem plainLit15 : Lens15 plainLit := by
  intro x hx
  simp only [plainLit, fill, List.mem_map, List.mem_range] at hx
  obtain ⟨i, hi, rfl⟩ := hx
  rw [if_pos hi]
  unfold litF
  split
  · omega
  · split
    · omega
    · split <;> omega
theorem plainDist15 : Lens15 plainDist := by
  intro x hx
  simp only [plainDist, fill, List.mem_map, List.mem_range] at hx
  obtain ⟨i, hi, rfl⟩ := hx
  rw [if_pos hi]
  omega
end Go.Proofs.Ytlfckpmdmkccjaa.Blk
