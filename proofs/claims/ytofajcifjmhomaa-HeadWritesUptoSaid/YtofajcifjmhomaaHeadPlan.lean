/- Chapter 08, plain: what a head is told by. No condition. -/
import Derived.Test.YtofajcifjmhomaaHeadLens
import Derived.Test.YtofajcifjmhomaaLensChk
set_option linter.unusedVariables false
set_option linter.unusedSimpArgs false
set_option maxRecDepth 100000
namespace Go.Proofs.Ytofajcifjmhomaa.Head
open Go.RowKit Go.Proofs.Ytofajcifjmhomaa.Lib Go.Proofs.Ytofajcifjmhomaa.Ints Go.Proofs.Ytofajcifjmhomaa.Runs
/-- how many are left where the noughts at the end are cut off -/
def cutN (l : List Int) (least : Nat) : Nat → Nat
  | 0 => 0
  | n + 1 => if least < n + 1 ∧ l.getD n 0 = 0 then cutN l least n else n + 1
def cutL (l : List Int) (least : Nat) : List Int := l.take (cutN l least l.length)
theorem cutN_le (l : List Int) (least : Nat) : ∀ n, cutN l least n ≤ n
  | 0 => Nat.le_refl 0
  | n + 1 => by
    rw [cutN]
    split
    · have := cutN_le l least n; omega
    · exact Nat.le_refl _
theorem cutN_ge (l : List Int) (least : Nat) : ∀ n, least ≤ n → least ≤ cutN l least n
  | 0, h => by simpa [cutN] using h
  | n + 1, h => by
    rw [cutN]
    split
    · rename_i h1
      exact cutN_ge l least n (by omega)
    · exact h
theorem cutL_len (l : List Int) (least : Nat) : (cutL l least).length = cutN l least l.length := by
  have := cutN_le l least l.length
  rw [cutL, List.length_take]
  omega
def distL (dist : List Int) : List Int := if (cutL dist 1).length = 0 then [0] else cutL dist 1
def allL (lit dist : List Int) : List Int := cutL lit 257 ++ distL dist
def okH (lit dist : List Int) : Bool := decide (257 ≤ lit.length ∧ lit.length ≤ 286 ∧ dist.length ≤ 30 ∧ Code.check lit = 0 ∧ Code.check dist = 0 ∧ lit.getD 256 0 ≠ 0)
def freqF (rs : List (Int × Int)) (i : Nat) : Nat := rs.countP fun r => decide (r.1 = (i : Int))
def freqOf (rs : List (Int × Int)) : List Int := (List.range 19).map fun i => (freqF rs i : Int)
def hlens (rs : List (Int × Int)) : List Int := (Lens.lensN 7 (freqOf rs)).1
def ord : List Nat := [16, 17, 18, 0, 8, 7, 9, 6, 10, 5, 11, 4, 12, 3, 13, 2, 14, 1, 15]
def toldN (l : List Int) : Nat → Nat
  | 0 => 4
  | j + 1 => if 0 < l.getD (ord.getD j 0) 0 then max (toldN l j) (j + 1) else toldN l j
theorem toldN_ge (l : List Int) : ∀ j, 4 ≤ toldN l j
  | 0 => Nat.le_refl 4
  | j + 1 => by
    rw [toldN]
    have := toldN_ge l j
    split <;> omega
theorem toldN_le (l : List Int) : ∀ j, toldN l j ≤ max 4 j
  | 0 => Nat.le_refl 4
  | j + 1 => by
    rw [toldN]
    have := toldN_le l j
    split <;> omega
def kbits (s : Int) : Int := if s < 16 then 0 else if s = 16 then 2 else if s = 17 then 3 else 7
/-- a run that may be -/
def RunB (r : Int × Int) : Prop := 0 ≤ r.1 ∧ r.1 ≤ 18 ∧ leastN r.1 ≤ r.2 ∧ r.2 ≤ mostN r.1 ∧ r.2 - leastN r.1 < 2 ^ (kbits r.1).toNat
theorem runB_of (s c L M B : Int) (h0 : 0 ≤ s) (h1 : s ≤ 18) (hL : leastN s = L) (hM : mostN s = M) (hB : (2 : Int) ^ (kbits s).toNat = B) (h2 : L ≤ c) (h3 : c ≤ M) (h4 : c - L < B) : RunB (s, c) :=
  ⟨h0, h1, by simp only [hL]; exact h2, by simp only [hM]; exact h3, by simp only [hL, hB]; exact h4⟩
theorem sixes_run : ∀ (f k : Nat), (∀ r ∈ sixes f k, RunB r) ∧ (sixes f k).length ≤ sixed f k
  | 0, k => ⟨fun r h => by simp [sixes] at h, by simp [sixes]⟩
  | f + 1, k => by
    rw [sixes, sixed]
    by_cases h' : ¬ k < 3
    · have h : 3 ≤ k := by omega
      rw [if_neg h', if_neg h']
      obtain ⟨h1, h2⟩ := sixes_run f (k - min k 6)
      refine ⟨fun r hr => ?_, by simp only [List.length_cons]; omega⟩
      rcases List.mem_cons.1 hr with e | hr
      · subst e
        exact runB_of 16 _ 3 6 4 (by decide) (by decide) (by decide) (by decide) (by decide) (by omega) (by omega) (by omega)
      · exact h1 r hr
    · have h : k < 3 := by omega
      rw [if_pos h, if_pos h]
      exact ⟨fun r h => absurd h (by simp), Nat.zero_le _⟩
theorem row_run {v : Int} {k : Nat} (h0 : 0 ≤ v) (h1 : v ≤ 15) (hk : 1 ≤ k) : (∀ r ∈ rowOf v k, RunB r) ∧ (rowOf v k).length ≤ Runs.rowLen v k := by
  unfold rowOf Runs.rowLen
  by_cases hv : v = 0
  · subst hv
    rw [if_pos rfl, if_pos rfl]
    by_cases h11 : 11 ≤ k
    · rw [if_pos h11, if_pos h11]
      refine ⟨fun r hr => ?_, by simp only [List.length_cons, List.length_nil]; omega⟩
      rw [List.mem_singleton] at hr
      subst hr
      exact runB_of 18 _ 11 138 128 (by decide) (by decide) (by decide) (by decide) (by decide) (by omega) (by omega) (by omega)
    · rw [if_neg h11, if_neg h11]
      by_cases h3 : 3 ≤ k
      · rw [if_pos h3, if_pos h3]
        refine ⟨fun r hr => ?_, by simp only [List.length_cons, List.length_nil]; omega⟩
        rw [List.mem_singleton] at hr
        subst hr
        exact runB_of 17 _ 3 10 8 (by decide) (by decide) (by decide) (by decide) (by decide) (by omega) (by omega) (by omega)
      · rw [if_neg h3, if_neg h3]
        refine ⟨fun r hr => ?_, by simp⟩
        rw [List.mem_singleton] at hr
        subst hr
        exact runB_of 0 1 1 1 1 (by decide) (by decide) (by decide) (by decide) (by decide) (by decide) (by decide) (by decide)
  · rw [if_neg hv, if_neg hv]
    obtain ⟨h2, h3⟩ := sixes_run (k - 1) (k - 1)
    refine ⟨fun r hr => ?_, by simp only [List.length_cons]; omega⟩
    rcases List.mem_cons.1 hr with e | hr
    · subst e
      have e1 : leastN v = 1 := by unfold leastN; rw [if_pos (by omega)]
      have e2 : mostN v = 1 := by unfold mostN; rw [if_pos (by omega)]
      have e3 : kbits v = 0 := by unfold kbits; rw [if_pos (by omega)]
      exact runB_of v 1 1 1 1 h0 (by omega) e1 e2 (by rw [e3]; rfl) (by decide) (by decide) (by decide)
    · exact h2 r hr
theorem runsF_run : ∀ (f : Nat) (l : List Int), (∀ x ∈ l, 0 ≤ x ∧ x ≤ 15) → (∀ r ∈ runsF f l, RunB r) ∧ (runsF f l).length ≤ l.length
  | 0, l, _ => by cases l <;> exact ⟨fun r h => by simp [runsF] at h, by simp [runsF]⟩
  | f + 1, [], _ => ⟨fun r h => by simp [runsF] at h, by simp [runsF]⟩
  | f + 1, v :: t, h => by
    rw [runsF]
    have hv := h v (by simp)
    have hk : 1 ≤ lead v t + 1 := by omega
    obtain ⟨h1, h2⟩ := row_run hv.1 hv.2 hk
    obtain ⟨h3, h4⟩ := runsF_run f ((v :: t).drop (Runs.rowLen v (lead v t + 1))) (fun x hx => h x (List.mem_of_mem_drop hx))
    refine ⟨fun r hr => ?_, ?_⟩
    · rcases List.mem_append.1 hr with e | e
      · exact h1 r e
      · exact h3 r e
    · have := rowLen_le v hk
      have := lead_le v t
      rw [List.length_append]
      rw [List.length_drop] at h4
      simp only [List.length_cons] at h4 ⊢
      omega
theorem runs_run {l : List Int} (h : ∀ x ∈ l, 0 ≤ x ∧ x ≤ 15) : (∀ r ∈ runs l, RunB r) ∧ (runs l).length ≤ l.length := runsF_run _ l h
end Go.Proofs.Ytofajcifjmhomaa.Head
