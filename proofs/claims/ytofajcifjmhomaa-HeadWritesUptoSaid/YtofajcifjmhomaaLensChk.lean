/- The lengths that Lengths makes may be a code's: plain. No condition. -/
import Derived.Test.YtofajcifjmhomaaLensP
import Derived.Test.YtofajcifjmhomaaCodePlain5
set_option linter.unusedVariables false
set_option linter.unusedSimpArgs false
set_option maxRecDepth 100000
namespace Go.Proofs.Ytofajcifjmhomaa.Lens
open Go.RowKit Go.Proofs.Ytofajcifjmhomaa.Lib Go.Proofs.Ytofajcifjmhomaa.Ints Go.Proofs.Ytofajcifjmhomaa.Sorts Go.Proofs.Ytofajcifjmhomaa.Sort Go.Proofs.Ytofajcifjmhomaa.Pm Go.Proofs.Ytofajcifjmhomaa.Num
theorem lenOf_at {fs : List Int} {limit s : Nat} (h1 : 1 ≤ limit) (hn : (lvs fs).length ≤ 2 ^ limit) (hs : s < fs.length) : if 0 < fs[s] then 1 ≤ lenOf limit fs s else lenOf limit fs s = 0 := by
  split
  · rename_i hp
    obtain ⟨r, hr, e⟩ := mem_sy (mem_lv hs hp)
    have := lenOf_pos h1 hn hr
    rw [e] at this
    exact this
  · rename_i hp
    exact lenOf_none hn h1 (fun hs' => hp)
theorem spaceR_app (a b : List Int) : Code.spaceR (a ++ b) = Code.spaceR a + Code.spaceR b := by simp [Code.spaceR]
theorem sumL_app {α : Type} (f : α → Nat) : ∀ a b : List α, sumL f (a ++ b) = sumL f a + sumL f b
  | [], b => by simp [sumL]
  | x :: a, b => by simp only [List.cons_append, sumL, sumL_app f a b, Nat.add_assoc]
theorem spaceR_lens {fs : List Int} {limit : Nat} (h1 : 1 ≤ limit) (hn : (lvs fs).length ≤ 2 ^ limit) : ∀ k, k ≤ fs.length →
    Code.spaceR ((List.range k).map fun s => (lenOf limit fs s : Int)) = sumL (fun x => 2 ^ (15 - lenOf limit fs x.2)) (lv (fs.take k) 0) ∧ Code.usedR ((List.range k).map fun s => (lenOf limit fs s : Int)) = (lv (fs.take k) 0).length
  | 0, _ => ⟨rfl, rfl⟩
  | k + 1, h => by
    obtain ⟨i1, i2⟩ := spaceR_lens h1 hn k (by omega)
    have hk : k < fs.length := by omega
    have ha := lenOf_at h1 hn hk
    rw [List.range_succ, List.map_append, List.map_cons, List.map_nil, spaceR_app, lv_snoc hk, sumL_app, i1]
    unfold Code.usedR at i2 ⊢
    rw [List.countP_append, i2, List.length_append]
    by_cases hp : 0 < fs[k]
    · rw [if_pos hp] at ha
      rw [if_pos hp]
      simp only [Code.spaceR, sumL, List.map_cons, List.map_nil, List.sum_cons, List.sum_nil, List.countP_cons, List.countP_nil, List.length_cons, List.length_nil, Int.toNat_natCast]
      rw [if_pos (by omega), if_pos (by simpa using (show 0 < lenOf limit fs k by omega))]
      exact ⟨rfl, rfl⟩
    · rw [if_neg hp] at ha
      rw [if_neg hp, ha]
      exact ⟨rfl, rfl⟩
/-- the lengths are a code's -/
theorem lens_check {fs : List Int} {limit : Nat} (h1 : 1 ≤ limit) (h15 : limit ≤ 15) (hn : (lvs fs).length ≤ 2 ^ limit) (hl : fs.length ≤ 288) : Code.check ((List.range fs.length).map fun s => (lenOf limit fs s : Int)) = 0 := by
  rw [← Code.checkR_eq]
  obtain ⟨e1, e2⟩ := spaceR_lens h1 hn fs.length (Nat.le_refl _)
  rw [List.take_length] at e1 e2
  have hb : Code.bad ((List.range fs.length).map fun s => (lenOf limit fs s : Int)) = false := by
    unfold Code.bad
    refine decide_eq_false ?_
    rintro (h | ⟨x, hx, h⟩)
    · simp at h; omega
    · obtain ⟨s, _, rfl⟩ := List.mem_map.1 hx
      have := lenOf_le h1 hn s
      omega
  unfold Code.checkR
  rw [hb, if_neg (by decide), e1, e2, ← used_len]
  obtain ⟨w1, w2⟩ := lens_whole h1 h15 hn
  by_cases c0 : (lvs fs).length = 0
  · have : lv fs 0 = [] := List.eq_nil_of_length_eq_zero (by rw [← used_len]; exact c0)
    rw [this, c0, if_neg (by simp [sumL]), if_pos (.inr (.inl rfl))]
  · by_cases c1 : (lvs fs).length = 1
    · rw [w2 c1, c1, if_neg (by decide), if_pos (.inr (.inr ⟨rfl, rfl⟩))]
    · rw [w1 (by omega), if_neg (by decide), if_pos (.inl rfl)]
end Go.Proofs.Ytofajcifjmhomaa.Lens
