/- Texts of this claim, one behind the other: LensP, LensChk, BlkS, BlkRm, BlkRl, BlkRp. -/
import Derived.Test.YtlfckpmdmkccjaaLensE
import Derived.Test.YtlfckpmdmkccjaaCodePlain5
import Derived.Test.YtlfckpmdmkccjaaM01
import Derived.Test.YtlfckpmdmkccjaaLensR4
import Derived.Deep.CutRange
import Derived.Deep.Light
/- What lens.Lengths answers, plain: the whole space, the order, the best. No condition but the statements' own. -/
set_option maxRecDepth 100000
set_option linter.unusedVariables false
set_option linter.unusedSimpArgs false
namespace Go.Proofs.Ytlfckpmdmkccjaa.Lens
open Go.RowKit Go.Proofs.Ytlfckpmdmkccjaa.Lib Go.Proofs.Ytlfckpmdmkccjaa.Ints Go.Proofs.Ytlfckpmdmkccjaa.Sorts Go.Proofs.Ytlfckpmdmkccjaa.Sort Go.Proofs.Ytlfckpmdmkccjaa.Pm Go.Proofs.Ytlfckpmdmkccjaa.Num

theorem sumL_sumN {α : Type} (f : α → Nat) (d : α) : ∀ (l : List α), sumL f l = sumN (fun r => f (l.getD r d)) l.length
  | [] => rfl
  | x :: l => by
    have e : ∀ n (g : Nat → Nat), sumN g (n + 1) = g 0 + sumN (fun r => g (r + 1)) n := by
      intro n g
      induction n with
      | zero => simp [sumN]
      | succ n ih => rw [sumN, ih, sumN]; omega
    rw [sumL, List.length_cons, e, sumL_sumN f d l]
    simp
theorem sumL_map {α β : Type} (f : β → Nat) (g : α → β) : ∀ (l : List α), sumL f (l.map g) = sumL (fun x => f (g x)) l
  | [] => rfl
  | x :: l => by rw [List.map_cons, sumL, sumL, sumL_map f g l]
theorem sumN_lvs (fs : List Int) (g : Nat → Nat) : sumL (fun x => g x.2) (lv fs 0) = sumN (fun r => g (sy fs r)) (lvs fs).length := by
  rw [← sumL_perm (srt_ok fs 0).2, sumL_sumN _ (0, 0), lvs_len]
  rfl
theorem used_len (fs : List Int) : (lvs fs).length = (lv fs 0).length := by rw [lvs_len, (srt_ok fs 0).2.length_eq]
theorem mem_sy {fs : List Int} {x : Nat × Nat} (h : x ∈ lv fs 0) : ∃ r, r < (lvs fs).length ∧ sy fs r = x.2 := by
  obtain ⟨r, hr⟩ := List.mem_iff_getElem?.1 ((srt_ok fs 0).2.mem_iff.2 h)
  have hl : r < (srt (lv fs 0)).length := (List.getElem?_eq_some_iff.1 hr).1
  refine ⟨r, by rw [lvs_len]; exact hl, ?_⟩
  unfold sy
  rw [List.getD_eq_getElem?_getD, hr]; rfl
/-- in use -/
theorem mem_lv {fs : List Int} {i : Nat} (h : i < fs.length) (hp : 0 < fs[i]) : ((fs[i]).toNat, i) ∈ lv fs 0 := by
  have : ∀ (l : List Int) (s i : Nat) (h : i < l.length), 0 < l[i] → ((l[i]).toNat, s + i) ∈ lv l s := by
    intro l
    induction l with
    | nil => intro s i h; simp at h
    | cons f l ih =>
      intro s i h hp
      cases i with
      | zero =>
        simp only [List.getElem_cons_zero] at hp ⊢
        rw [lv, if_pos hp]
        simp
      | succ i =>
        simp only [List.getElem_cons_succ] at hp ⊢
        have := ih (s + 1) i (by simpa using h) hp
        rw [show s + 1 + i = s + (i + 1) from by omega] at this
        rw [lv]
        split
        · exact List.mem_cons_of_mem _ this
        · exact this
  simpa using this fs 0 i h hp
theorem sy_mem {fs : List Int} {r : Nat} (h : r < (lvs fs).length) : ∃ hs : sy fs r < fs.length, (lvs fs)[r] = .leaf (fs[sy fs r]).toNat (sy fs r) ∧ 0 < fs[sy fs r] := by
  obtain ⟨w, hw⟩ := lvs_leaves fs r h
  obtain ⟨s, hs, he, hp⟩ := lvs_mem (List.getElem_mem h)
  rw [hw] at he
  injection he with e1 e2
  subst e2
  exact ⟨hs, by rw [hw, e1], hp⟩
theorem lenOf_none {fs : List Int} {limit s : Nat} (hn : (lvs fs).length ≤ 2 ^ limit) (h1 : 1 ≤ limit) (h : ∀ (hs : s < fs.length), ¬ 0 < fs[s]) : lenOf limit fs s = 0 := by
  have hne : ∀ r, r < (lvs fs).length → sy fs r ≠ s := by
    intro r hr e
    obtain ⟨hs, _, hp⟩ := sy_mem hr
    subst e
    exact h hs hp
  unfold lenOf
  split
  · have := cl_none (lvs_leaves fs) hne (lvs fs).length
    rwa [List.take_of_length_le (Nat.le_refl _)] at this
  · have hl := long (lvs fs) (limit - 1) (by rw [show limit - 1 + 1 = limit from by omega]; exact hn)
    obtain ⟨a, ha⟩ := sel (lvs fs) (lvs_sd fs) (lvs_pos fs) (limit - 1) (2 * (lvs fs).length - 2) hl
    rw [ha.cl]
    have : sumN (fun k => cl ((lvs fs).take (a k)) s) (limit - 1 + 1) = sumN (fun _ => 0) (limit - 1 + 1) := sumN_congr _ fun k _ => cl_none (lvs_leaves fs) hne _
    rw [this, sumN_zero]
theorem lenOf_one {fs : List Int} {limit r : Nat} (h : (lvs fs).length = 1) (hr : r < (lvs fs).length) : lenOf limit fs (sy fs r) = 1 := by
  unfold lenOf
  rw [if_pos h]
  have := cl_take (lvs_leaves fs) (lvs_inj fs) hr (lvs fs).length (Nat.le_refl _)
  rw [List.take_of_length_le (Nat.le_refl _), if_pos hr] at this
  exact this
theorem lenOf_sel {fs : List Int} {limit : Nat} (h2 : 2 ≤ (lvs fs).length) (h1 : 1 ≤ limit) (hn : (lvs fs).length ≤ 2 ^ limit) :
    ∃ a, Sel (lvs fs) (limit - 1) (2 * (lvs fs).length - 2) a ∧ ∀ r, r < (lvs fs).length → lenOf limit fs (sy fs r) = lenR a (limit - 1) r := by
  have hl := long (lvs fs) (limit - 1) (by rw [show limit - 1 + 1 = limit from by omega]; exact hn)
  obtain ⟨a, ha⟩ := sel (lvs fs) (lvs_sd fs) (lvs_pos fs) (limit - 1) (2 * (lvs fs).length - 2) hl
  refine ⟨a, ha, fun r hr => ?_⟩
  unfold lenOf
  rw [if_neg (by omega)]
  exact cl_len (lvs_leaves fs) (lvs_inj fs) ha hr
theorem lenOf_pos {fs : List Int} {limit r : Nat} (h1 : 1 ≤ limit) (hn : (lvs fs).length ≤ 2 ^ limit) (hr : r < (lvs fs).length) : 1 ≤ lenOf limit fs (sy fs r) := by
  by_cases h : (lvs fs).length = 1
  · rw [lenOf_one h hr]; exact Nat.le_refl _
  · obtain ⟨a, ha, hlen⟩ := lenOf_sel (by omega) h1 hn
    rw [hlen r hr]
    exact pm_pos ha (by omega) hr
/-- P4.4 -/
theorem lens_whole {fs : List Int} {limit : Nat} (h1 : 1 ≤ limit) (h15 : limit ≤ 15) (hn : (lvs fs).length ≤ 2 ^ limit) :
    (2 ≤ (lvs fs).length → sumL (fun x => 2 ^ (15 - lenOf limit fs x.2)) (lv fs 0) = 2 ^ 15) ∧ ((lvs fs).length = 1 → sumL (fun x => 2 ^ (15 - lenOf limit fs x.2)) (lv fs 0) = 2 ^ 14) := by
  rw [sumN_lvs fs (fun s => 2 ^ (15 - lenOf limit fs s))]
  constructor
  · intro h2
    obtain ⟨a, ha, hlen⟩ := lenOf_sel h2 h1 hn
    have hw := pm_whole ha h2
    have e : ∀ r, r < (lvs fs).length → 2 ^ (15 - lenOf limit fs (sy fs r)) = 2 ^ (15 - limit) * 2 ^ (limit - 1 + 1 - lenR a (limit - 1) r) := by
      intro r hr
      have := lenR_le a (limit - 1) r
      rw [hlen r hr, ← Nat.pow_add]
      congr 1; omega
    rw [sumN_congr _ e, sumN_mul, hw, ← Nat.pow_add, show 15 - limit + (limit - 1 + 1) = 15 from by omega]
  · intro h2
    rw [h2]
    simp only [sumN, lenOf_one h2 (show 0 < (lvs fs).length by omega)]
/-- P4.6 -/
theorem lens_order {fs : List Int} {limit i k : Nat} (h1 : 1 ≤ limit) (hn : (lvs fs).length ≤ 2 ^ limit) (hi : i < fs.length) (hk : k < fs.length) (hp : 0 < fs[i]) (h : fs[i] < fs[k] ∨ (fs[k] = fs[i] ∧ i < k)) :
    lenOf limit fs k ≤ lenOf limit fs i := by
  obtain ⟨r, hr, e1⟩ := mem_sy (mem_lv hi hp)
  obtain ⟨r', hr', e2⟩ := mem_sy (mem_lv hk (by omega))
  simp only at e1 e2
  have hrr : r < r' := by
    have hs := (srt_ok fs 0).1
    rw [List.pairwise_iff_getElem] at hs
    have g : ∀ q, (hq : q < (lvs fs).length) → ∃ x, (srt (lv fs 0))[q]? = some x ∧ x.2 = sy fs q ∧ ∃ hh : x.2 < fs.length, x.1 = (fs[x.2]).toNat := by
      intro q hq
      rw [lvs_len] at hq
      refine ⟨(srt (lv fs 0))[q], List.getElem?_eq_getElem hq, by simp [sy, hq], ?_⟩
      obtain ⟨_, a2, _, a4⟩ := lv_mem fs 0 _ ((srt_ok fs 0).2.mem_iff.1 (List.getElem_mem hq))
      simp only [Nat.sub_zero] at a2 a4
      exact ⟨a2, a4⟩
    obtain ⟨x, x1, x2, x3, x4⟩ := g r hr
    obtain ⟨y, y1, y2, y3, y4⟩ := g r' hr'
    rw [lvs_len] at hr hr'
    rw [List.getElem?_eq_getElem hr] at x1
    rw [List.getElem?_eq_getElem hr'] at y1
    injection x1 with x1
    injection y1 with y1
    have ex : x.2 = i := by rw [x2, e1]
    have ey : y.2 = k := by rw [y2, e2]
    obtain ⟨xa, xb⟩ := x
    obtain ⟨ya, yb⟩ := y
    simp only at ex ey x4 y4
    subst ex ey
    by_cases c : r < r'
    · exact c
    · exfalso
      by_cases c2 : r = r'
      · subst c2
        rw [x1] at y1
        injection y1 with q1 q2
        subst q2
        omega
      · have := hs r' r hr' hr (by omega)
        rw [x1, y1] at this
        unfold lx ky rk at this
        simp only at this
        omega
  rw [← e1, ← e2]
  obtain ⟨a, ha, hlen⟩ := lenOf_sel (limit := limit) (show 2 ≤ (lvs fs).length by omega) h1 hn
  rw [hlen r hr, hlen r' hr']
  exact lenR_anti a _ (by omega)
/-- what a code of these lengths costs -/
theorem lens_cost {fs : List Int} {limit : Nat} (h1 : 1 ≤ limit) (hn : (lvs fs).length ≤ 2 ^ limit) (h2 : 2 ≤ (lvs fs).length) :
    sumL (fun x => x.1 * lenOf limit fs x.2) (lv fs 0) = ws ((row (lvs fs) (limit - 1)).take (2 * (lvs fs).length - 2)) := by
  obtain ⟨a, ha, hlen⟩ := lenOf_sel h2 h1 hn
  rw [pm_cost ha, ← sumL_perm (srt_ok fs 0).2, sumL_sumN _ (0, 0), ← lvs_len]
  refine sumN_congr _ fun r hr => ?_
  rw [dif_pos hr]
  have hr' : r < (srt (lv fs 0)).length := by rw [← lvs_len]; exact hr
  have e : lenOf limit fs (sy fs r) = lenR a (limit - 1) r := hlen r hr
  unfold sy at e
  rw [e]
  simp only [lvs, List.getElem_map, T.wt, List.getD_eq_getElem?_getD, List.getElem?_eq_getElem hr', Option.getD_some]
/-- P4.5 -/
theorem lens_best {fs : List Int} {limit : Nat} (h1 : 1 ≤ limit) (h15 : limit ≤ 15) (hn : (lvs fs).length ≤ 2 ^ limit) (o : Nat → Nat) (ho : ∀ x ∈ lv fs 0, 1 ≤ o x.2 ∧ o x.2 ≤ limit) (hk : sumL (fun x => 2 ^ (15 - o x.2)) (lv fs 0) ≤ 2 ^ 15) :
    sumL (fun x => x.1 * lenOf limit fs x.2) (lv fs 0) ≤ sumL (fun x => x.1 * o x.2) (lv fs 0) := by
  by_cases h2 : 2 ≤ (lvs fs).length
  · rw [lens_cost h1 hn h2]
    have e1 : sumL (fun t => t.wt * (fun t : T => match t with | .leaf _ s => o s | .pack _ _ => 0) t) (lvs fs) = sumL (fun x => x.1 * o x.2) (lv fs 0) := by
      unfold lvs
      rw [sumL_map, sumL_perm (srt_ok fs 0).2]
      rfl
    rw [← e1]
    refine pm_best (lvs fs) (lvs_sd fs) (limit - 1) _ (fun t ht => ?_) ?_
    · unfold lvs at ht
      obtain ⟨x, hx, rfl⟩ := List.mem_map.1 ht
      have := (ho x ((srt_ok fs 0).2.mem_iff.1 hx)).2
      simp only; omega
    · have e2 : sumL (fun t => 2 ^ (limit - 1 + 1 - (fun t : T => match t with | .leaf _ s => o s | .pack _ _ => 0) t)) (lvs fs) = sumL (fun x => 2 ^ (limit - o x.2)) (lv fs 0) := by
        unfold lvs
        rw [sumL_map, sumL_perm (srt_ok fs 0).2]
        exact sumL_congr _ fun x _ => by simp only [show limit - 1 + 1 = limit from by omega]
      rw [e2, show limit - 1 + 1 = limit from by omega]
      have e3 : sumL (fun x => 2 ^ (15 - o x.2)) (lv fs 0) = 2 ^ (15 - limit) * sumL (fun x => 2 ^ (limit - o x.2)) (lv fs 0) := by
        have : ∀ (l : List (Nat × Nat)), (∀ x ∈ l, o x.2 ≤ limit) → sumL (fun x => 2 ^ (15 - o x.2)) l = 2 ^ (15 - limit) * sumL (fun x => 2 ^ (limit - o x.2)) l := by
          intro l
          induction l with
          | nil => intro _; simp [sumL]
          | cons x l ih =>
            intro hl
            have hx := hl x (by simp)
            rw [sumL, sumL, ih (fun y hy => hl y (by simp [hy])), Nat.mul_add, ← Nat.pow_add]
            congr 2; omega
        exact this _ fun x hx => (ho x hx).2
      rw [e3] at hk
      have e4 : 2 ^ 15 = 2 ^ (15 - limit) * 2 ^ limit := by rw [← Nat.pow_add]; congr 1; omega
      rw [e4] at hk
      exact Nat.le_of_mul_le_mul_left hk (Nat.two_pow_pos _)
  · by_cases h0 : (lvs fs).length = 1
    · have hle : ∀ x ∈ lv fs 0, x.1 * lenOf limit fs x.2 ≤ x.1 * o x.2 := by
        intro x hx
        obtain ⟨r, hr, e⟩ := mem_sy hx
        rw [← e, lenOf_one h0 hr, e]
        exact Nat.mul_le_mul_left _ (ho x hx).1
      exact sumL_le _ hle
    · have : lv fs 0 = [] := List.eq_nil_of_length_eq_zero (by rw [← used_len]; omega)
      rw [this]; exact Nat.le_refl _
end Go.Proofs.Ytlfckpmdmkccjaa.Lens
/- The lengths that Lengths makes may be a code's: plain. No condition. -/
set_option linter.unusedVariables false
set_option linter.unusedSimpArgs false
set_option maxRecDepth 100000
namespace Go.Proofs.Ytlfckpmdmkccjaa.Lens
open Go.RowKit Go.Proofs.Ytlfckpmdmkccjaa.Lib Go.Proofs.Ytlfckpmdmkccjaa.Ints Go.Proofs.Ytlfckpmdmkccjaa.Sorts Go.Proofs.Ytlfckpmdmkccjaa.Sort Go.Proofs.Ytlfckpmdmkccjaa.Pm Go.Proofs.Ytlfckpmdmkccjaa.Num
theorem lenOf_at {fs : List Int} {limit s : Nat} (h1 : 1 ≤ limit) (hn : (lvs fs).length ≤ 2 ^ limit) (hs : s < fs.length) : if 0 < fs[s] then 1 ≤ lenOf limit fs s else lenOf limit fs s = 0 := by
  split
  · rename_i hp
    obtain ⟨r, hr, e⟩ := mem_sy (mem_lv hs hp)
    have := lenOf_pos h1 hn hr
    rw [e] at this
    exact this
  · rename_i hp
    exact lenOf_none hn h1 (fun hs' => hp)
theorem spaceR_app (a b : List Int) : Code.spaceR (a ++ b) = Code.spaceR a + Code.spaceR b := by simp [Code.spaceR]
theorem sumL_app {α : Type} (f : α → Nat) : ∀ a b : List α, sumL f (a ++ b) = sumL f a + sumL f b
  | [], b => by simp [sumL]
  | x :: a, b => by simp only [List.cons_append, sumL, sumL_app f a b, Nat.add_assoc]
theorem spaceR_lens {fs : List Int} {limit : Nat} (h1 : 1 ≤ limit) (hn : (lvs fs).length ≤ 2 ^ limit) : ∀ k, k ≤ fs.length →
    Code.spaceR ((List.range k).map fun s => (lenOf limit fs s : Int)) = sumL (fun x => 2 ^ (15 - lenOf limit fs x.2)) (lv (fs.take k) 0) ∧ Code.usedR ((List.range k).map fun s => (lenOf limit fs s : Int)) = (lv (fs.take k) 0).length
  | 0, _ => ⟨rfl, rfl⟩
  | k + 1, h => by
    obtain ⟨i1, i2⟩ := spaceR_lens h1 hn k (by omega)
    have hk : k < fs.length := by omega
    have ha := lenOf_at h1 hn hk
    rw [List.range_succ, List.map_append, List.map_cons, List.map_nil, spaceR_app, lv_snoc hk, sumL_app, i1]
    unfold Code.usedR at i2 ⊢
    rw [List.countP_append, i2, List.length_append]
    by_cases hp : 0 < fs[k]
    · rw [if_pos hp] at ha
      rw [if_pos hp]
      simp only [Code.spaceR, sumL, List.map_cons, List.map_nil, List.sum_cons, List.sum_nil, List.countP_cons, List.countP_nil, List.length_cons, List.length_nil, Int.toNat_natCast]
      rw [if_pos (by omega), if_pos (by simpa using (show 0 < lenOf limit fs k by omega))]
      exact ⟨rfl, rfl⟩
    · rw [if_neg hp] at ha
      rw [if_neg hp, ha]
      exact ⟨rfl, rfl⟩
/-- the lengths are a code's -/
theorem lens_check {fs : List Int} {limit : Nat} (h1 : 1 ≤ limit) (h15 : limit ≤ 15) (hn : (lvs fs).length ≤ 2 ^ limit) (hl : fs.length ≤ 288) : Code.check ((List.range fs.length).map fun s => (lenOf limit fs s : Int)) = 0 := by
  rw [← Code.checkR_eq]
  obtain ⟨e1, e2⟩ := spaceR_lens h1 hn fs.length (Nat.le_refl _)
  rw [List.take_length] at e1 e2
  have hb : Code.bad ((List.range fs.length).map fun s => (lenOf limit fs s : Int)) = false := by
    unfold Code.bad
    refine decide_eq_false ?_
    rintro (h | ⟨x, hx, h⟩)
    · simp at h; omega
    · obtain ⟨s, _, rfl⟩ := List.mem_map.1 hx
      have := lenOf_le h1 hn s
      omega
  unfold Code.checkR
  rw [hb, if_neg (by decide), e1, e2, ← used_len]
  obtain ⟨w1, w2⟩ := lens_whole h1 h15 hn
  by_cases c0 : (lvs fs).length = 0
  · have : lv fs 0 = [] := List.eq_nil_of_length_eq_zero (by rw [← used_len]; exact c0)
    rw [this, c0, if_neg (by simp [sumL]), if_pos (.inr (.inl rfl))]
  · by_cases c1 : (lvs fs).length = 1
    · rw [w2 c1, c1, if_neg (by decide), if_pos (.inr (.inr ⟨rfl, rfl⟩))]
    · rw [w1 (by omega), if_neg (by decide), if_pos (.inl rfl)]
end Go.Proofs.Ytlfckpmdmkccjaa.Lens
/- Chapter 09: the lengths of a block's own codes. Conditions: at most 2^40 tokens. -/
set_option linter.unusedVariables false
set_option linter.unusedSimpArgs false
set_option maxRecDepth 100000
namespace Go.Proofs.Ytlfckpmdmkccjaa.Blk
open Go.RowKit Go.Proofs.Ytlfckpmdmkccjaa.Lib Go.Proofs.Ytlfckpmdmkccjaa.Ints Go.Proofs.Ytlfckpmdmkccjaa.Lz
/-! ### counts -/
def frq (N : Nat) (xs : List Int) : List Int := (List.range N).map fun i => (Code.cnt xs i : Int)
theorem frq_len (N : Nat) (xs : List Int) : (frq N xs).length = N := by simp [frq]
theorem cnt_snoc (xs : List Int) (x : Int) (i : Nat) : Code.cnt (xs ++ [x]) i = Code.cnt xs i + if x = (i : Int) then 1 else 0 := by
  unfold Code.cnt
  rw [List.countP_append, List.countP_cons, List.countP_nil]
  by_cases h : x = (i : Int) <;> simp [h]
theorem cnt_le (xs : List Int) (i : Nat) : Code.cnt xs i ≤ xs.length := List.countP_le_length
theorem frq_get {N : Nat} (xs : List Int) {s : Nat} (h : s < N) : (i64s (frq N xs)).toArray[s]? = some (.int .i64 (Code.cnt xs s : Nat)) := by
  rw [List.getElem?_toArray, i64s_get]; simp [frq, h]
theorem frq_set {N : Nat} (xs : List Int) {s : Nat} (h : s < N) : (i64s (frq N xs)).toArray.setIfInBounds s (.int .i64 ((Code.cnt xs s : Nat) + 1 : Int)) = (i64s (frq N (xs ++ [(s : Int)]))).toArray := by
  apply Array.ext_getElem?
  intro k
  rw [Array.getElem?_setIfInBounds]
  by_cases hk : k < N
  · rw [frq_get _ hk, frq_get _ hk, cnt_snoc]
    by_cases e : s = k
    · subst e
      rw [if_pos rfl, if_pos (by simp [i64s, frq]; exact h), if_pos rfl]
      rfl
    · rw [if_neg e, if_neg (by omega), Nat.add_zero]
  · rw [if_neg (by omega)]
    simp only [List.getElem?_toArray]
    rw [List.getElem?_eq_none (by simp [i64s, frq]; omega), List.getElem?_eq_none (by simp [i64s, frq]; omega)]
theorem frq_fine {N : Nat} {xs : List Int} (h : xs.length ≤ 1099511627776) (hN : N ≤ 288) : Lens.cn (frq N xs) = 0 := by
  unfold Lens.cn
  rw [if_neg (by rw [frq_len]; omega), Lens.out_false, if_neg (by decide)]
  intro i hi
  have h1 := cnt_le xs i
  simp only [frq, List.getElem_map, List.getElem_range]
  omega
theorem lvs_frq {N : Nat} (xs : List Int) (hN : N ≤ 288) : (Lens.lvs (frq N xs)).length ≤ 2 ^ 15 := by
  have := Lens.lvs_le (frq N xs)
  rw [frq_len] at this
  have e : 2 ^ 15 = 32768 := rfl
  omega
theorem lens15_eq {N : Nat} {xs : List Int} (h : xs.length ≤ 1099511627776) (hN : N ≤ 288) : Lens.lensN 15 (frq N xs) = ((List.range N).map fun s => (Lens.lenOf 15 (frq N xs) s : Int), 0) := by
  unfold Lens.lensN
  rw [if_neg (by decide), if_neg (by rw [frq_fine h hN]; decide), if_neg (by have := lvs_frq xs hN; have e : (15 : Int).toNat = 15 := rfl; rw [e]; omega), frq_len]
  rfl
def symsA (l : List Tok) : List Int := l.map fun t => (sgA t).1
def symsB : List Tok → List Int
  | [] => []
  | t :: l => (if t.len = 0 then [] else [(sgB t).1]) ++ symsB l
theorem symsB_app : ∀ a b, symsB (a ++ b) = symsB a ++ symsB b
  | [], b => rfl
  | t :: a, b => by simp only [List.cons_append, symsB, symsB_app a b, List.append_assoc]
theorem symsB_take {l : List Tok} {j : Nat} (h : j < l.length) : symsB (l.take (j + 1)) = symsB (l.take j) ++ if l[j].len = 0 then [] else [(sgB l[j]).1] := by
  rw [List.take_succ_eq_append_getElem h, symsB_app]; simp [symsB]
theorem symsA_take {l : List Tok} {j : Nat} (h : j < l.length) : symsA (l.take (j + 1)) = symsA (l.take j) ++ [(sgA l[j]).1] := by
  unfold symsA
  rw [List.take_succ_eq_append_getElem h, List.map_append]; rfl
theorem symsB_len : ∀ l : List Tok, (symsB l).length ≤ l.length
  | [] => Nat.le_refl 0
  | t :: l => by
    have := symsB_len l
    simp only [symsB, List.length_append, List.length_cons]
    split <;> simp <;> omega
theorem symsA_len (l : List Tok) : (symsA l).length = l.length := by simp [symsA]
def litFrq (l : List Tok) : List Int := frq 286 (symsA l ++ [256])
def distFrq (l : List Tok) : List Int := frq 30 (symsB l)
def ownLit (l : List Tok) : List Int := (List.range 286).map fun s => (Lens.lenOf 15 (litFrq l) s : Int)
def ownDist (l : List Tok) : List Int := (List.range 30).map fun s => (Lens.lenOf 15 (distFrq l) s : Int)
theorem ownLit_len (l : List Tok) : (ownLit l).length = 286 := by simp [ownLit]
theorem ownDist_len (l : List Tok) : (ownDist l).length = 30 := by simp [ownDist]
theorem litFrq_eq {l : List Tok} (h : l.length ≤ 65536) : Lens.lensN 15 (litFrq l) = (ownLit l, 0) := lens15_eq (by rw [List.length_append, symsA_len]; simp; omega) (by decide)
theorem distFrq_eq {l : List Tok} (h : l.length ≤ 65536) : Lens.lensN 15 (distFrq l) = (ownDist l, 0) := lens15_eq (by have := symsB_len l; omega) (by decide)
theorem ownLit_check (l : List Tok) : Code.check (ownLit l) = 0 := by
  have := Lens.lens_check (fs := litFrq l) (limit := 15) (by decide) (by decide) (lvs_frq _ (by decide)) (by unfold litFrq; rw [frq_len]; decide)
  unfold litFrq at this
  rwa [frq_len] at this
theorem ownDist_check (l : List Tok) : Code.check (ownDist l) = 0 := by
  have := Lens.lens_check (fs := distFrq l) (limit := 15) (by decide) (by decide) (lvs_frq _ (by decide)) (by unfold distFrq; rw [frq_len]; decide)
  unfold distFrq at this
  rwa [frq_len] at this
theorem check15 {l : List Int} (h : Code.check l = 0) : Lens15 l := (Code.bad_false (Code.check_zero h).1).2
/-- what OwnLens leaves -/
def OwnPost (w : World) (l : List Tok) (e : Ending) (w' : World) : Prop :=
  (mayB l = 0 → ∃ A c B d, e = .returned (.tuple #[.slice A 286 c, .slice B 30 d, .int .i64 0]) ∧ w'.ownsRow 0 3 1 (.slice A 286 c) 286 (i64s (ownLit l)) ∧ w'.ownsRow 0 3 1 (.slice B 30 d) 30 (i64s (ownDist l)) ∧
    (∀ k, (Value.slice A 286 c).ownBlock = some k → w.heap.size ≤ k ∧ (Value.slice B 30 d).ownBlock ≠ some k) ∧ (∀ k, (Value.slice B 30 d).ownBlock = some k → w.heap.size ≤ k) ∧ Fr w w' []) ∧
  (mayB l ≠ 0 → e = .returned (.tuple #[.slice none 0 0, .slice none 0 0, .int .i64 (mayB l)]) ∧ Fr w w' [])
theorem zero286 : ∀ W : World, (zeroValue 64).run Try.prog W = .ok (.agg (i64s (frq 286 [])).toArray) W := fun W => by kernel_rfl
theorem zero30 : ∀ W : World, (zeroValue 65).run Try.prog W = .ok (.agg (i64s (frq 30 [])).toArray) W := fun W => by kernel_rfl
set_option maxHeartbeats 8000000 in
theorem ownLens_any (w : World) (A : Option Addr) (n c : Nat) (l : List Tok) (p : Option Nat) (hn : l.length = n) (hS : Sl w A (tcells l) p) (hb : n ≤ 6000000000000) (hl : LitB l) :
    Calls Try.prog 9 #[.slice A n c] w (OwnPost w l) := by
  have HS := Hd.mk hS
  have HL := Hd.mk hl
  obtain ⟨e, he⟩ : ∃ e, e = mayB l := ⟨_, rfl⟩
  have HE := Hd.mk he
  clear hS hl he
  have hz1 := zero286
  have hz2 := zero30
  go_enter Try.func9, Try.ntmps9
  go_wp2_with (fail)
  refine (may_any w A n c l p hn HS.out hb e HE.out).mono ?_
  rintro r w1 ⟨rfl, h1⟩
  have F1 := Hd.mk h1
  clear h1
  by_cases h : e = 0
  · subst h
    have hz := mayB_zero HE.out.symm
    have HZ := Hd.mk hz.2
    have hz3 := hz.1
    clear hz
    go_upto_region 6 with (fail)
    clear hz1 hz2
    have X2 : Hd (((w1.alloc (.cells (i64s (frq 286 [])).toArray 64)).alloc (.cells (i64s (frq 30 [])).toArray 65)).heap[w1.heap.size]? = some (.cells (i64s (frq 286 [])).toArray 64 (0, 0))) := ⟨blk_alloc (blk_new w1 _) _⟩
    have Y2 : Hd (((w1.alloc (.cells (i64s (frq 286 [])).toArray 64)).alloc (.cells (i64s (frq 30 [])).toArray 65)).heap[w1.heap.size + 1]? = some (.cells (i64s (frq 30 [])).toArray 65 (0, 0))) := ⟨by simpa using blk_new (w1.alloc _) _⟩
    have F2 := Hd.mk ((F1.out.alloc (.cells (i64s (frq 286 [])).toArray 64)).alloc (.cells (i64s (frq 30 [])).toArray 65))
    have hgx : w.heap.size ≤ w1.heap.size := F1.out.size
    clear F1
    generalize (w1.alloc (.cells (i64s (frq 286 [])).toArray 64)).alloc (.cells (i64s (frq 30 [])).toArray 65) = w2 at *
    generalize w1.heap.size = gx at *
    have X3 : Hd (w2.heap[gx]? = some (.cells (i64s (frq 286 (symsA (l.take 0)))).toArray 64 (0, 0))) := ⟨X2.out⟩
    have Y3 : Hd (w2.heap[gx + 1]? = some (.cells (i64s (frq 30 (symsB (l.take 0)))).toArray 65 (0, 0))) := ⟨Y2.out⟩
    clear X2 Y2
    go_wp2
    go_loopg [22] l.length (fun kq jv wr => ∃ j : Nat, jv = .int .i64 (j : Nat) ∧ j + kq = l.length ∧ Hd (wr.heap[gx]? = some (.cells (i64s (frq 286 (symsA (l.take j)))).toArray 64 (0, 0))) ∧ Hd (wr.heap[gx + 1]? = some (.cells (i64s (frq 30 (symsB (l.take j)))).toArray 65 (0, 0))) ∧ Hd (Fr w wr []))
    case atStart => exact ⟨0, rfl, by omega, X3, Y3, F2⟩
    case round =>
      obtain ⟨j, rfl, hj, HX, HY, HF⟩ := hrel
      have hca := symsA_len (l.take j)
      have hcb := symsB_len (l.take j)
      rw [List.length_take] at hca hcb
      by_cases h1 : j < l.length
      · obtain ⟨a, o1, rfl, _, hcc⟩ := Sl.row (enc := tcell) (sz := 3) (fun _ => rfl) (HS.out.frame HF.out (by simp)) h1 (by decide)
        obtain ⟨t, ht⟩ : ∃ t, t = l[j] := ⟨_, rfl⟩
        rw [← ht] at hcc
        have c0 := hcc 0 (by decide)
        have c1 := hcc 1 (by decide)
        have c2 := hcc 2 (by decide)
        simp only [tcell, List.getElem?_cons_zero, List.getElem?_cons_succ, Nat.add_zero] at c0 c1 c2
        have htm : t ∈ l := by rw [ht]; exact List.getElem_mem h1
        have hrt := HZ.out t htm
        have hlt := HL.out t htm
        have HTA : Hd (symsA (l.take (j + 1)) = symsA (l.take j) ++ [(sgA t).1]) := ⟨by rw [symsA_take h1, ht]⟩
        have HTB : Hd (symsB (l.take (j + 1)) = symsB (l.take j) ++ if t.len = 0 then [] else [(sgB t).1]) := ⟨by rw [symsB_take h1, ht]⟩
        have sa := (sgA_fit hrt hlt).1
        have sb := sgB_fit hrt
        clear hcc ht htm
        generalize symsA (l.take j) = SA at *
        generalize symsB (l.take j) = SB at *
        go_wp2_with (fail)
        refine (signs_any _ t hlt).mono ?_
        rintro r w3 ⟨rfl, h2⟩
        have f3 := ((Fr.refl wr []).alloc (.cells #[.int .u8 t.lit, .int .i64 t.len, .int .i64 t.dist] 58)).trans h2 (by simp)
        have F3 := Hd.mk (HF.out.trans f3 (by simp))
        have X4 := Hd.mk (f3.blk HX.out (by simp))
        have Y4 := Hd.mk (f3.blk HY.out (by simp))
        clear h2 f3 HX HY
        obtain ⟨⟨sx, vx, bxx⟩, hsa⟩ : ∃ x, x = sgA t := ⟨_, rfl⟩
        obtain ⟨⟨sy, vy, byy⟩, hsb2⟩ : ∃ x, x = sgB t := ⟨_, rfl⟩
        rw [← hsa] at sa HTA ⊢
        rw [← hsb2] at sb HTB ⊢
        obtain ⟨⟨a1, a2⟩, _, _, _⟩ := sa
        obtain ⟨⟨b1, b2⟩, _, _, _⟩ := sb
        clear hsa hsb2
        simp only at a1 a2 b1 b2 HTA HTB
        obtain ⟨sx, rfl⟩ := Int.eq_ofNat_of_zero_le a1
        obtain ⟨sy, rfl⟩ := Int.eq_ofNat_of_zero_le b1
        simp only [sgV]
        obtain ⟨mt, hmt⟩ : ∃ m, m = decide (t.len ≠ 0) := ⟨_, rfl⟩
        rw [← hmt]
        have HMT := Hd.mk hmt
        clear hmt
        go_upto_region 10 with (fail)
        have B1 : Hd (((w3.alloc (.cells #[.int .i64 (sx : Nat), .int .i64 vx, .int .i64 bxx] 69)).alloc (.cells #[.int .i64 (sy : Nat), .int .i64 vy, .int .i64 byy] 69)).heap[w3.heap.size]? = some (.cells #[.int .i64 (sx : Nat), .int .i64 vx, .int .i64 bxx] 69 (0, 0))) := ⟨blk_alloc (blk_new w3 _) _⟩
        have B2 : Hd (((w3.alloc (.cells #[.int .i64 (sx : Nat), .int .i64 vx, .int .i64 bxx] 69)).alloc (.cells #[.int .i64 (sy : Nat), .int .i64 vy, .int .i64 byy] 69)).heap[w3.heap.size + 1]? = some (.cells #[.int .i64 (sy : Nat), .int .i64 vy, .int .i64 byy] 69 (0, 0))) := ⟨by simpa using blk_new (w3.alloc _) _⟩
        have f4 := ((Fr.refl w3 []).alloc (.cells #[.int .i64 (sx : Nat), .int .i64 vx, .int .i64 bxx] 69)).alloc (.cells #[.int .i64 (sy : Nat), .int .i64 vy, .int .i64 byy] 69)
        have F4 := Hd.mk (F3.out.trans f4 (by simp))
        have X5 := Hd.mk (f4.blk X4.out (by simp))
        have Y5 := Hd.mk (f4.blk Y4.out (by simp))
        clear f4 F3 X4 Y4
        generalize (w3.alloc (.cells #[.int .i64 (sx : Nat), .int .i64 vx, .int .i64 bxx] 69)).alloc (.cells #[.int .i64 (sy : Nat), .int .i64 vy, .int .i64 byy] 69) = w4 at *
        generalize w3.heap.size = g at *
        have n1 : gx + 1 ≠ gx := by omega
        have n2 : g + 1 ≠ gx := blk_ne B2.out X5.out (by decide)
        have d0 := blk_cell B1.out 0
        simp only [List.getElem?_toArray, List.getElem?_cons_zero, List.getElem?_cons_succ] at d0
        have kx := (blk_cell X5.out sx).trans (frq_get SA (s := sx) (by omega))
        have fx := blk_frozen X5.out sx
        have hcx := cnt_le SA sx
        have X6 := Hd.mk (blk_set X5.out sx (.int .i64 ((Code.cnt SA sx : Nat) + 1 : Int)))
        rw [frq_set SA (by omega), ← HTA.out] at X6
        have Y6 := Hd.mk (blk_far Y5.out (p := ⟨gx, sx, none⟩) n1 (.int .i64 ((Code.cnt SA sx : Nat) + 1 : Int)))
        have B6 := Hd.mk (blk_far B2.out (p := ⟨gx, sx, none⟩) n2 (.int .i64 ((Code.cnt SA sx : Nat) + 1 : Int)))
        have F6 := Hd.mk (F4.out.setCell (a := ⟨gx, sx, none⟩) (.int .i64 ((Code.cnt SA sx : Nat) + 1 : Int)) (.inr hgx))
        generalize Code.cnt SA sx = cx at *
        have hcx2 : (cx : Int) ≤ 65536 := by omega
        clear hcx
        cases mt with
        | false =>
          have hlen0 : t.len = 0 := by have := HMT.out; simpa using this
          rw [if_pos hlen0, List.append_nil] at HTB
          go_wp2
          go_roundg (gk - 1)
          case measure => omega
          case rel => exact ⟨j + 1, by go_num, by omega, X6, ⟨by rw [HTB.out]; exact Y6.out⟩, F6⟩
        | true =>
          have hlen0 : ¬ t.len = 0 := by have := HMT.out; simpa using this
          rw [if_neg hlen0] at HTB
          go_upto_region 11 with (fail)
          generalize w4.setCell ⟨gx, sx, none⟩ (.int .i64 ((cx : Nat) + 1 : Int)) = w5 at *
          have e0 := blk_cell B6.out 0
          simp only [List.getElem?_toArray, List.getElem?_cons_zero, List.getElem?_cons_succ] at e0
          have ky := (blk_cell Y6.out sy).trans (frq_get SB (s := sy) (by omega))
          have fy := blk_frozen Y6.out sy
          have hcy := cnt_le SB sy
          have Y7 := Hd.mk (blk_set Y6.out sy (.int .i64 ((Code.cnt SB sy : Nat) + 1 : Int)))
          rw [frq_set SB (by omega), ← HTB.out] at Y7
          have X7 := Hd.mk (blk_far X6.out (p := ⟨gx + 1, sy, none⟩) n1.symm (.int .i64 ((Code.cnt SB sy : Nat) + 1 : Int)))
          have F7 := Hd.mk (F6.out.setCell (a := ⟨gx + 1, sy, none⟩) (.int .i64 ((Code.cnt SB sy : Nat) + 1 : Int)) (.inr (show w.heap.size ≤ gx + 1 by omega)))
          generalize Code.cnt SB sy = cy at *
          have hcy2 : (cy : Int) ≤ 65536 := by omega
          clear hcy d0 kx fx B6 B1 B2
          go_wp2
          go_roundg (gk - 1)
          case measure => omega
          case rel => exact ⟨j + 1, by go_num, by omega, X7, Y7, F7⟩
      · obtain rfl : j = l.length := by omega
        rw [List.take_length] at HX HY hca
        have kx := (blk_cell HX.out 256).trans (frq_get (symsA l) (s := 256) (by omega))
        have fx := blk_frozen HX.out 256
        have hcx := cnt_le (symsA l) 256
        have X6 := Hd.mk (blk_set HX.out 256 (.int .i64 ((Code.cnt (symsA l) 256 : Nat) + 1 : Int)))
        rw [frq_set (symsA l) (by omega)] at X6
        have Y6 := Hd.mk (blk_far HY.out (p := ⟨gx, 256, none⟩) (show gx + 1 ≠ gx by omega) (.int .i64 ((Code.cnt (symsA l) 256 : Nat) + 1 : Int)))
        have F6 := Hd.mk (HF.out.setCell (a := ⟨gx, 256, none⟩) (.int .i64 ((Code.cnt (symsA l) 256 : Nat) + 1 : Int)) (.inr hgx))
        generalize Code.cnt (symsA l) 256 = cx at *
        have hcx2 : (cx : Int) ≤ 65536 := by omega
        clear hcx HX HY HF X3 Y3 F2
        go_upto_region 15 with (fail)
        generalize wr.setCell ⟨gx, 256, none⟩ (.int .i64 ((cx : Nat) + 1 : Int)) = w5 at *
        have SX : Hd (Sl w5 (some ⟨gx, 0, none⟩) (i64s (litFrq l)) (some gx)) := ⟨by have := sl_of_blk X6.out; simpa [litFrq] using this⟩
        have EA := Hd.mk (litFrq_eq hz3)
        have EB := Hd.mk (distFrq_eq hz3)
        clear kx fx
        go_wp2_with (fail)
        refine (Lens.lengths_any w5 15 (some ⟨gx, 0, none⟩) 286 286 (litFrq l) _ (frq_len _ _) SX.out (by omega)).mono ?_
        rintro r w6 hlp
        unfold Lens.LensPost at hlp
        obtain ⟨A8, n8, c8, rfl, h1', h2, h3⟩ := hlp
        rw [EA.out] at h1' ⊢
        have hn8 : n8 = 286 := by have := h1'.1; rw [i64s_length, ownLit_len] at this; omega
        subst hn8
        have O8 := Hd.mk h1'
        have NW8 : Hd (∀ k, (Value.slice A8 286 c8).ownBlock = some k → w.heap.size ≤ k) := ⟨fun k hk => by have := h2 k hk; have := F6.out.size; omega⟩
        have F8 := Hd.mk (F6.out.trans h3 (by simp))
        have Y8 := Hd.mk (h3.blk Y6.out (by simp))
        have SY : Hd (Sl w6 (some ⟨gx + 1, 0, none⟩) (i64s (distFrq l)) (some (gx + 1))) := ⟨by have := sl_of_blk Y8.out; simpa [distFrq] using this⟩
        clear h1' h2 h3 F6 Y6 X6 SX
        simp only
        go_wp2_with (fail)
        refine (Lens.lengths_any w6 15 (some ⟨gx + 1, 0, none⟩) 30 30 (distFrq l) _ (frq_len _ _) SY.out (by omega)).mono ?_
        rintro r w7 hlp
        unfold Lens.LensPost at hlp
        obtain ⟨A9, n9, c9, rfl, h1', h2, h3⟩ := hlp
        rw [EB.out] at h1' ⊢
        have hn9 : n9 = 30 := by have := h1'.1; rw [i64s_length, ownDist_len] at this; omega
        subst hn9
        have O9 := Hd.mk h1'
        have NE9 : Hd (∀ k, (Value.slice A8 286 c8).ownBlock = some k → w.heap.size ≤ k ∧ (Value.slice A9 30 c9).ownBlock ≠ some k) := ⟨fun k hk => ⟨NW8.out k hk, fun h9 => by have := h2 k h9; have := own_lt O8.out hk; omega⟩⟩
        have NW9 : Hd (∀ k, (Value.slice A9 30 c9).ownBlock = some k → w.heap.size ≤ k) := ⟨fun k hk => by have := h2 k hk; have := F8.out.size; omega⟩
        have F9 := Hd.mk (F8.out.trans h3 (by simp))
        have O10 := Hd.mk (own_frame O8.out h3 (by simp))
        clear h1' h2 h3 F8 Y8 SY O8
        simp only
        go_wp2
        go_ret3
        exact ⟨fun _ => ⟨A8, c8, A9, c9, rfl, O10.out, O9.out, NE9.out, NW9.out, F9.out⟩, fun h => absurd HE.out.symm h⟩
  · have hne : (e != 0) = true := by simpa using h
    go_wp2
    go_ret3
    exact ⟨fun h' => absurd (HE.out.trans h') h, fun _ => ⟨by rw [← HE.out]; rfl, F1.out⟩⟩
end Go.Proofs.Ytlfckpmdmkccjaa.Blk
/- Chapter 09: the document's may. Conditions: at most 2^40 tokens. -/
set_option linter.unusedVariables false
set_option linter.unusedSimpArgs false
set_option maxRecDepth 100000
namespace Go.Proofs.Ytlfckpmdmkccjaa.Blk
open Go.RowKit Go.Proofs.Ytlfckpmdmkccjaa.Lib Go.Proofs.Ytlfckpmdmkccjaa.Ints Go.Proofs.Ytlfckpmdmkccjaa.Lz
set_option maxHeartbeats 2000000 in
theorem rmay_any (w : World) (A : Option Addr) (n c : Nat) (l : List Tok) (p : Option Nat) (hn : l.length = n) (hS : Sl w A (tcells l) p) (hb : n ≤ 6000000000000) (r : Int) (hr : r = mayB l) :
    Calls Try.prog 30 #[.slice A n c] w fun e w' => e = .returned (.int .i64 r) ∧ Fr w w' [] := by
  subst hn
  have HS := Hd.mk hS
  have HR := Hd.mk hr
  clear hS hr
  go_enter Try.func30, Try.ntmps30
  by_cases hlong : 65536 < l.length
  · obtain rfl : r = 90 := by rw [HR.out]; unfold mayB; rw [if_pos hlong]
    go_wp2
    go_ret
    exact ⟨rfl, Fr.refl _ _⟩
  · have hmr : Hd (r = if l.all right then 0 else 91) := ⟨by rw [HR.out]; unfold mayB; rw [if_neg hlong]⟩
    have hl2 : l.length ≤ 65536 := by omega
    go_wp2
    go_loopg [10] l.length (fun kq jv wr => ∃ j : Nat, jv = .int .i64 (j : Nat) ∧ j + kq = l.length ∧ Hd ((l.take j).all right = true) ∧ Hd (Fr w wr []))
    case atStart => exact ⟨0, rfl, by omega, ⟨rfl⟩, ⟨Fr.refl _ _⟩⟩
    case round =>
      obtain ⟨j, rfl, hj, HA, HF⟩ := hrel
      by_cases h1 : j < l.length
      · obtain ⟨a, o1, rfl, _, ha⟩ := Sl.row (enc := tcell) (sz := 3) (fun _ => rfl) (HS.out.frame HF.out (by simp)) h1 (by decide)
        obtain ⟨t, ht⟩ : ∃ t, t = l[j] := ⟨_, rfl⟩
        rw [← ht] at ha
        have c0 := ha 0 (by decide)
        have c1 := ha 1 (by decide)
        have c2 := ha 2 (by decide)
        simp only [tcell, List.getElem?_cons_zero, List.getElem?_cons_succ, Nat.add_zero] at c0 c1 c2
        have HT := Hd.mk ht
        clear ha ht
        obtain ⟨x, hx⟩ : ∃ x, x = right t := ⟨_, rfl⟩
        have HX := Hd.mk hx
        clear hx
        go_wp2_with (fail)
        refine (Lz.may_any _ t x HX.out).mono ?_
        rintro e w2 ⟨rfl, h2⟩
        have F2 := Hd.mk ((HF.out.alloc _).trans h2 (by simp))
        clear h2
        cases x with
        | false =>
          have : Hd (r = 91) := ⟨by rw [hmr.out, all_not h1 (by rw [← HT.out]; exact HX.out.symm)]; rfl⟩
          obtain rfl := this.out
          go_wp2
          go_ret
          exact ⟨rfl, F2.out⟩
        | true =>
          go_wp2
          go_roundg (gk - 1)
          case measure => omega
          case rel => exact ⟨j + 1, by go_num, by omega, ⟨by rw [all_take h1, HA.out, ← HT.out, ← HX.out]; rfl⟩, F2⟩
      · obtain rfl : j = l.length := by omega
        have : Hd (r = 0) := ⟨by rw [hmr.out]; rw [List.take_length] at HA; rw [HA.out]; rfl⟩
        obtain rfl := this.out
        go_wp2
        go_ret
        exact ⟨rfl, HF.out⟩
end Go.Proofs.Ytlfckpmdmkccjaa.Blk
/- Chapter 09: the document's lengths of a block's own codes, and its plain ones. Conditions: at most 2^40 tokens. -/
set_option linter.unusedVariables false
set_option linter.unusedSimpArgs false
set_option maxRecDepth 100000
namespace Go.Proofs.Ytlfckpmdmkccjaa.Blk
open Go.RowKit Go.Proofs.Ytlfckpmdmkccjaa.Lib Go.Proofs.Ytlfckpmdmkccjaa.Ints Go.Proofs.Ytlfckpmdmkccjaa.Lz
theorem frq_comm (N : Nat) (xs ys : List Int) : frq N (xs ++ ys) = frq N (ys ++ xs) := by
  unfold frq
  congr 1
  funext i
  unfold Code.cnt
  rw [List.countP_append, List.countP_append, Nat.add_comm]
theorem mk286 : ∀ w : World, (Instr.makeSlice 27 (.int .i64 286) (.int .i64 286)).run Try.prog w = .ok (.slice (some ⟨w.heap.size, 0, none⟩) 286 286) (w.alloc (.cells (i64s (frq 286 [])).toArray 3)) := fun _ => by kernel_rfl
theorem mk30 : ∀ w : World, (Instr.makeSlice 27 (.int .i64 30) (.int .i64 30)).run Try.prog w = .ok (.slice (some ⟨w.heap.size, 0, none⟩) 30 30) (w.alloc (.cells (i64s (frq 30 [])).toArray 3)) := fun _ => by kernel_rfl
theorem frq_256 : (i64s (frq 286 [])).toArray.setIfInBounds 256 (.int .i64 1) = (i64s (frq 286 [256])).toArray := by
  have := frq_set (N := 286) [] (s := 256) (by decide)
  exact this
set_option maxHeartbeats 8000000 in
theorem rownLens_any (w : World) (A : Option Addr) (n c : Nat) (l : List Tok) (p : Option Nat) (hn : l.length = n) (hS : Sl w A (tcells l) p) (hb : n ≤ 6000000000000) (hl : LitB l) :
    Calls Try.prog 10 #[.slice A n c] w (OwnPost w l) := by
  have HS := Hd.mk hS
  have HL := Hd.mk hl
  obtain ⟨e, he⟩ : ∃ e, e = mayB l := ⟨_, rfl⟩
  have HE := Hd.mk he
  clear hS hl he
  have hm1 := mk286
  have hm2 := mk30
  go_enter Try.func10, Try.ntmps10
  go_wp2_with (fail)
  refine (rmay_any w A n c l p hn HS.out hb e HE.out).mono ?_
  rintro r w1 ⟨rfl, h1⟩
  have F1 := Hd.mk h1
  clear h1
  by_cases h : e = 0
  · subst h
    have hz := mayB_zero HE.out.symm
    have HZ := Hd.mk hz.2
    have hz3 := hz.1
    clear hz
    go_upto_region 4 with (fail)
    go_cut [6, 7] from 27 to 28 (fun s6 s7 wc => ∃ gx gy : Nat, s6 = .slice (some ⟨gx, 0, none⟩) 286 286 ∧ s7 = .slice (some ⟨gy, 0, none⟩) 30 30 ∧ gx ≠ gy ∧ w.heap.size ≤ gx ∧ w.heap.size ≤ gy ∧ Hd (wc.heap[gx]? = some (.cells (i64s (frq 286 [])).toArray 3 (0, 0))) ∧ Hd (wc.heap[gy]? = some (.cells (i64s (frq 30 [])).toArray 3 (0, 0))) ∧ Hd (Fr w wc []))
    case first =>
      have hsz := F1.out.size
      go_region
      · go_wp2
        go_meet
        case rel => exact ⟨w1.heap.size, w1.heap.size + 1, rfl, rfl, by omega, by omega, by omega, ⟨blk_alloc (blk_new w1 _) _⟩, ⟨by rw [drew_heap]; simpa using blk_new (w1.alloc _) _⟩, ⟨((F1.out.alloc _).alloc _).drew⟩⟩
      · go_wp2
        go_meet
        case rel => exact ⟨w1.heap.size + 1, w1.heap.size, rfl, rfl, by omega, by omega, by omega, ⟨by rw [drew_heap]; simpa using blk_new (w1.alloc _) _⟩, ⟨blk_alloc (blk_new w1 _) _⟩, ⟨((F1.out.alloc _).alloc _).drew⟩⟩
    case rest =>
      obtain ⟨gx, gy, rfl, rfl, hxy, hgx, hgy, X2, Y2, F2⟩ := hcut
      clear hm1 hm2 F1
      have q0 := (blk_cell X2.out 256).trans (frq_get (N := 286) [] (s := 256) (by decide))
      have q1 := blk_frozen X2.out 256
      have X3 : Hd ((wc.setCell ⟨gx, 256, none⟩ (.int .i64 1)).heap[gx]? = some (.cells (i64s (frq 286 ([256] ++ symsA (l.take 0)))).toArray 3 (0, 0))) := ⟨by have := blk_set X2.out 256 (.int .i64 1); rw [frq_256] at this; exact this⟩
      have Y3 : Hd ((wc.setCell ⟨gx, 256, none⟩ (.int .i64 1)).heap[gy]? = some (.cells (i64s (frq 30 (symsB (l.take 0)))).toArray 3 (0, 0))) := ⟨blk_far Y2.out (p := ⟨gx, 256, none⟩) hxy.symm _⟩
      have F3 : Hd (Fr w (wc.setCell ⟨gx, 256, none⟩ (.int .i64 1)) []) := ⟨F2.out.setCell (a := ⟨gx, 256, none⟩) (.int .i64 1) (.inr hgx)⟩
      clear X2 Y2 F2
      go_wp2
      go_loopg [33] l.length (fun kq jv wr => ∃ j : Nat, jv = .int .i64 (j : Nat) ∧ j + kq = l.length ∧ Hd (wr.heap[gx]? = some (.cells (i64s (frq 286 ([256] ++ symsA (l.take j)))).toArray 3 (0, 0))) ∧ Hd (wr.heap[gy]? = some (.cells (i64s (frq 30 (symsB (l.take j)))).toArray 3 (0, 0))) ∧ Hd (Fr w wr []))
      case atStart => exact ⟨0, rfl, by omega, X3, Y3, F3⟩
      case round =>
        obtain ⟨j, rfl, hj, HX, HY, HF⟩ := hrel
        have hca := symsA_len (l.take j)
        have hcb := symsB_len (l.take j)
        rw [List.length_take] at hca hcb
        by_cases h1 : j < l.length
        · obtain ⟨a, o1, rfl, _, hcc⟩ := Sl.row (enc := tcell) (sz := 3) (fun _ => rfl) (HS.out.frame HF.out (by simp)) h1 (by decide)
          obtain ⟨t, ht⟩ : ∃ t, t = l[j] := ⟨_, rfl⟩
          rw [← ht] at hcc
          have c0 := hcc 0 (by decide)
          have c1 := hcc 1 (by decide)
          have c2 := hcc 2 (by decide)
          simp only [tcell, List.getElem?_cons_zero, List.getElem?_cons_succ, Nat.add_zero] at c0 c1 c2
          have htm : t ∈ l := by rw [ht]; exact List.getElem_mem h1
          have hrt := HZ.out t htm
          have hlt := HL.out t htm
          have HTA : Hd ([256] ++ symsA (l.take (j + 1)) = [256] ++ symsA (l.take j) ++ [(sgA t).1]) := ⟨by rw [symsA_take h1, ht, List.append_assoc]⟩
          have HTB : Hd (symsB (l.take (j + 1)) = symsB (l.take j) ++ if t.len = 0 then [] else [(sgB t).1]) := ⟨by rw [symsB_take h1, ht]⟩
          have sa := (sgA_fit hrt hlt).1.sym
          have sb := (sgB_fit hrt).sym
          have hca2 : ([256] ++ symsA (l.take j)).length ≤ 65536 + 1 := by rw [List.length_append, List.length_singleton]; omega
          clear hcc ht htm
          generalize [256] ++ symsA (l.take j) = SA at *
          generalize symsB (l.take j) = SB at *
          have A0 := (Fr.refl wr []).alloc (.cells #[.int .u8 t.lit, .int .i64 t.len, .int .i64 t.dist] 62)
          by_cases hlen : t.len = 0
          · have hsa : (sgA t).1 = t.lit := by unfold sgA; rw [if_pos hlen]
            rw [hsa] at sa HTA
            rw [if_pos hlen, List.append_nil] at HTB
            obtain ⟨lt, ln, ld⟩ := t
            simp only at hlen hlt sa HTA A0
            subst hlen
            obtain ⟨lt, rfl⟩ := Int.eq_ofNat_of_zero_le hlt.1
            have hlt2 : (lt : Int) ≤ 255 := hlt.2
            have X5 := Hd.mk (A0.blk HX.out (by simp))
            have Y5 := Hd.mk (A0.blk HY.out (by simp))
            have kx := (blk_cell X5.out lt).trans (frq_get SA (s := lt) (by omega))
            have fx := blk_frozen X5.out lt
            have hcx := cnt_le SA lt
            have X6 := Hd.mk (blk_set X5.out lt (.int .i64 ((Code.cnt SA lt : Nat) + 1 : Int)))
            rw [frq_set SA (by omega), ← HTA.out] at X6
            have Y6 := Hd.mk (blk_far Y5.out (p := ⟨gx, lt, none⟩) hxy.symm (.int .i64 ((Code.cnt SA lt : Nat) + 1 : Int)))
            have F6 := Hd.mk ((HF.out.trans A0 (by simp)).setCell (a := ⟨gx, lt, none⟩) (.int .i64 ((Code.cnt SA lt : Nat) + 1 : Int)) (.inr hgx))
            generalize Code.cnt SA lt = cx at *
            have hcx2 : (cx : Int) ≤ 65537 := by omega
            clear hcx A0 HX HY sa sb hlt
            go_wp2
            go_roundg (gk - 1)
            case measure => omega
            case rel => exact ⟨j + 1, by go_num, by omega, X6, ⟨by rw [HTB.out]; exact Y6.out⟩, F6⟩
          · have hla : (sgA t).1 = (symN lenT 257 3 258 t.len).1 := by unfold sgA; rw [if_neg hlen]
            have hlb : (sgB t).1 = (symN distT 0 1 32768 t.dist).1 := by unfold sgB; rw [if_neg hlen]
            rw [if_neg hlen] at HTB
            have hle : (t.len == 0) = false := by simpa using hlen
            obtain ⟨⟨s1, s2, s3, s4⟩, hs⟩ : ∃ x, x = symN lenT 257 3 258 t.len := ⟨_, rfl⟩
            obtain ⟨⟨u1, u2, u3, u4⟩, hu⟩ : ∃ x, x = symN distT 0 1 32768 t.dist := ⟨_, rfl⟩
            rw [hla, ← hs] at sa HTA
            rw [hlb, ← hu] at sb HTB
            simp only at sa sb HTA HTB
            have HS1 := Hd.mk hs
            have HU1 := Hd.mk hu
            obtain ⟨s1, rfl⟩ := Int.eq_ofNat_of_zero_le sa.1
            obtain ⟨u1, rfl⟩ := Int.eq_ofNat_of_zero_le sb.1
            clear hla hlb hs hu
            go_wp2_with (fail)
            have bz := blk_new wr (.cells #[.int .u8 t.lit, .int .i64 t.len, .int .i64 t.dist] 62)
            refine (rlenSymbol_any _ t.len).mono ?_
            rintro r w3 ⟨rfl, h3⟩
            rw [← HS1.out]
            have f3 := A0.trans h3 (by simp)
            have BZ := Hd.mk (h3.blk bz (by simp))
            clear h3 bz A0
            have d2 := blk_cell BZ.out 2
            simp only [List.getElem?_toArray, List.getElem?_cons_zero, List.getElem?_cons_succ] at d2
            go_wp2_with (fail)
            refine (rdistSymbol_any w3 t.dist).mono ?_
            rintro r w4 ⟨rfl, h3⟩
            rw [← HU1.out]
            have f4 := f3.trans h3 (by simp)
            have F4 := Hd.mk (HF.out.trans f4 (by simp))
            have X5 := Hd.mk (f4.blk HX.out (by simp))
            have Y5 := Hd.mk (f4.blk HY.out (by simp))
            clear h3 f3 f4 BZ d2
            simp only
            have kx := (blk_cell X5.out s1).trans (frq_get SA (s := s1) (by omega))
            have fx := blk_frozen X5.out s1
            have hcx := cnt_le SA s1
            have X6 := Hd.mk (blk_set X5.out s1 (.int .i64 ((Code.cnt SA s1 : Nat) + 1 : Int)))
            rw [frq_set SA (by omega), ← HTA.out] at X6
            have Y6 := Hd.mk (blk_far Y5.out (p := ⟨gx, s1, none⟩) hxy.symm (.int .i64 ((Code.cnt SA s1 : Nat) + 1 : Int)))
            have F6 := Hd.mk (F4.out.setCell (a := ⟨gx, s1, none⟩) (.int .i64 ((Code.cnt SA s1 : Nat) + 1 : Int)) (.inr hgx))
            generalize Code.cnt SA s1 = cx at *
            have hcx2 : (cx : Int) ≤ 65537 := by omega
            have ky := (blk_cell Y6.out u1).trans (frq_get SB (s := u1) (by omega))
            have fy := blk_frozen Y6.out u1
            have hcy := cnt_le SB u1
            have Y7 := Hd.mk (blk_set Y6.out u1 (.int .i64 ((Code.cnt SB u1 : Nat) + 1 : Int)))
            rw [frq_set SB (by omega), ← HTB.out] at Y7
            have X7 := Hd.mk (blk_far X6.out (p := ⟨gy, u1, none⟩) hxy (.int .i64 ((Code.cnt SB u1 : Nat) + 1 : Int)))
            have F7 := Hd.mk (F6.out.setCell (a := ⟨gy, u1, none⟩) (.int .i64 ((Code.cnt SB u1 : Nat) + 1 : Int)) (.inr hgy))
            generalize Code.cnt SB u1 = cy at *
            have hcy2 : (cy : Int) ≤ 65536 := by omega
            have hs1 : (s1 : Int) < 286 := by omega
            have hu1 : (u1 : Int) < 30 := by omega
            clear hcx hcy HX HY
            go_wp2
            go_roundg (gk - 1)
            case measure => omega
            case rel => exact ⟨j + 1, by go_num, by omega, X7, Y7, F7⟩
        · obtain rfl : j = l.length := by omega
          rw [List.take_length] at HX HY
          have SX : Hd (Sl wr (some ⟨gx, 0, none⟩) (i64s (litFrq l)) (some gx)) := ⟨by have := sl_of_blk HX.out; rw [frq_comm] at this; simpa [litFrq] using this⟩
          have EA := Hd.mk (litFrq_eq hz3)
          have EB := Hd.mk (distFrq_eq hz3)
          clear X3 Y3 F3
          go_wp2_with (fail)
          refine (Lens.rlengths_any wr 15 (some ⟨gx, 0, none⟩) 286 286 (litFrq l) _ (frq_len _ _) SX.out (by omega)).mono ?_
          rintro r w6 hlp
          unfold Lens.LensPost at hlp
          obtain ⟨A8, n8, c8, rfl, h1', h2, h3⟩ := hlp
          rw [EA.out] at h1' ⊢
          have hn8 : n8 = 286 := by have := h1'.1; rw [i64s_length, ownLit_len] at this; omega
          subst hn8
          have O8 := Hd.mk h1'
          have NW8 : Hd (∀ k, (Value.slice A8 286 c8).ownBlock = some k → w.heap.size ≤ k) := ⟨fun k hk => by have := h2 k hk; have := HF.out.size; omega⟩
          have F8 := Hd.mk (HF.out.trans h3 (by simp))
          have Y8 := Hd.mk (h3.blk HY.out (by simp))
          have SY : Hd (Sl w6 (some ⟨gy, 0, none⟩) (i64s (distFrq l)) (some gy)) := ⟨by have := sl_of_blk Y8.out; simpa [distFrq] using this⟩
          clear h1' h2 h3 HF HX HY SX
          simp only
          go_wp2_with (fail)
          refine (Lens.rlengths_any w6 15 (some ⟨gy, 0, none⟩) 30 30 (distFrq l) _ (frq_len _ _) SY.out (by omega)).mono ?_
          rintro r w7 hlp
          unfold Lens.LensPost at hlp
          obtain ⟨A9, n9, c9, rfl, h1', h2, h3⟩ := hlp
          rw [EB.out] at h1' ⊢
          have hn9 : n9 = 30 := by have := h1'.1; rw [i64s_length, ownDist_len] at this; omega
          subst hn9
          have O9 := Hd.mk h1'
          have NE9 : Hd (∀ k, (Value.slice A8 286 c8).ownBlock = some k → w.heap.size ≤ k ∧ (Value.slice A9 30 c9).ownBlock ≠ some k) := ⟨fun k hk => ⟨NW8.out k hk, fun h9 => by have := h2 k h9; have := own_lt O8.out hk; omega⟩⟩
          have NW9 : Hd (∀ k, (Value.slice A9 30 c9).ownBlock = some k → w.heap.size ≤ k) := ⟨fun k hk => by have := h2 k hk; have := F8.out.size; omega⟩
          have F9 := Hd.mk (F8.out.trans h3 (by simp))
          have O10 := Hd.mk (own_frame O8.out h3 (by simp))
          clear h1' h2 h3 F8 Y8 SY O8
          simp only
          go_wp2
          go_ret3
          exact ⟨fun _ => ⟨A8, c8, A9, c9, rfl, O10.out, O9.out, NE9.out, NW9.out, F9.out⟩, fun h => absurd HE.out.symm h⟩
  · have hne : (e != 0) = true := by simpa using h
    go_wp2
    go_ret3
    exact ⟨fun h' => absurd (HE.out.trans h') h, fun _ => ⟨by rw [← HE.out]; rfl, F1.out⟩⟩
/-- the document's plain lengths -/
def RPlPost (w w' : World) (e : Ending) : Prop := ∃ g h c d, e = .returned (.tuple #[.slice (some ⟨g, 0, none⟩) 288 c, .slice (some ⟨h, 0, none⟩) 32 d]) ∧ w'.ownsRow 0 3 1 (.slice (some ⟨g, 0, none⟩) 288 c) 288 (i64s plainLit) ∧ w'.ownsRow 0 3 1 (.slice (some ⟨h, 0, none⟩) 32 d) 32 (i64s plainDist) ∧ w.heap.size ≤ g ∧ w.heap.size ≤ h ∧ Fr w w' []
theorem fill_take (f : Nat → Int) (n j : Nat) (h : j < n) : (fill f n n).take (j + 1) = (fill f n n).take j ++ [f j] := by
  have hl : j < (fill f n n).length := by rw [fill_len]; exact h
  rw [List.take_succ_eq_append_getElem hl]
  congr 2
  simp [fill, h]
end Go.Proofs.Ytlfckpmdmkccjaa.Blk
/- Chapter 09: the document's plain lengths. No condition. -/
set_option linter.unusedVariables false
set_option linter.unusedSimpArgs false
set_option maxRecDepth 100000
namespace Go.Proofs.Ytlfckpmdmkccjaa.Blk
open Go.RowKit Go.Proofs.Ytlfckpmdmkccjaa.Lib Go.Proofs.Ytlfckpmdmkccjaa.Ints Go.Proofs.Ytlfckpmdmkccjaa.Lz
theorem aft_new {wo w : World} {q q' : Option Nat} (hB : ∀ x, q = some x → wo.heap.size ≤ x) (hs : wo.heap.size ≤ w.heap.size) {o : Obj} (h : Aft (w.alloc o) q q') : ∀ y, q' = some y → wo.heap.size ≤ y := by
  intro y hy
  rcases h with e | ⟨z, e, hz⟩
  · rw [e] at hy; exact hB y hy
  · rw [e] at hy; cases hy; simp at hz; omega
/-- a row that grows by one number -/
def Grw (W w : World) (A : Option Addr) (n c : Nat) (xs : List Int) : Prop := w.ownsRow 0 3 1 (.slice A n c) n (i64s xs) ∧ (∀ y, (Value.slice A n c).ownBlock = some y → W.heap.size ≤ y) ∧ Fr W w []
set_option maxHeartbeats 8000000 in
theorem rplainLens_any (w : World) : Calls Try.prog 14 #[] w fun e w' => RPlPost w w' e := by
  obtain ⟨i0, hi0, hz0, hz1, hz2⟩ := info_parts infoI64
  go_enter Try.func14, Try.ntmps14
  go_wp2
  go_loopg [2, 4] 288 (fun kq sv jv wr => ∃ (j : Nat) (A1 : Option Addr) (d1 : Nat), sv = .slice A1 j d1 ∧ jv = .int .i64 (j : Nat) ∧ j + kq = 288 ∧ Hd (wr.ownsRow 0 3 1 (.slice A1 j d1) j (i64s ((fill litF 288 288).take j))) ∧ Hd (∀ y, (Value.slice A1 j d1).ownBlock = some y → w.heap.size ≤ y) ∧ Hd (Fr w wr []))
  case atStart => exact ⟨0, none, 0, rfl, rfl, rfl, ⟨own_nil _ _ _ _⟩, ⟨by intro y hy; cases hy⟩, ⟨Fr.refl _ _⟩⟩
  case round =>
    obtain ⟨j, A1, d1, rfl, rfl, hj, HO, HB, HF⟩ := hrel
    by_cases h1 : j < 288
    · have HTK : Hd ((fill litF 288 288).take (j + 1) = (fill litF 288 288).take j ++ [litF j]) := ⟨fill_take litF 288 j h1⟩
      have HL : Hd (litF j = if j < 144 then 8 else if j < 256 then 9 else if j < 280 then 7 else 8) := ⟨rfl⟩
      by_cases h2 : j < 144
      · rw [HL.out, if_pos h2] at HTK
        go_wp2_with (at_builtin; refine wpList_append_sl rfl (.tmp 23) (.tmp 25) 27 rfl 3 i0 (.int .i64 0) 1 8 Try.underlying27 hi0 hz0 hz1 hz2 rfl (by decide) (.slice A1 j d1) j _ rfl (by exact HO.out.alloc _) (some ⟨wr.heap.size, 0, none⟩) 1 1 [.int .i64 8] (some wr.heap.size) rfl rfl (by exact sl_of_blk (blk_new _ _)) (by intro h; cases h) (by intro u hu; simp at hu; subst hu; rfl) (by unfold maxLen; omega) (by omega) ?_; intro A3 d3 w3 hown3 hgrow3 haft3; have O3 := Hd.mk hown3; have G3 := Hd.mk hgrow3; have AF3 := Hd.mk haft3; clear hown3 hgrow3 haft3)
        go_roundg (gk - 1)
        case measure => omega
        case rel => exact ⟨j + 1, A3, d3, rfl, by go_num, by omega, ⟨by rw [HTK.out, i64s_app]; exact O3.out⟩, ⟨aft_new HB.out HF.out.size AF3.out⟩, ⟨(HF.out.alloc _).grown G3.out (fun y hy => .inr (HB.out y hy))⟩⟩
      by_cases h3 : j < 256
      · rw [HL.out, if_neg h2, if_pos h3] at HTK
        have h2' : ¬ ((j : Int) < 144) := by omega
        go_wp2_with (at_builtin; refine wpList_append_sl rfl (.tmp 23) (.tmp 25) 27 rfl 3 i0 (.int .i64 0) 1 8 Try.underlying27 hi0 hz0 hz1 hz2 rfl (by decide) (.slice A1 j d1) j _ rfl (by exact HO.out.alloc _) (some ⟨wr.heap.size, 0, none⟩) 1 1 [.int .i64 9] (some wr.heap.size) rfl rfl (by exact sl_of_blk (blk_new _ _)) (by intro h; cases h) (by intro u hu; simp at hu; subst hu; rfl) (by unfold maxLen; omega) (by omega) ?_; intro A3 d3 w3 hown3 hgrow3 haft3; have O3 := Hd.mk hown3; have G3 := Hd.mk hgrow3; have AF3 := Hd.mk haft3; clear hown3 hgrow3 haft3)
        go_roundg (gk - 1)
        case measure => omega
        case rel => exact ⟨j + 1, A3, d3, rfl, by go_num, by omega, ⟨by rw [HTK.out, i64s_app]; exact O3.out⟩, ⟨aft_new HB.out HF.out.size AF3.out⟩, ⟨(HF.out.alloc _).grown G3.out (fun y hy => .inr (HB.out y hy))⟩⟩
      by_cases h4 : j < 280
      · rw [HL.out, if_neg h2, if_neg h3, if_pos h4] at HTK
        go_wp2_with (at_builtin; refine wpList_append_sl rfl (.tmp 23) (.tmp 25) 27 rfl 3 i0 (.int .i64 0) 1 8 Try.underlying27 hi0 hz0 hz1 hz2 rfl (by decide) (.slice A1 j d1) j _ rfl (by exact HO.out.alloc _) (some ⟨wr.heap.size, 0, none⟩) 1 1 [.int .i64 7] (some wr.heap.size) rfl rfl (by exact sl_of_blk (blk_new _ _)) (by intro h; cases h) (by intro u hu; simp at hu; subst hu; rfl) (by unfold maxLen; omega) (by omega) ?_; intro A3 d3 w3 hown3 hgrow3 haft3; have O3 := Hd.mk hown3; have G3 := Hd.mk hgrow3; have AF3 := Hd.mk haft3; clear hown3 hgrow3 haft3)
        go_roundg (gk - 1)
        case measure => omega
        case rel => exact ⟨j + 1, A3, d3, rfl, by go_num, by omega, ⟨by rw [HTK.out, i64s_app]; exact O3.out⟩, ⟨aft_new HB.out HF.out.size AF3.out⟩, ⟨(HF.out.alloc _).grown G3.out (fun y hy => .inr (HB.out y hy))⟩⟩
      · rw [HL.out, if_neg h2, if_neg h3, if_neg h4] at HTK
        go_wp2_with (at_builtin; refine wpList_append_sl rfl (.tmp 23) (.tmp 25) 27 rfl 3 i0 (.int .i64 0) 1 8 Try.underlying27 hi0 hz0 hz1 hz2 rfl (by decide) (.slice A1 j d1) j _ rfl (by exact HO.out.alloc _) (some ⟨wr.heap.size, 0, none⟩) 1 1 [.int .i64 8] (some wr.heap.size) rfl rfl (by exact sl_of_blk (blk_new _ _)) (by intro h; cases h) (by intro u hu; simp at hu; subst hu; rfl) (by unfold maxLen; omega) (by omega) ?_; intro A3 d3 w3 hown3 hgrow3 haft3; have O3 := Hd.mk hown3; have G3 := Hd.mk hgrow3; have AF3 := Hd.mk haft3; clear hown3 hgrow3 haft3)
        go_roundg (gk - 1)
        case measure => omega
        case rel => exact ⟨j + 1, A3, d3, rfl, by go_num, by omega, ⟨by rw [HTK.out, i64s_app]; exact O3.out⟩, ⟨aft_new HB.out HF.out.size AF3.out⟩, ⟨(HF.out.alloc _).grown G3.out (fun y hy => .inr (HB.out y hy))⟩⟩
    · obtain rfl : j = 288 := by omega
      have HO2 : Hd (wr.ownsRow 0 3 1 (.slice A1 288 d1) 288 (i64s plainLit)) := ⟨by have := HO.out; rwa [List.take_of_length_le (by rw [fill_len]; exact Nat.le_refl _)] at this⟩
      clear HO
      go_wp2
      go_loopg [3, 6] 32 (fun kq sv jv wq => ∃ (j : Nat) (A2 : Option Addr) (d2 : Nat), sv = .slice A2 j d2 ∧ jv = .int .i64 (j : Nat) ∧ j + kq = 32 ∧ Hd (wq.ownsRow 0 3 1 (.slice A2 j d2) j (i64s ((fill (fun _ => 5) 32 32).take j))) ∧ Hd (∀ y, (Value.slice A2 j d2).ownBlock = some y → wr.heap.size ≤ y) ∧ Hd (Fr wr wq []))
      case atStart => exact ⟨0, none, 0, rfl, rfl, rfl, ⟨own_nil _ _ _ _⟩, ⟨by intro y hy; cases hy⟩, ⟨Fr.refl _ _⟩⟩
      case round =>
        obtain ⟨j, A2, d2, rfl, rfl, hj, HO, HB2, HF2⟩ := hrel
        by_cases h1 : j < 32
        · have HTK : Hd ((fill (fun _ => 5) 32 32).take (j + 1) = (fill (fun _ => 5) 32 32).take j ++ [5]) := ⟨fill_take (fun _ => 5) 32 j h1⟩
          go_wp2_with (at_builtin; refine wpList_append_sl rfl (.tmp 31) (.tmp 32) 27 rfl 3 i0 (.int .i64 0) 1 8 Try.underlying27 hi0 hz0 hz1 hz2 rfl (by decide) (.slice A2 j d2) j _ rfl (by exact HO.out.alloc _) (some ⟨wr.heap.size, 0, none⟩) 1 1 [.int .i64 5] (some wr.heap.size) rfl rfl (by exact sl_of_blk (blk_new _ _)) (by intro h; cases h) (by intro u hu; simp at hu; subst hu; rfl) (by unfold maxLen; omega) (by omega) ?_; intro A3 d3 w3 hown3 hgrow3 haft3; have O3 := Hd.mk hown3; have G3 := Hd.mk hgrow3; have AF3 := Hd.mk haft3; clear hown3 hgrow3 haft3)
          go_roundg (gk - 1)
          case measure => omega
          case rel => exact ⟨j + 1, A3, d3, rfl, by go_num, by omega, ⟨by rw [HTK.out, i64s_app]; exact O3.out⟩, ⟨aft_new HB2.out HF2.out.size AF3.out⟩, ⟨(HF2.out.alloc _).grown G3.out (fun y hy => .inr (HB2.out y hy))⟩⟩
        · obtain rfl : j = 32 := by omega
          have HO3 := HO.out
          rw [List.take_of_length_le (by rw [fill_len]; exact Nat.le_refl _)] at HO3
          have OP := Hd.mk (own_frame HO2.out HF2.out (by simp))
          have OQ := Hd.mk HO3
          obtain ⟨g1, c1, e1, _⟩ := own_some HO2.out (by decide)
          injection e1 with e1 _ e2
          subst e1 e2
          obtain ⟨g2, c2, e1, _⟩ := own_some HO3 (by decide)
          injection e1 with e1 _ e2
          subst e1 e2
          have hb1 := HB.out g1 rfl
          have hb2 := HB2.out g2 rfl
          have hs := HF.out.size
          clear HO HO2 HO3
          go_wp2
          go_ret2
          exact ⟨g1, g2, d1, d2, rfl, OP.out, OQ.out, hb1, by omega, HF.out.trans HF2.out (by simp)⟩
end Go.Proofs.Ytlfckpmdmkccjaa.Blk
