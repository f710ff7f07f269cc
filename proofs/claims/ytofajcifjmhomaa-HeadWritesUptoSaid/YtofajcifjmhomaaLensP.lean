/- What lens.Lengths answers, plain: the whole space, the order, the best. No condition but the statements' own. -/
import Derived.Test.YtofajcifjmhomaaLensE
set_option maxRecDepth 100000
set_option linter.unusedVariables false
set_option linter.unusedSimpArgs false
namespace Go.Proofs.Ytofajcifjmhomaa.Lens
open Go.RowKit Go.Proofs.Ytofajcifjmhomaa.Lib Go.Proofs.Ytofajcifjmhomaa.Ints Go.Proofs.Ytofajcifjmhomaa.Sorts Go.Proofs.Ytofajcifjmhomaa.Sort Go.Proofs.Ytofajcifjmhomaa.Pm Go.Proofs.Ytofajcifjmhomaa.Num

theorem sumL_sumN {α : Type} (f : α → Nat) (d : α) : ∀ (l : List α), sumL f l = sumN (fun r => f (l.getD r d)) l.length
  | [] => rfl
  | x :: l => by
    have e : ∀ n (g : Nat → Nat), sumN g (n + 1) = g 0 + sumN (fun r => g (r + 1)) n := by
      intro n g
      induction n with
      | zero => simp [sumN]
      | succ n ih => rw [sumN, ih, sumN]; omega
    rw [sumL, List.length_cons, e, sumL_sumN f d l]
    simp
theorem sumL_map {α β : Type} (f : β → Nat) (g : α → β) : ∀ (l : List α), sumL f (l.map g) = sumL (fun x => f (g x)) l
  | [] => rfl
  | x :: l => by rw [List.map_cons, sumL, sumL, sumL_map f g l]
theorem sumN_lvs (fs : List Int) (g : Nat → Nat) : sumL (fun x => g x.2) (lv fs 0) = sumN (fun r => g (sy fs r)) (lvs fs).length := by
  rw [← sumL_perm (srt_ok fs 0).2, sumL_sumN _ (0, 0), lvs_len]
  rfl
theorem used_len (fs : List Int) : (lvs fs).length = (lv fs 0).length := by rw [lvs_len, (srt_ok fs 0).2.length_eq]
theorem mem_sy {fs : List Int} {x : Nat × Nat} (h : x ∈ lv fs 0) : ∃ r, r < (lvs fs).length ∧ sy fs r = x.2 := by
  obtain ⟨r, hr⟩ := List.mem_iff_getElem?.1 ((srt_ok fs 0).2.mem_iff.2 h)
  have hl : r < (srt (lv fs 0)).length := (List.getElem?_eq_some_iff.1 hr).1
  refine ⟨r, by rw [lvs_len]; exact hl, ?_⟩
  unfold sy
  rw [List.getD_eq_getElem?_getD, hr]; rfl
/-- in use -/
theorem mem_lv {fs : List Int} {i : Nat} (h : i < fs.length) (hp : 0 < fs[i]) : ((fs[i]).toNat, i) ∈ lv fs 0 := by
  have : ∀ (l : List Int) (s i : Nat) (h : i < l.length), 0 < l[i] → ((l[i]).toNat, s + i) ∈ lv l s := by
    intro l
    induction l with
    | nil => intro s i h; simp at h
    | cons f l ih =>
      intro s i h hp
      cases i with
      | zero =>
        simp only [List.getElem_cons_zero] at hp ⊢
        rw [lv, if_pos hp]
        simp
      | succ i =>
        simp only [List.getElem_cons_succ] at hp ⊢
        have := ih (s + 1) i (by simpa using h) hp
        rw [show s + 1 + i = s + (i + 1) from by omega] at this
        rw [lv]
        split
        · exact List.mem_cons_of_mem _ this
        · exact this
  simpa using this fs 0 i h hp
theorem sy_mem {fs : List Int} {r : Nat} (h : r < (lvs fs).length) : ∃ hs : sy fs r < fs.length, (lvs fs)[r] = .leaf (fs[sy fs r]).toNat (sy fs r) ∧ 0 < fs[sy fs r] := by
  obtain ⟨w, hw⟩ := lvs_leaves fs r h
  obtain ⟨s, hs, he, hp⟩ := lvs_mem (List.getElem_mem h)
  rw [hw] at he
  injection he with e1 e2
  subst e2
  exact ⟨hs, by rw [hw, e1], hp⟩
theorem lenOf_none {fs : List Int} {limit s : Nat} (hn : (lvs fs).length ≤ 2 ^ limit) (h1 : 1 ≤ limit) (h : ∀ (hs : s < fs.length), ¬ 0 < fs[s]) : lenOf limit fs s = 0 := by
  have hne : ∀ r, r < (lvs fs).length → sy fs r ≠ s := by
    intro r hr e
    obtain ⟨hs, _, hp⟩ := sy_mem hr
    subst e
    exact h hs hp
  unfold lenOf
  split
  · have := cl_none (lvs_leaves fs) hne (lvs fs).length
    rwa [List.take_of_length_le (Nat.le_refl _)] at this
  · have hl := long (lvs fs) (limit - 1) (by rw [show limit - 1 + 1 = limit from by omega]; exact hn)
    obtain ⟨a, ha⟩ := sel (lvs fs) (lvs_sd fs) (lvs_pos fs) (limit - 1) (2 * (lvs fs).length - 2) hl
    rw [ha.cl]
    have : sumN (fun k => cl ((lvs fs).take (a k)) s) (limit - 1 + 1) = sumN (fun _ => 0) (limit - 1 + 1) := sumN_congr _ fun k _ => cl_none (lvs_leaves fs) hne _
    rw [this, sumN_zero]
theorem lenOf_one {fs : List Int} {limit r : Nat} (h : (lvs fs).length = 1) (hr : r < (lvs fs).length) : lenOf limit fs (sy fs r) = 1 := by
  unfold lenOf
  rw [if_pos h]
  have := cl_take (lvs_leaves fs) (lvs_inj fs) hr (lvs fs).length (Nat.le_refl _)
  rw [List.take_of_length_le (Nat.le_refl _), if_pos hr] at this
  exact this
theorem lenOf_sel {fs : List Int} {limit : Nat} (h2 : 2 ≤ (lvs fs).length) (h1 : 1 ≤ limit) (hn : (lvs fs).length ≤ 2 ^ limit) :
    ∃ a, Sel (lvs fs) (limit - 1) (2 * (lvs fs).length - 2) a ∧ ∀ r, r < (lvs fs).length → lenOf limit fs (sy fs r) = lenR a (limit - 1) r := by
  have hl := long (lvs fs) (limit - 1) (by rw [show limit - 1 + 1 = limit from by omega]; exact hn)
  obtain ⟨a, ha⟩ := sel (lvs fs) (lvs_sd fs) (lvs_pos fs) (limit - 1) (2 * (lvs fs).length - 2) hl
  refine ⟨a, ha, fun r hr => ?_⟩
  unfold lenOf
  rw [if_neg (by omega)]
  exact cl_len (lvs_leaves fs) (lvs_inj fs) ha hr
theorem lenOf_pos {fs : List Int} {limit r : Nat} (h1 : 1 ≤ limit) (hn : (lvs fs).length ≤ 2 ^ limit) (hr : r < (lvs fs).length) : 1 ≤ lenOf limit fs (sy fs r) := by
  by_cases h : (lvs fs).length = 1
  · rw [lenOf_one h hr]; exact Nat.le_refl _
  · obtain ⟨a, ha, hlen⟩ := lenOf_sel (by omega) h1 hn
    rw [hlen r hr]
    exact pm_pos ha (by omega) hr
/-- P4.4 -/
theorem lens_whole {fs : List Int} {limit : Nat} (h1 : 1 ≤ limit) (h15 : limit ≤ 15) (hn : (lvs fs).length ≤ 2 ^ limit) :
    (2 ≤ (lvs fs).length → sumL (fun x => 2 ^ (15 - lenOf limit fs x.2)) (lv fs 0) = 2 ^ 15) ∧ ((lvs fs).length = 1 → sumL (fun x => 2 ^ (15 - lenOf limit fs x.2)) (lv fs 0) = 2 ^ 14) := by
  rw [sumN_lvs fs (fun s => 2 ^ (15 - lenOf limit fs s))]
  constructor
  · intro h2
    obtain ⟨a, ha, hlen⟩ := lenOf_sel h2 h1 hn
    have hw := pm_whole ha h2
    have e : ∀ r, r < (lvs fs).length → 2 ^ (15 - lenOf limit fs (sy fs r)) = 2 ^ (15 - limit) * 2 ^ (limit - 1 + 1 - lenR a (limit - 1) r) := by
      intro r hr
      have := lenR_le a (limit - 1) r
      rw [hlen r hr, ← Nat.pow_add]
      congr 1; omega
    rw [sumN_congr _ e, sumN_mul, hw, ← Nat.pow_add, show 15 - limit + (limit - 1 + 1) = 15 from by omega]
  · intro h2
    rw [h2]
    simp only [sumN, lenOf_one h2 (show 0 < (lvs fs).length by omega)]
/-- P4.6 -/
theorem lens_order {fs : List Int} {limit i k : Nat} (h1 : 1 ≤ limit) (hn : (lvs fs).length ≤ 2 ^ limit) (hi : i < fs.length) (hk : k < fs.length) (hp : 0 < fs[i]) (h : fs[i] < fs[k] ∨ (fs[k] = fs[i] ∧ i < k)) :
    lenOf limit fs k ≤ lenOf limit fs i := by
  obtain ⟨r, hr, e1⟩ := mem_sy (mem_lv hi hp)
  obtain ⟨r', hr', e2⟩ := mem_sy (mem_lv hk (by omega))
  simp only at e1 e2
  have hrr : r < r' := by
    have hs := (srt_ok fs 0).1
    rw [List.pairwise_iff_getElem] at hs
    have g : ∀ q, (hq : q < (lvs fs).length) → ∃ x, (srt (lv fs 0))[q]? = some x ∧ x.2 = sy fs q ∧ ∃ hh : x.2 < fs.length, x.1 = (fs[x.2]).toNat := by
      intro q hq
      rw [lvs_len] at hq
      refine ⟨(srt (lv fs 0))[q], List.getElem?_eq_getElem hq, by simp [sy, hq], ?_⟩
      obtain ⟨_, a2, _, a4⟩ := lv_mem fs 0 _ ((srt_ok fs 0).2.mem_iff.1 (List.getElem_mem hq))
      simp only [Nat.sub_zero] at a2 a4
      exact ⟨a2, a4⟩
    obtain ⟨x, x1, x2, x3, x4⟩ := g r hr
    obtain ⟨y, y1, y2, y3, y4⟩ := g r' hr'
    rw [lvs_len] at hr hr'
    rw [List.getElem?_eq_getElem hr] at x1
    rw [List.getElem?_eq_getElem hr'] at y1
    injection x1 with x1
    injection y1 with y1
    have ex : x.2 = i := by rw [x2, e1]
    have ey : y.2 = k := by rw [y2, e2]
    obtain ⟨xa, xb⟩ := x
    obtain ⟨ya, yb⟩ := y
    simp only at ex ey x4 y4
    subst ex ey
    by_cases c : r < r'
    · exact c
    · exfalso
      by_cases c2 : r = r'
      · subst c2
        rw [x1] at y1
        injection y1 with q1 q2
        subst q2
        omega
      · have := hs r' r hr' hr (by omega)
        rw [x1, y1] at this
        unfold lx ky rk at this
        simp only at this
        omega
  rw [← e1, ← e2]
  obtain ⟨a, ha, hlen⟩ := lenOf_sel (limit := limit) (show 2 ≤ (lvs fs).length by omega) h1 hn
  rw [hlen r hr, hlen r' hr']
  exact lenR_anti a _ (by omega)
/-- what a code of these lengths costs -/
theorem lens_cost {fs : List Int} {limit : Nat} (h1 : 1 ≤ limit) (hn : (lvs fs).length ≤ 2 ^ limit) (h2 : 2 ≤ (lvs fs).length) :
    sumL (fun x => x.1 * lenOf limit fs x.2) (lv fs 0) = ws ((row (lvs fs) (limit - 1)).take (2 * (lvs fs).length - 2)) := by
  obtain ⟨a, ha, hlen⟩ := lenOf_sel h2 h1 hn
  rw [pm_cost ha, ← sumL_perm (srt_ok fs 0).2, sumL_sumN _ (0, 0), ← lvs_len]
  refine sumN_congr _ fun r hr => ?_
  rw [dif_pos hr]
  have hr' : r < (srt (lv fs 0)).length := by rw [← lvs_len]; exact hr
  have e : lenOf limit fs (sy fs r) = lenR a (limit - 1) r := hlen r hr
  unfold sy at e
  rw [e]
  simp only [lvs, List.getElem_map, T.wt, List.getD_eq_getElem?_getD, List.getElem?_eq_getElem hr', Option.getD_some]
/-- P4.5 -/
theorem lens_best {fs : List Int} {limit : Nat} (h1 : 1 ≤ limit) (h15 : limit ≤ 15) (hn : (lvs fs).length ≤ 2 ^ limit) (o : Nat → Nat) (ho : ∀ x ∈ lv fs 0, 1 ≤ o x.2 ∧ o x.2 ≤ limit) (hk : sumL (fun x => 2 ^ (15 - o x.2)) (lv fs 0) ≤ 2 ^ 15) :
    sumL (fun x => x.1 * lenOf limit fs x.2) (lv fs 0) ≤ sumL (fun x => x.1 * o x.2) (lv fs 0) := by
  by_cases h2 : 2 ≤ (lvs fs).length
  · rw [lens_cost h1 hn h2]
    have e1 : sumL (fun t => t.wt * (fun t : T => match t with | .leaf _ s => o s | .pack _ _ => 0) t) (lvs fs) = sumL (fun x => x.1 * o x.2) (lv fs 0) := by
      unfold lvs
      rw [sumL_map, sumL_perm (srt_ok fs 0).2]
      rfl
    rw [← e1]
    refine pm_best (lvs fs) (lvs_sd fs) (limit - 1) _ (fun t ht => ?_) ?_
    · unfold lvs at ht
      obtain ⟨x, hx, rfl⟩ := List.mem_map.1 ht
      have := (ho x ((srt_ok fs 0).2.mem_iff.1 hx)).2
      simp only; omega
    · have e2 : sumL (fun t => 2 ^ (limit - 1 + 1 - (fun t : T => match t with | .leaf _ s => o s | .pack _ _ => 0) t)) (lvs fs) = sumL (fun x => 2 ^ (limit - o x.2)) (lv fs 0) := by
        unfold lvs
        rw [sumL_map, sumL_perm (srt_ok fs 0).2]
        exact sumL_congr _ fun x _ => by simp only [show limit - 1 + 1 = limit from by omega]
      rw [e2, show limit - 1 + 1 = limit from by omega]
      have e3 : sumL (fun x => 2 ^ (15 - o x.2)) (lv fs 0) = 2 ^ (15 - limit) * sumL (fun x => 2 ^ (limit - o x.2)) (lv fs 0) := by
        have : ∀ (l : List (Nat × Nat)), (∀ x ∈ l, o x.2 ≤ limit) → sumL (fun x => 2 ^ (15 - o x.2)) l = 2 ^ (15 - limit) * sumL (fun x => 2 ^ (limit - o x.2)) l := by
          intro l
          induction l with
          | nil => intro _; simp [sumL]
          | cons x l ih =>
            intro hl
            have hx := hl x (by simp)
            rw [sumL, sumL, ih (fun y hy => hl y (by simp [hy])), Nat.mul_add, ← Nat.pow_add]
            congr 2; omega
        exact this _ fun x hx => (ho x hx).2
      rw [e3] at hk
      have e4 : 2 ^ 15 = 2 ^ (15 - limit) * 2 ^ limit := by rw [← Nat.pow_add]; congr 1; omega
      rw [e4] at hk
      exact Nat.le_of_mul_le_mul_left hk (Nat.two_pow_pos _)
  · by_cases h0 : (lvs fs).length = 1
    · have hle : ∀ x ∈ lv fs 0, x.1 * lenOf limit fs x.2 ≤ x.1 * o x.2 := by
        intro x hx
        obtain ⟨r, hr, e⟩ := mem_sy hx
        rw [← e, lenOf_one h0 hr, e]
        exact Nat.mul_le_mul_left _ (ho x hx).1
      exact sumL_le _ hle
    · have : lv fs 0 = [] := List.eq_nil_of_length_eq_zero (by rw [← used_len]; omega)
      rw [this]; exact Nat.le_refl _
end Go.Proofs.Ytofajcifjmhomaa.Lens
