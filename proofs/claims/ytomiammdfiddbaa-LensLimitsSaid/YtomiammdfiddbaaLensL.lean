/- A greater limit costs no more, and Huffman's sum is the least: plain. No condition. -/
import Derived.Test.YtomiammdfiddbaaHuff
import Derived.Test.YtomiammdfiddbaaLensWhole
set_option linter.unusedVariables false
set_option linter.unusedSimpArgs false
set_option maxRecDepth 100000
namespace Go.Proofs.Ytomiammdfiddbaa.Lens
open Go.RowKit Go.Proofs.Ytomiammdfiddbaa.Lib Go.Proofs.Ytomiammdfiddbaa.Ints Go.Proofs.Ytomiammdfiddbaa.Sorts Go.Proofs.Ytomiammdfiddbaa.Sort Go.Proofs.Ytomiammdfiddbaa.Pm Go.Proofs.Ytomiammdfiddbaa.Num Go.Proofs.Ytomiammdfiddbaa.Heaps
theorem pos_lv : ∀ (fs : List Int) (s : Nat), pos fs = (lv fs s).map (fun x => (x.1 : Int))
  | [], s => rfl
  | f :: fs, s => by
    have ih := pos_lv fs (s + 1)
    unfold pos at ih ⊢
    simp only [List.filter_cons, lv]
    by_cases h : 0 < f
    · rw [if_pos (by simpa using h), if_pos h, List.map_cons, ih]
      congr 1
      simp only; omega
    · rw [if_neg (by simpa using h), if_neg h, ih]
theorem cst_lv (o : Nat → Nat) : ∀ (l : List (Nat × Nat)), cst (l.map fun x => ((x.1 : Int), o x.2)) = ((sumL (fun x => x.1 * o x.2) l : Nat) : Int)
  | [] => rfl
  | x :: l => by rw [List.map_cons, cst_cons, cst_lv o l, sumL, Int.natCast_add, Int.natCast_mul]
theorem krf_lv (D : Nat) (o : Nat → Nat) : ∀ (l : List (Nat × Nat)), krf D (l.map fun x => o x.2) = sumL (fun x => 2 ^ (D - o x.2)) l
  | [] => rfl
  | x :: l => by rw [List.map_cons, krf_cons, krf_lv D o l, sumL]
theorem lift_perm : ∀ (m : List Int) (p : List (Int × Nat)), (p.map (·.1)).Perm m → ∃ p', p.Perm p' ∧ p'.map (·.1) = m := by
  intro m
  induction m with
  | nil => intro p hp; have : p = [] := by have := hp.length_eq; simpa using this
           exact ⟨[], by rw [this], rfl⟩
  | cons x m ih =>
    intro p hp
    have hx : x ∈ p.map (·.1) := hp.mem_iff.2 List.mem_cons_self
    obtain ⟨y, hy, rfl⟩ := List.mem_map.1 hx
    have q := List.perm_cons_erase hy
    have q2 := (q.map (·.1)).symm.trans hp
    rw [List.map_cons] at q2
    obtain ⟨p', e1, e2⟩ := ih (p.erase y) (List.Perm.cons_inv q2)
    exact ⟨y :: p', q.trans (List.Perm.cons y e1), by rw [List.map_cons, e2]⟩
theorem fn_of : ∀ (l : List (Nat × Nat)) (ks : List Nat), l.Pairwise (fun x y => x.2 < y.2) → ks.length = l.length → ∃ o : Nat → Nat, l.map (fun x => o x.2) = ks
  | [], ks, _, h => ⟨fun _ => 0, by have : ks = [] := List.eq_nil_of_length_eq_zero (by simpa using h); rw [this]; rfl⟩
  | x :: l, [], _, h => by simp at h
  | x :: l, k :: ks, hp, h => by
    rw [List.pairwise_cons] at hp
    obtain ⟨o, ho⟩ := fn_of l ks hp.2 (by simpa using h)
    refine ⟨fun s => if s = x.2 then k else o s, ?_⟩
    rw [List.map_cons]
    show (if x.2 = x.2 then k else o x.2) :: _ = _
    rw [if_pos rfl, ← ho]
    congr 1
    exact List.map_congr_left fun y hy => if_neg (by have := hp.1 y hy; omega)
theorem zip_eq {f : Nat × Nat → Int} {g : Nat × Nat → Nat} : ∀ (l : List (Nat × Nat)) (p : List (Int × Nat)), p.map (·.1) = l.map f → p.map (·.2) = l.map g → p = l.map fun x => (f x, g x)
  | [], p, h, _ => by simpa using h
  | x :: l, [], h, _ => by simp at h
  | x :: l, (a, b) :: p, h1, h2 => by
    simp only [List.map_cons, List.cons.injEq] at h1 h2 ⊢
    exact ⟨by rw [h1.1, h2.1], zip_eq l p h1.2 h2.2⟩
theorem least_zero {fs : List Int} : (leastN fs 0).1 = if (lv fs 0).length = 1 then (pos fs).sum else hf ((lv fs 0).length - 1) (pos fs) := by
  have e : (pos fs).length = (lv fs 0).length := by rw [pos_lv fs 0, List.length_map]
  unfold leastN
  rw [if_neg (by decide), e]
  split <;> rfl
theorem limits_low {fs : List Int} {limit : Nat} (h1 : 1 ≤ limit) (h15 : limit ≤ 15) (hn : (lvs fs).length ≤ 2 ^ limit) :
    (leastN fs 0).1 ≤ ((sumL (fun x => x.1 * lenOf limit fs x.2) (lv fs 0) : Nat) : Int) := by
  rw [least_zero]
  have hu := used_len fs
  by_cases h0 : (lv fs 0).length = 0
  · rw [if_neg (by omega), h0]; simp only [hf, Nat.zero_sub]; omega
  · by_cases hone : (lv fs 0).length = 1
    · rw [if_pos hone]
      obtain ⟨x, hx⟩ := List.length_eq_one_iff.1 hone
      have hm : x ∈ lv fs 0 := by rw [hx]; simp
      obtain ⟨r, hr, e⟩ := mem_sy hm
      have hl : lenOf limit fs x.2 = 1 := by rw [← e]; exact lenOf_one (by omega) hr
      rw [pos_lv fs 0, hx]
      simp [sumL, hl]
    · rw [if_neg hone]
      have hw := (lens_whole h1 h15 hn).1 (by omega)
      have := hf_lower ((lv fs 0).length - 1) 15 ((lv fs 0).map fun x => ((x.1 : Int), lenOf limit fs x.2)) (by simp; omega) (fun x hx => by
        obtain ⟨y, _, rfl⟩ := List.mem_map.1 hx
        simp only; omega) (fun x hx => by
        obtain ⟨y, _, rfl⟩ := List.mem_map.1 hx
        have := lenOf_le h1 hn y.2
        simp only; omega) (by
        rw [List.map_map]
        have e := krf_lv 15 (fun s => lenOf limit fs s) (lv fs 0)
        have e2 : ((fun x : Int × Nat => x.2) ∘ fun x : Nat × Nat => ((x.1 : Int), lenOf limit fs x.2)) = fun x => lenOf limit fs x.2 := rfl
        rw [e2, e, hw]; exact Nat.le_refl _)
      rw [List.map_map, cst_lv (fun s => lenOf limit fs s)] at this
      rw [pos_lv fs 0]
      exact this
theorem limits_up {fs : List Int} {limit : Nat} (h1 : 1 ≤ limit) (h15 : limit ≤ 15) (hn : (lvs fs).length ≤ 2 ^ limit) (he : (lvs fs).length ≤ limit + 1) :
    ((sumL (fun x => x.1 * lenOf limit fs x.2) (lv fs 0) : Nat) : Int) ≤ (leastN fs 0).1 := by
  rw [least_zero]
  have hu := used_len fs
  by_cases h0 : (lv fs 0).length = 0
  · have : lv fs 0 = [] := List.eq_nil_of_length_eq_zero h0
    rw [this]
    simp [sumL, hf]
  · by_cases hone : (lv fs 0).length = 1
    · rw [if_pos hone]
      obtain ⟨x, hx⟩ := List.length_eq_one_iff.1 hone
      have hm : x ∈ lv fs 0 := by rw [hx]; simp
      obtain ⟨r, hr, e⟩ := mem_sy hm
      have hl : lenOf limit fs x.2 = 1 := by rw [← e]; exact lenOf_one (by omega) hr
      rw [pos_lv fs 0, hx]
      simp [sumL, hl]
    · rw [if_neg hone]
      obtain ⟨p, p1, p2, p3, p4, p5⟩ := hf_upper ((lv fs 0).length - 1) (pos fs) (by rw [pos_lv fs 0, List.length_map]; omega)
      obtain ⟨p', q1, q2⟩ := lift_perm _ p p1
      rw [pos_lv fs 0] at q2
      have hl : (p'.map (·.2)).length = (lv fs 0).length := by
        have := congrArg List.length q2
        simpa using this
      obtain ⟨o, ho⟩ := fn_of (lv fs 0) (p'.map (·.2)) (lv_inc fs 0) hl
      have hz := zip_eq (lv fs 0) p' q2 ho.symm
      have hmem : ∀ x ∈ lv fs 0, ∃ y ∈ p, y.2 = o x.2 := fun x hx => by
        have : ((x.1 : Int), o x.2) ∈ p' := by rw [hz]; exact List.mem_map_of_mem hx
        exact ⟨_, q1.mem_iff.2 this, rfl⟩
      have hb := lens_best h1 h15 hn o (fun x hx => by
        obtain ⟨y, hy, e⟩ := hmem x hx
        have a1 := p2 y hy
        have a2 := p3 (by omega) y hy
        omega) (by
        have := p5 15 (by omega)
        rw [krf_perm 15 (q1.map (·.2)), ← ho, krf_lv] at this
        omega)
      have hc : cst p' = ((sumL (fun x => x.1 * o x.2) (lv fs 0) : Nat) : Int) := by rw [hz, cst_lv]
      rw [← p4, cst_perm q1, hc]
      omega
theorem limits_mono {fs : List Int} {limit : Nat} (h1 : 1 ≤ limit) (h15 : limit + 1 ≤ 15) (hn : (lvs fs).length ≤ 2 ^ limit) :
    sumL (fun x => x.1 * lenOf (limit + 1) fs x.2) (lv fs 0) ≤ sumL (fun x => x.1 * lenOf limit fs x.2) (lv fs 0) := by
  have hn2 : (lvs fs).length ≤ 2 ^ (limit + 1) := Nat.le_trans hn (Nat.pow_le_pow_right (by decide) (by omega))
  refine lens_best (by omega) h15 hn2 (fun s => lenOf limit fs s) (fun x hx => ?_) ?_
  · obtain ⟨r, hr, e⟩ := mem_sy hx
    have a := lenOf_le h1 hn x.2
    have b := lenOf_pos h1 hn hr
    rw [e] at b
    exact ⟨b, by omega⟩
  · have hw := lens_whole h1 (by omega) hn
    have hu := used_len fs
    by_cases h2 : 2 ≤ (lvs fs).length
    · rw [hw.1 h2]; exact Nat.le_refl _
    · by_cases h3 : (lvs fs).length = 1
      · rw [hw.2 h3]; decide
      · have : lv fs 0 = [] := List.eq_nil_of_length_eq_zero (by omega)
        rw [this]; simp [sumL]
theorem dot_cost {fs ls : List Int} (h0 : ∀ i, (h : i < fs.length) → 0 ≤ fs[i]) (h1 : ∀ i, 0 ≤ ls.getD i 0) : ∀ (j : Nat), j ≤ fs.length → dot fs ls j = ((costL fs ls j : Nat) : Int)
  | 0, _ => by simp [dot, costL, lv, sumL]
  | j + 1, hj => by
    have ih := dot_cost h0 h1 j (by omega)
    have hp := h0 j (by omega)
    have hl := h1 j
    unfold costL at ih ⊢
    rw [dot, ih, lv_snoc (show j < fs.length by omega), sumL_app, Int.natCast_add]
    congr 1
    rw [List.getD_eq_getElem?_getD, List.getElem?_eq_getElem (show j < fs.length by omega), Option.getD_some]
    by_cases c : 0 < fs[j]
    · rw [if_pos c]
      simp only [sumL, Nat.add_zero, Int.natCast_mul]
      rw [Int.toNat_of_nonneg hp, Int.toNat_of_nonneg hl]
    · rw [if_neg c, show fs[j] = 0 by omega]
      simp [sumL]
theorem cost_lens {fs : List Int} {limit : Nat} (h1 : 1 ≤ limit) (h15 : limit ≤ 15) (hc : cn fs = 0) (hn : (lvs fs).length ≤ 2 ^ limit) {L : List Int} (hL : L = (List.range fs.length).map fun s => (lenOf limit fs s : Int)) :
    costN fs L = (((sumL (fun x => x.1 * lenOf limit fs x.2) (lv fs 0) : Nat) : Int), 0) ∧ costL fs L fs.length = sumL (fun x => x.1 * lenOf limit fs x.2) (lv fs 0) ∧ ∀ x ∈ lv fs 0, 0 ≤ L.getD x.2 0 ∧ L.getD x.2 0 ≤ 15 := by
  have hcz := cn_zero hc
  have hlen : L.length = fs.length := by rw [hL]; simp
  have hget : ∀ i, i < fs.length → L.getD i 0 = (lenOf limit fs i : Int) := fun i hi => by rw [hL]; exact getD_map _ hi
  have h2 : costL fs L fs.length = sumL (fun x => x.1 * lenOf limit fs x.2) (lv fs 0) := by
    unfold costL
    rw [List.take_of_length_le (Nat.le_refl _)]
    refine sumL_congr _ fun x hx => ?_
    obtain ⟨_, a2, _, _⟩ := lv_mem fs 0 x hx
    rw [hget _ (by simpa using a2), Int.toNat_natCast]
  have h3 : out 15 L = false := out_false fun i hi => by
    have e : L[i] = L.getD i 0 := by rw [List.getD_eq_getElem?_getD, List.getElem?_eq_getElem hi, Option.getD_some]
    rw [e, hget i (by omega)]
    have := lenOf_le h1 hn i
    omega
  refine ⟨?_, h2, fun x hx => ?_⟩
  · unfold costN
    rw [if_neg (by rw [hlen]; simp), if_neg (by rw [hc]; simp), h3, ← h2, hlen]
    rw [dot_cost (fun i hi => (of_out hcz.2 hi).1) (fun i => ?_) _ (Nat.le_refl _)]
    · rfl
    · by_cases hi : i < fs.length
      · rw [hget i hi]; omega
      · rw [List.getD_eq_getElem?_getD, List.getElem?_eq_none (by omega)]; simp
  · obtain ⟨_, a2, _, _⟩ := lv_mem fs 0 x hx
    rw [hget _ (by simpa using a2)]
    have := lenOf_le h1 hn x.2
    omega
end Go.Proofs.Ytomiammdfiddbaa.Lens
