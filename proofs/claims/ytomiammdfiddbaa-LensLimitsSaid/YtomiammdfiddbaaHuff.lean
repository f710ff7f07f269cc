/- Huffman's sum is the least cost of all codes that fit, and a code of no more than n - 1 bits reaches it. Plain Lean, no condition. -/
import Derived.Test.YtomiammdfiddbaaHeapP2
set_option linter.unusedVariables false
set_option linter.unusedSimpArgs false
namespace Go.Proofs.Ytomiammdfiddbaa.Heaps
/-- counts with lengths: what they cost, the space that they take -/
def cst (l : List (Int × Nat)) : Int := (l.map fun x => x.1 * (x.2 : Int)).sum
def krf (D : Nat) (l : List Nat) : Nat := (l.map fun k => 2 ^ (D - k)).sum
theorem cst_cons (x : Int × Nat) (l : List (Int × Nat)) : cst (x :: l) = x.1 * (x.2 : Int) + cst l := by simp [cst]
theorem krf_cons (D k : Nat) (l : List Nat) : krf D (k :: l) = 2 ^ (D - k) + krf D l := by simp [krf]
theorem cst_perm {l m : List (Int × Nat)} (h : l.Perm m) : cst l = cst m := sum_perm (h.map _)
theorem nsum_perm {l m : List Nat} (h : l.Perm m) : l.sum = m.sum := by
  induction h with
  | nil => rfl
  | cons x _ ih => simp [ih]
  | swap x y l => simp; omega
  | trans _ _ a b => exact a.trans b
theorem krf_perm (D : Nat) {l m : List Nat} (h : l.Perm m) : krf D l = krf D m := nsum_perm (h.map _)
/-- the least count takes the greatest length -/
theorem lift_max (a : Int) (La : Nat) : ∀ (t : List (Int × Nat)), (∀ x ∈ t, a ≤ x.1) →
    ∃ (L : Nat) (t' : List (Int × Nat)), (∀ x ∈ t', x.2 ≤ L) ∧ t'.map (·.1) = t.map (·.1) ∧ (L :: t'.map (·.2)).Perm (La :: t.map (·.2)) ∧ cst ((a, L) :: t') ≤ cst ((a, La) :: t)
  | [], _ => ⟨La, [], by simp, rfl, List.Perm.refl _, Int.le_refl _⟩
  | x :: t, h => by
    obtain ⟨L, t', h1, h2, h3, h4⟩ := lift_max a La t fun y hy => h y (List.mem_cons_of_mem _ hy)
    have hx := h x List.mem_cons_self
    simp only [cst_cons] at h4
    by_cases c : x.2 ≤ L
    · refine ⟨L, x :: t', ?_, by simp [h2], ?_, ?_⟩
      · intro y hy
        rcases List.mem_cons.1 hy with rfl | hy
        · exact c
        · exact h1 y hy
      · exact (List.Perm.swap x.2 L _).trans ((List.Perm.cons x.2 h3).trans (List.Perm.swap La x.2 _))
      · simp only [cst_cons]; omega
    · refine ⟨x.2, (x.1, L) :: t', ?_, by simp [h2], ?_, ?_⟩
      · intro y hy
        rcases List.mem_cons.1 hy with rfl | hy
        · simp only; omega
        · have := h1 y hy; omega
      · exact (List.Perm.cons x.2 h3).trans (List.Perm.swap La x.2 _)
      · simp only [cst_cons]
        have q : 0 ≤ (x.1 - a) * ((x.2 : Int) - (L : Int)) := Int.mul_nonneg (by omega) (by omega)
        rw [Int.sub_mul, Int.mul_sub, Int.mul_sub] at q
        omega
theorem krf_dvd {D L : Nat} (hL : L ≤ D) : ∀ (l : List Nat), (∀ k ∈ l, k ≤ L) → ∃ s, krf D l = 2 ^ (D - L) * s
  | [], _ => ⟨0, rfl⟩
  | k :: l, h => by
    obtain ⟨s, hs⟩ := krf_dvd hL l fun y hy => h y (List.mem_cons_of_mem _ hy)
    have hk := h k List.mem_cons_self
    refine ⟨2 ^ (L - k) + s, ?_⟩
    rw [krf_cons, hs, Nat.mul_add, ← Nat.pow_add]
    congr 2
    omega
theorem krf_even {D L1 L2 : Nat} {l : List Nat} (h1 : L1 ≤ D) (h2 : L2 ≤ L1) (h : ∀ k ∈ l, k ≤ L2) (hk : krf D (L1 :: L2 :: l) ≤ 2 ^ D) : krf D (L2 :: L2 :: l) ≤ 2 ^ D ∧ 1 ≤ L2 := by
  obtain ⟨s, hs⟩ := krf_dvd (D := D) (L := L2) (by omega) l h
  have ht : 2 ^ D = 2 ^ (D - L2) * 2 ^ L2 := by rw [← Nat.pow_add]; congr 1; omega
  have q := Nat.two_pow_pos (D - L2)
  have q1 := Nat.two_pow_pos (D - L1)
  have key : krf D (L2 :: L2 :: l) ≤ 2 ^ D := by
    by_cases e : L1 = L2
    · rw [e] at hk; exact hk
    · simp only [krf_cons] at hk ⊢
      rw [hs] at hk ⊢
      have a : 2 ^ (D - L2) * (s + 1) < 2 ^ (D - L2) * 2 ^ L2 := by rw [← ht, Nat.mul_add]; omega
      have b := Nat.lt_of_mul_lt_mul_left a
      have c : 2 ^ (D - L2) * (s + 2) ≤ 2 ^ (D - L2) * 2 ^ L2 := Nat.mul_le_mul_left _ (by omega)
      rw [← ht, Nat.mul_add] at c
      omega
  refine ⟨key, ?_⟩
  by_cases e : L2 = 0
  · subst e
    simp only [krf_cons, Nat.sub_zero] at key
    have := Nat.two_pow_pos D
    omega
  · omega
/-- no code that fits costs less -/
theorem hf_lower : ∀ (n D : Nat) (l : List (Int × Nat)), l.length = n + 1 → (∀ x ∈ l, 0 ≤ x.1) → (∀ x ∈ l, x.2 ≤ D) → krf D (l.map (·.2)) ≤ 2 ^ D → hf n (l.map (·.1)) ≤ cst l
  | 0, D, l, _, h0, _, _ => by
    simp only [hf]
    refine sum_nonneg fun x hx => ?_
    obtain ⟨y, hy, rfl⟩ := List.mem_map.1 hx
    exact Int.mul_nonneg (h0 y hy) (by omega)
  | n + 1, D, l, hl, h0, hD, hk => by
    obtain ⟨a, b, r, hp, hab, hr, he⟩ := hf_two (k := n) (l := l.map (·.1)) (by simp; omega)
    -- the list with the two least first
    obtain ⟨La, Lb, t, hpl, htr⟩ : ∃ La Lb t, l.Perm ((a, La) :: (b, Lb) :: t) ∧ t.map (·.1) = r := by
      have lift : ∀ (m : List Int) (p : List (Int × Nat)), (p.map (·.1)).Perm m → ∃ p', p.Perm p' ∧ p'.map (·.1) = m := by
        intro m
        induction m with
        | nil => intro p hp; have : p = [] := by have := hp.length_eq; simpa using this
                 exact ⟨[], by rw [this], rfl⟩
        | cons x m ih =>
          intro p hp
          have hx : x ∈ p.map (·.1) := hp.mem_iff.2 List.mem_cons_self
          obtain ⟨y, hy, rfl⟩ := List.mem_map.1 hx
          have q := List.perm_cons_erase hy
          have q2 := (q.map (·.1)).symm.trans hp
          rw [List.map_cons] at q2
          obtain ⟨p', e1, e2⟩ := ih (p.erase y) (List.Perm.cons_inv q2)
          exact ⟨y :: p', q.trans (List.Perm.cons y e1), by rw [List.map_cons, e2]⟩
      obtain ⟨p', e1, e2⟩ := lift _ l hp
      match p', e2 with
      | (a', La) :: (b', Lb) :: t, e2 =>
        simp only [List.map_cons, List.cons.injEq] at e2
        obtain ⟨rfl, rfl, e3⟩ := e2
        exact ⟨La, Lb, t, e1, e3⟩
    have hb0 : 0 ≤ b := h0 (b, Lb) (hpl.mem_iff.2 (by simp))
    have ha0 : 0 ≤ a := h0 (a, La) (hpl.mem_iff.2 (by simp))
    have hrt : ∀ x ∈ t, b ≤ x.1 := fun x hx => hr _ (by rw [← htr]; exact List.mem_map_of_mem hx)
    obtain ⟨L1, u, m1, m2, m3, m4⟩ := lift_max a La ((b, Lb) :: t) (fun x hx => by
      rcases List.mem_cons.1 hx with rfl | hx
      · exact hab
      · exact Int.le_trans hab (hrt x hx))
    have hu : ∃ b' Lb' t1, u = (b', Lb') :: t1 := by
      match u, m2 with
      | (b', Lb') :: t1, _ => exact ⟨b', Lb', t1, rfl⟩
    obtain ⟨b', Lb', t1, rfl⟩ := hu
    simp only [List.map_cons, List.cons.injEq] at m2
    obtain ⟨rfl, m2⟩ := m2
    have h1t : ∀ x ∈ t1, b' ≤ x.1 := fun x hx => by
      have : x.1 ∈ t.map (·.1) := by rw [← m2]; exact List.mem_map_of_mem hx
      obtain ⟨y, hy, e⟩ := List.mem_map.1 this
      rw [← e]; exact hrt y hy
    obtain ⟨L2, t2, n1, n2, n3, n4⟩ := lift_max b' Lb' t1 h1t
    have lens : (L1 :: L2 :: t2.map (·.2)).Perm (l.map (·.2)) := by
      refine (List.Perm.cons L1 n3).trans (List.Perm.trans ?_ (hpl.map (·.2)).symm)
      simpa using m3
    have hle2 : ∀ k ∈ L2 :: t2.map (·.2), k ≤ L1 := fun k hk' => by
      have := n3.mem_iff.1 hk'
      rcases List.mem_cons.1 this with e | e
      · rw [e]; exact m1 _ List.mem_cons_self
      · obtain ⟨y, hy, rfl⟩ := List.mem_map.1 e
        exact m1 y (List.mem_cons_of_mem _ hy)
    have hL1 : L1 ≤ D := by
      have : L1 ∈ l.map (·.2) := lens.mem_iff.1 List.mem_cons_self
      obtain ⟨y, hy, e⟩ := List.mem_map.1 this
      rw [← e]; exact hD y hy
    have hL21 : L2 ≤ L1 := hle2 L2 List.mem_cons_self
    rw [← krf_perm D lens] at hk
    obtain ⟨k1, k2⟩ := krf_even hL1 hL21 (fun k hk' => by
      obtain ⟨y, hy, rfl⟩ := List.mem_map.1 hk'
      exact n1 y hy) hk
    have ih := hf_lower n D ((a + b', L2 - 1) :: t2) (by
        have e1 := hpl.length_eq
        have e2 := congrArg List.length m2
        have e3 := congrArg List.length n2
        simp at e1 e2 e3 ⊢
        omega) (fun x hx => by
        rcases List.mem_cons.1 hx with rfl | hx
        · simp only; omega
        · have : x.1 ∈ t1.map (·.1) := by rw [← n2]; exact List.mem_map_of_mem hx
          obtain ⟨y, hy, e⟩ := List.mem_map.1 this
          rw [← e]; have := h1t y hy; omega) (fun x hx => by
        rcases List.mem_cons.1 hx with rfl | hx
        · simp only; omega
        · have := n1 x hx; omega) (by
        rw [List.map_cons, krf_cons]
        simp only [krf_cons] at k1
        have : 2 ^ (D - (L2 - 1)) = 2 ^ (D - L2) + 2 ^ (D - L2) := by
          rw [show D - (L2 - 1) = (D - L2) + 1 by omega, Nat.pow_succ]; omega
        simp only
        omega)
    rw [he]
    have er : r = t2.map (·.1) := by rw [n2, m2, htr]
    rw [er]
    rw [List.map_cons] at ih
    simp only at ih
    rw [cst_perm hpl]
    simp only [cst_cons] at m4 n4 ih ⊢
    have z1 : a * (L2 : Int) ≤ a * (L1 : Int) := Int.mul_le_mul_of_nonneg_left (by omega) ha0
    have z2 : (a + b') * ((L2 - 1 : Nat) : Int) = a * (L2 : Int) + b' * (L2 : Int) - (a + b') := by
      rw [show ((L2 - 1 : Nat) : Int) = (L2 : Int) - 1 by omega, Int.mul_sub, Int.add_mul]; omega
    omega
/-- a code of at most n - 1 bits costs just that -/
theorem hf_upper : ∀ (n : Nat) (l : List Int), l.length = n + 1 → ∃ p : List (Int × Nat), (p.map (·.1)).Perm l ∧ (∀ x ∈ p, x.2 ≤ n) ∧ (1 ≤ n → ∀ x ∈ p, 1 ≤ x.2) ∧ cst p = hf n l ∧ ∀ D, n ≤ D → krf D (p.map (·.2)) = 2 ^ D
  | 0, l, hl => by
    obtain ⟨x, rfl⟩ := List.length_eq_one_iff.1 hl
    exact ⟨[(x, 0)], List.Perm.refl _, by simp, by omega, by simp [cst, hf], by simp [krf]⟩
  | n + 1, l, hl => by
    obtain ⟨a, b, r, hp, hab, hr, he⟩ := hf_two (k := n) (l := l) (by omega)
    obtain ⟨p, p1, p2, p3, p4, p5⟩ := hf_upper n ((a + b) :: r) (by have := hp.length_eq; simp at this ⊢; omega)
    have hm : (a + b) ∈ p.map (·.1) := p1.mem_iff.2 List.mem_cons_self
    obtain ⟨y, hy, ey⟩ := List.mem_map.1 hm
    obtain ⟨w, L⟩ := y
    simp only at ey
    subst ey
    have q := List.perm_cons_erase hy
    have q2 := (q.map (·.1)).symm.trans p1
    rw [List.map_cons] at q2
    have q3 := List.Perm.cons_inv q2
    refine ⟨(a, L + 1) :: (b, L + 1) :: p.erase (a + b, L), ?_, ?_, ?_, ?_, ?_⟩
    · exact (List.Perm.cons a (List.Perm.cons b q3)).trans hp.symm
    · intro x hx
      have hL := p2 _ hy
      simp only at hL
      rcases List.mem_cons.1 hx with rfl | hx
      · simp only; omega
      · rcases List.mem_cons.1 hx with rfl | hx
        · simp only; omega
        · have := p2 x (List.mem_of_mem_erase hx); omega
    · intro _ x hx
      rcases List.mem_cons.1 hx with rfl | hx
      · simp
      · rcases List.mem_cons.1 hx with rfl | hx
        · simp
        · have hn : 1 ≤ n := by
            have e1 := q.length_eq
            have e2 := p1.length_eq
            have e3 := hp.length_eq
            have e4 := List.length_pos_of_mem hx
            simp at e1 e2 e3
            omega
          exact p3 hn x (List.mem_of_mem_erase hx)
    · rw [he, ← p4, cst_perm q]
      simp only [cst_cons]
      rw [Int.natCast_add, Int.mul_add, Int.mul_add, Int.add_mul]
      simp
      omega
    · intro D hD
      have := p5 D (by omega)
      rw [krf_perm D (q.map (·.2)), List.map_cons, krf_cons] at this
      simp only [List.map_cons, krf_cons]
      have hL := p2 _ hy
      simp only at hL this
      have e : 2 ^ (D - L) = 2 ^ (D - (L + 1)) + 2 ^ (D - (L + 1)) := by
        rw [show D - L = (D - (L + 1)) + 1 by omega, Nat.pow_succ]; omega
      omega
end Go.Proofs.Ytomiammdfiddbaa.Heaps
