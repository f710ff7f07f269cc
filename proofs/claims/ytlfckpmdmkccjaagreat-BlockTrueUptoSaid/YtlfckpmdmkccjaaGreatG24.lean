/- Texts of this claim, one behind the other: BlkY, BlkZ, CodeR. -/
import Derived.Test.YtlfckpmdmkccjaaGreatG23
import Derived.Test.YtlfckpmdmkccjaaGreatG07
import Derived.Test.YtlfckpmdmkccjaaGreatG01
/- Chapter 09, plain: what is written takes what it costs. No condition. -/
set_option linter.unusedVariables false
set_option linter.unusedSimpArgs false
set_option maxRecDepth 100000
namespace Go.Proofs.YtlfckpmdmkccjaaGreat.Blk
open Go.RowKit Go.Proofs.YtlfckpmdmkccjaaGreat.Lib Go.Proofs.YtlfckpmdmkccjaaGreat.Ints Go.Proofs.YtlfckpmdmkccjaaGreat.Lz Go.Proofs.YtlfckpmdmkccjaaGreat.Num Go.Proofs.YtlfckpmdmkccjaaGreat.Bits
theorem part_bits {lens : List Int} (h15 : Lens15 lens) {s : Int} (h0 : 0 ≤ s) (h1 : s < (lens.length : Nat)) : (((Code.part lens s).2 : Nat) : Int) = lens.getD s.toNat 0 := by
  have h2 := lens15_get h15 s.toNat
  unfold Code.part Code.bitsOf
  simp only
  rw [if_pos ⟨h0, h1⟩]
  omega
theorem tokP_bits {lit dist : List Int} (ha : Lens15 lit) (hb : Lens15 dist) (hx : 286 ≤ lit.length) (hy : 30 ≤ dist.length) {t : Tok} (hr : right t = true) (hl : 0 ≤ t.lit ∧ t.lit ≤ 255) : (totOf (tokP lit dist t) : Int) = tkBits lit dist t := by
  have sa := (sgA_fit hr hl).1
  have sb := sgB_fit hr
  have pa := part_bits ha sa.sym.1 (by have := sa.sym.2; omega)
  have pb := part_bits hb sb.sym.1 (by have := sb.sym.2; omega)
  have ba := sa.bits
  have bb := sb.bits
  unfold tokP tkBits
  split
  · simp only [List.append_nil, totOf]
    omega
  · simp only [List.cons_append, List.nil_append, totOf]
    omega
theorem toksP_bits {lit dist : List Int} (ha : Lens15 lit) (hb : Lens15 dist) (hx : 286 ≤ lit.length) (hy : 30 ≤ dist.length) : ∀ (l : List Tok), (∀ t ∈ l, right t = true) → LitB l → (totOf (toksP lit dist l) : Int) = codedF lit dist l
  | [], _, _ => rfl
  | t :: l, hr, hl => by
    have h1 := tokP_bits ha hb hx hy (hr t (by simp)) (hl t (by simp))
    have h2 := toksP_bits ha hb hx hy l (fun u hu => hr u (by simp [hu])) (fun u hu => hl u (by simp [hu]))
    have e : toksP lit dist (t :: l) = tokP lit dist t ++ toksP lit dist l := by simp [toksP]
    rw [e, totOf_app, codedF]
    omega
theorem bodyP_bits {lit dist : List Int} (ha : Lens15 lit) (hb : Lens15 dist) (hx : 286 ≤ lit.length) (hy : 30 ≤ dist.length) {l : List Tok} (hr : ∀ t ∈ l, right t = true) (hl : LitB l) : (totOf (bodyP lit dist l) : Int) = codedN lit dist l := by
  have h1 := toksP_bits ha hb hx hy l hr hl
  have h2 := part_bits ha (s := 256) (by decide) (by omega)
  rw [show (256 : Int).toNat = 256 from rfl] at h2
  unfold bodyP codedN
  rw [totOf_snoc2]
  omega
theorem headP_bits {lit dist : List Int} (h : Head.okH lit dist = true) : (totOf (Head.headP lit dist) : Int) = Head.hcost lit dist := by
  obtain ⟨r1, r2, _⟩ := Head.hruns_ok h
  have hck := Head.hlens_check (rs := Head.hruns lit dist) (by omega)
  have h19 := Head.hlens_len (rs := Head.hruns lit dist) (by omega)
  have h2 := Head.toldN_le (Head.hlens (Head.hruns lit dist)) 19
  have h3 := Head.ordP_tot (Head.hlens (Head.hruns lit dist)) (Head.toldN (Head.hlens (Head.hruns lit dist)) 19) (by omega)
  have h4 : ∀ rs : List (Int × Int), (∀ r ∈ rs, Head.RunB r) → (totOf (Head.runsP (Head.hlens (Head.hruns lit dist)) rs) : Int) = Head.costF (Head.hlens (Head.hruns lit dist)) rs := by
    intro rs
    induction rs with
    | nil => intro _; rfl
    | cons r rs ih =>
      intro hr
      have i1 := ih (fun u hu => hr u (by simp [hu]))
      obtain ⟨b1, b2, _⟩ := hr r (by simp)
      have pb := part_bits (check15 hck) b1 (by rw [h19]; omega)
      have kb := Head.kbits_le r.1
      have e : Head.runsP (Head.hlens (Head.hruns lit dist)) (r :: rs) = Head.runP (Head.hlens (Head.hruns lit dist)) r ++ Head.runsP (Head.hlens (Head.hruns lit dist)) rs := by simp [Head.runsP]
      rw [e, totOf_app, Head.costF, Head.runCost]
      simp only [Head.runP, totOf]
      omega
  have h5 := h4 _ r1
  unfold Head.headP Head.hcost
  rw [totOf_app, totOf_app, h3]
  simp only [totOf]
  omega
/-- what is written takes what it costs -/
theorem blockP_bits {k m : Nat} {b : Bool} {data : List Int} {l : List Tok} (hk : k < 3) (hmay : mayB l = 0) (hl : LitB l) (hd : data.length = Lz.sizeOf l) (he : (costK k ((m % 8 : Nat) : Int) l).2 = 0) : (totOf (blockP k m b data l) : Int) = (costK k ((m % 8 : Nat) : Int) l).1 := by
  obtain ⟨_, hr⟩ := mayB_zero hmay
  have e : totOf (blockP k m b data l) = 3 + totOf (kindP k (m + 3) data l) := by unfold blockP; rw [totOf_app]; rfl
  rw [e]
  unfold kindP
  by_cases h0 : k = 0
  · subst h0
    unfold costK at he ⊢
    rw [if_pos rfl] at he ⊢
    by_cases hb : 65535 < Lz.sizeOf l
    · rw [if_pos hb] at he; cases he
    · rw [if_pos rfl, if_neg hb]
      unfold storedP
      rw [totOf_app, bytesP_tot, hd]
      simp only [totOf]
      omega
  · rw [if_neg h0]
    unfold costK
    rw [if_neg h0]
    by_cases h1 : k = 1
    · rw [if_pos h1, if_pos h1]
      have := bodyP_bits plainLit15 plainDist15 (by rw [show plainLit.length = 288 from fill_len _ _ _]; decide) (by rw [show plainDist.length = 32 from fill_len _ _ _]; decide) hr hl
      simp only
      omega
    · rw [if_neg h1, if_neg h1]
      have a := bodyP_bits (check15 (ownLit_check l)) (check15 (ownDist_check l)) (by rw [ownLit_len]; decide) (by rw [ownDist_len]; decide) hr hl
      have c := headP_bits (own_okH l)
      unfold ownP
      rw [totOf_app]
      simp only
      omega
/-- the kind that is picked costs no more -/
theorem pickF_best {bh : Int} (h0 : 0 ≤ bh) (h7 : bh ≤ 7) {l : List Tok} (h : mayB l = 0) (hl : LitB l) : ∀ k, k ≤ 3 → (∀ j, j < k → (costK j bh l).2 = 0 → 0 ≤ (pickF bh l k).2 ∧ (pickF bh l k).2 ≤ (costK j bh l).1) ∧ (0 ≤ (pickF bh l k).2 → ∃ j : Nat, j < k ∧ (pickF bh l k).1 = (j : Int) ∧ (costK j bh l).2 = 0 ∧ (pickF bh l k).2 = (costK j bh l).1)
  | 0, _ => ⟨fun j hj => absurd hj (by omega), fun h => by simp [pickF] at h⟩
  | k + 1, hk => by
    obtain ⟨i1, i2⟩ := pickF_best h0 h7 h hl k (by omega)
    have hc := costK_le h0 h7 h hl k
    rw [pickF]
    by_cases hp : (costK k bh l).2 = 0 ∧ ((pickF bh l k).2 < 0 ∨ (costK k bh l).1 < (pickF bh l k).2)
    · rw [if_pos hp]
      refine ⟨fun j hj he => ?_, fun _ => ⟨k, by omega, rfl, hp.1, rfl⟩⟩
      refine ⟨hc.1, ?_⟩
      by_cases e : j = k
      · subst e; exact Int.le_refl _
      · have := i1 j (by omega) he
        simp only
        omega
    · rw [if_neg hp]
      refine ⟨fun j hj he => ?_, fun hpos => ?_⟩
      · by_cases e : j = k
        · subst e
          have h1 : ¬ ((pickF bh l j).2 < 0 ∨ (costK j bh l).1 < (pickF bh l j).2) := fun h => hp ⟨he, h⟩
          omega
        · exact i1 j (by omega) he
      · obtain ⟨j, a, b, c, d⟩ := i2 hpos
        exact ⟨j, by omega, b, c, d⟩
end Go.Proofs.YtlfckpmdmkccjaaGreat.Blk
/- Chapter 09, plain: codes of a block's own take no more than the plain ones. No condition. -/
set_option linter.unusedVariables false
set_option linter.unusedSimpArgs false
set_option maxRecDepth 100000
namespace Go.Proofs.YtlfckpmdmkccjaaGreat.Blk
open Go.RowKit Go.Proofs.YtlfckpmdmkccjaaGreat.Lib Go.Proofs.YtlfckpmdmkccjaaGreat.Ints Go.Proofs.YtlfckpmdmkccjaaGreat.Lz Go.Proofs.YtlfckpmdmkccjaaGreat.Lens Go.Proofs.YtlfckpmdmkccjaaGreat.Pm
theorem frq_succ (k : Nat) (xs : List Int) : frq (k + 1) xs = frq k xs ++ [(Code.cnt xs k : Int)] := by
  unfold frq
  rw [List.range_succ, List.map_append]; rfl
theorem lv_frq (k : Nat) (xs : List Int) : lv (frq (k + 1) xs) 0 = lv (frq k xs) 0 ++ if 0 < Code.cnt xs k then [(Code.cnt xs k, k)] else [] := by
  rw [frq_succ, lv_app, frq_len, Nat.zero_add]
  simp only [lv]
  by_cases h : 0 < Code.cnt xs k
  · rw [if_pos (by omega), if_pos h, Int.toNat_natCast]
  · rw [if_neg (by omega), if_neg h]
theorem sum_frq (g : Nat → Nat) (xs : List Int) : ∀ k, sumL (fun p => p.1 * g p.2) (lv (frq k xs) 0) = sumN (fun s => Code.cnt xs s * g s) k
  | 0 => rfl
  | k + 1 => by
    rw [lv_frq, Pm.sumL_app, sum_frq g xs k, sumN]
    by_cases h : 0 < Code.cnt xs k
    · rw [if_pos h]; simp only [sumL]; omega
    · rw [if_neg h, show Code.cnt xs k = 0 from by omega]; simp [sumL]
theorem kraft_frq (h : Nat → Nat) (xs : List Int) : ∀ k, sumL (fun p : Nat × Nat => h p.2) (lv (frq k xs) 0) ≤ sumN h k
  | 0 => Nat.le_refl _
  | k + 1 => by
    have := kraft_frq h xs k
    rw [lv_frq, Pm.sumL_app, sumN]
    split
    · simp only [sumL]; omega
    · simp only [sumL]; omega
def costS (g : Nat → Nat) : List Int → Nat
  | [] => 0
  | x :: xs => g x.toNat + costS g xs
theorem sumN_add (f g : Nat → Nat) : ∀ k, sumN (fun s => f s + g s) k = sumN f k + sumN g k
  | 0 => rfl
  | k + 1 => by simp only [sumN, sumN_add f g k]; omega
theorem sumN_one (g : Nat → Nat) (x : Nat) : ∀ k, sumN (fun s => (if (x : Int) = (s : Int) then 1 else 0) * g s) k = if x < k then g x else 0
  | 0 => rfl
  | k + 1 => by
    simp only [sumN, sumN_one g x k]
    by_cases e : x = k
    · subst e; simp
    · have e2 : ¬ ((x : Int) = (k : Int)) := by omega
      by_cases h : x < k
      · rw [if_pos h, if_neg e2, if_pos (show x < k + 1 by omega)]; omega
      · rw [if_neg h, if_neg e2, if_neg (show ¬ x < k + 1 by omega)]; omega
theorem sum_cnt (g : Nat → Nat) (N : Nat) : ∀ xs : List Int, (∀ x ∈ xs, 0 ≤ x ∧ x < (N : Int)) → sumN (fun s => Code.cnt xs s * g s) N = costS g xs
  | [], _ => by
    have : (fun s => Code.cnt [] s * g s) = fun _ => 0 := by funext s; simp [Code.cnt]
    rw [this, sumN_zero]; rfl
  | x :: xs, h => by
    obtain ⟨y, hy⟩ := Int.eq_ofNat_of_zero_le (h x (by simp)).1
    have hx := (h x (by simp)).2
    subst hy
    have e : (fun s : Nat => Code.cnt ((y : Int) :: xs) s * g s) = fun s : Nat => (if (y : Int) = (s : Int) then 1 else 0) * g s + Code.cnt xs s * g s := by
      funext s
      unfold Code.cnt
      rw [List.countP_cons, Nat.add_mul, Nat.add_comm]
      by_cases hh : (y : Int) = (s : Int) <;> simp [hh]
    rw [e, sumN_add, sumN_one, if_pos (by omega), sum_cnt g N xs (fun z hz => h z (by simp [hz])), costS, Int.toNat_natCast]
theorem lv_frq_lt (xs : List Int) : ∀ k, ∀ p ∈ lv (frq k xs) 0, p.2 < k
  | 0, p, hp => by simp [frq, lv] at hp
  | k + 1, p, hp => by
    rw [lv_frq] at hp
    rcases List.mem_append.1 hp with h | h
    · have := lv_frq_lt xs k p h; omega
    · split at h
      · rw [List.mem_singleton] at h; subst h; omega
      · cases h
/-- no other lengths cost less -/
theorem own_best {N : Nat} (hN : N ≤ 288) (o : Nat → Nat) (ho : ∀ s, s < N → 1 ≤ o s ∧ o s ≤ 15) (hk : sumN (fun s => 2 ^ (15 - o s)) N ≤ 2 ^ 15) (xs : List Int) (hx : ∀ x ∈ xs, 0 ≤ x ∧ x < (N : Int)) :
    costS (fun s => lenOf 15 (frq N xs) s) xs ≤ costS o xs := by
  rw [← sum_cnt _ N xs hx, ← sum_cnt _ N xs hx, ← sum_frq, ← sum_frq]
  exact lens_best (by decide) (by decide) (lvs_frq xs hN) o (fun p hp => ho p.2 (lv_frq_lt xs N p hp)) (Nat.le_trans (kraft_frq (fun s => 2 ^ (15 - o s)) xs N) hk)
/-! ### the codes of tokens and the end -/
def tkN (lit dist : List Int) (t : Tok) : Int := lit.getD (sgA t).1.toNat 0 + if t.len = 0 then 0 else dist.getD (sgB t).1.toNat 0
def tksF (lit dist : List Int) : List Tok → Int
  | [] => 0
  | t :: l => tkN lit dist t + tksF lit dist l
def tokN (lit dist : List Int) (l : List Tok) : Int := lit.getD 256 0 + tksF lit dist l
theorem tksF_app (lit dist : List Int) : ∀ a b, tksF lit dist (a ++ b) = tksF lit dist a + tksF lit dist b
  | [], b => by simp [tksF]
  | t :: a, b => by simp only [List.cons_append, tksF, tksF_app lit dist a b]; omega
theorem tksF_take {lit dist : List Int} {l : List Tok} {j : Nat} (h : j < l.length) : tksF lit dist (l.take (j + 1)) = tksF lit dist (l.take j) + tkN lit dist l[j] := by
  rw [List.take_succ_eq_append_getElem h, tksF_app]
  simp [tksF]
theorem tksF_le {lit dist : List Int} (ha : Lens15 lit) (hb : Lens15 dist) : ∀ l : List Tok, 0 ≤ tksF lit dist l ∧ tksF lit dist l ≤ 30 * (l.length : Nat)
  | [] => by simp [tksF]
  | t :: l => by
    have h1 := lens15_get ha (sgA t).1.toNat
    have h2 := lens15_get hb (sgB t).1.toNat
    have h3 := tksF_le ha hb l
    simp only [tksF, tkN, List.length_cons]
    split <;> omega
theorem costS_app (g : Nat → Nat) : ∀ a b, costS g (a ++ b) = costS g a + costS g b
  | [], b => by simp [costS]
  | x :: a, b => by simp only [List.cons_append, costS, costS_app g a b]; omega
theorem tok_costs {lit dist : List Int} (f g : Nat → Nat) : ∀ l : List Tok, (∀ t ∈ l, lit.getD (sgA t).1.toNat 0 = (f (sgA t).1.toNat : Nat) ∧ dist.getD (sgB t).1.toNat 0 = (g (sgB t).1.toNat : Nat)) → tksF lit dist l = ((costS f (symsA l) + costS g (symsB l) : Nat) : Int)
  | [], _ => rfl
  | t :: l, h => by
    obtain ⟨h1, h2⟩ := h t (by simp)
    have ih := tok_costs f g l (fun u hu => h u (by simp [hu]))
    have e : symsA (t :: l) = (sgA t).1 :: symsA l := rfl
    rw [e, tksF, tkN, h1, h2, ih, symsB, costS_app, costS]
    split
    · simp only [costS]; omega
    · simp only [costS]; omega
theorem syms_in {l : List Tok} (hr : ∀ t ∈ l, right t = true) (hl : LitB l) : (∀ x ∈ symsA l, 0 ≤ x ∧ x < 286) ∧ (∀ x ∈ symsB l, 0 ≤ x ∧ x < 30) := by
  constructor
  · intro x hx
    obtain ⟨t, ht, rfl⟩ := List.mem_map.1 hx
    exact (sgA_fit (hr t ht) (hl t ht)).1.sym
  · induction l with
    | nil => intro x hx; cases hx
    | cons t l ih =>
      intro x hx
      rcases List.mem_append.1 hx with h | h
      · split at h
        · cases h
        · rw [List.mem_singleton] at h; subst h
          exact (sgB_fit (hr t (by simp))).sym
      · exact ih (fun u hu => hr u (by simp [hu])) (fun u hu => hl u (by simp [hu])) x h
theorem plainLit_at {s : Nat} (h : s < 286) : plainLit.getD s 0 = ((litF s).toNat : Int) ∧ 1 ≤ (litF s).toNat ∧ (litF s).toNat ≤ 15 := by
  have e : plainLit.getD s 0 = litF s := by
    rw [List.getD_eq_getElem?_getD]
    simp [plainLit, fill, show s < 288 from by omega]
  have h2 : 7 ≤ litF s ∧ litF s ≤ 9 := by
    unfold litF
    split
    · omega
    · split
      · omega
      · split <;> omega
  rw [e]
  omega
theorem plainDist_at {s : Nat} (h : s < 30) : plainDist.getD s 0 = ((5 : Nat) : Int) := by
  rw [List.getD_eq_getElem?_getD]
  simp [plainDist, fill, show s < 32 from by omega]
theorem own_le_plain {l : List Tok} (hr : ∀ t ∈ l, right t = true) (hl : LitB l) : tokN (ownLit l) (ownDist l) l ≤ tokN plainLit plainDist l := by
  obtain ⟨sa, sb⟩ := syms_in hr hl
  have ga : ∀ s, s < 286 → (ownLit l).getD s 0 = ((lenOf 15 (frq 286 (symsA l ++ [256])) s : Nat) : Int) := fun s hs => by
    rw [List.getD_eq_getElem?_getD]; simp [ownLit, litFrq, hs]
  have gb : ∀ s, s < 30 → (ownDist l).getD s 0 = ((lenOf 15 (frq 30 (symsB l)) s : Nat) : Int) := fun s hs => by
    rw [List.getD_eq_getElem?_getD]; simp [ownDist, distFrq, hs]
  have hA : ∀ t ∈ l, (sgA t).1.toNat < 286 ∧ (sgB t).1.toNat < 30 := fun t ht => by
    have a := (sgA_fit (hr t ht) (hl t ht)).1.sym
    have b := (sgB_fit (hr t ht)).sym
    omega
  have e1 := tok_costs (lit := ownLit l) (dist := ownDist l) (fun s => lenOf 15 (frq 286 (symsA l ++ [256])) s) (fun s => lenOf 15 (frq 30 (symsB l)) s) l (fun t ht => ⟨ga _ (hA t ht).1, gb _ (hA t ht).2⟩)
  have e2 := tok_costs (lit := plainLit) (dist := plainDist) (fun s => (litF s).toNat) (fun _ => 5) l (fun t ht => ⟨(plainLit_at (hA t ht).1).1, plainDist_at (hA t ht).2⟩)
  have b1 := own_best (N := 286) (by decide) (fun s => (litF s).toNat) (fun s hs => (plainLit_at hs).2) (by decide +kernel) (symsA l ++ [256]) (fun x hx => by
    rcases List.mem_append.1 hx with h | h
    · exact sa x h
    · rw [List.mem_singleton] at h; subst h; exact ⟨by decide, by decide⟩)
  have b2 := own_best (N := 30) (by decide) (fun _ => 5) (fun s hs => ⟨by decide, by decide⟩) (by decide +kernel) (symsB l) sb
  rw [costS_app, costS_app] at b1
  simp only [costS] at b1
  have z1 := ga 256 (by decide)
  have z2 := (plainLit_at (s := 256) (by decide)).1
  rw [show (256 : Int).toNat = 256 from rfl] at b1
  unfold tokN
  rw [e1, e2, z1, z2]
  omega
end Go.Proofs.YtlfckpmdmkccjaaGreat.Blk
/- The document's Space, Check and Codes, walked. Conditions: none but the slice's. -/
set_option linter.unusedVariables false
set_option linter.unusedSimpArgs false
set_option maxRecDepth 100000
namespace Go.Proofs.YtlfckpmdmkccjaaGreat.Code
open Go.RowKit Go.IntWalk Go.Proofs.YtlfckpmdmkccjaaGreat.Lib Go.Proofs.YtlfckpmdmkccjaaGreat.Ints

set_option maxHeartbeats 8000000 in
theorem rspc_any (w : World) (A : Option Addr) (n c : Nat) (lens : List Int) (q : Option Nat) (hS : SlArg w A n c (i64s lens) q) (v : Nat) (r : Int) (hv : v = spVal lens) (hr : r = spErr lens) :
    Calls Tryz.prog 78 #[.slice A n c] w fun e w' => e = .returned (.tuple #[.int .i64 (v : Nat), .int .i64 r]) ∧ w = w' := by
  have HR := Hd.mk hr
  have HV := Hd.mk hv
  have HS := Hd.mk hS
  have hl : lens.length = n := by have := hS.len; simpa [i64s] using this
  have HBAD : Hd (bad lens = true → v = 0 ∧ r = 50) := ⟨fun h => ⟨by rw [hv]; unfold spVal; rw [if_pos h], by rw [hr]; unfold spErr; rw [if_pos h]⟩⟩
  clear hr hv hS
  go_enter Tryz.func78, Tryz.ntmps78
  by_cases h288 : (n : Int) > 288
  · obtain ⟨rfl, rfl⟩ := HBAD.out (bad_long (by omega))
    go_wp2
    go_ret2
    exact ⟨rfl, rfl⟩
  · go_wp2
    go_loopg [4, 12] n (fun kq sv jv wr => ∃ (j s : Nat), sv = .int .i64 (s : Nat) ∧ jv = .int .i64 (j : Nat) ∧ j + kq = n ∧ s ≤ j * 16384 ∧ Hd (s = spaceR (lens.take j)) ∧ Hd (∀ (i : Nat) (hi : i < lens.length), i < j → 0 ≤ lens[i] ∧ lens[i] ≤ 15) ∧ wr = w)
    case atStart => exact ⟨0, 0, rfl, rfl, by omega, by omega, ⟨by simp [spaceR]⟩, ⟨by intro i hi h; omega⟩, rfl⟩
    case round =>
      obtain ⟨j, s, rfl, rfl, hj, hs, HSS, HP, rfl⟩ := hrel
      by_cases hjn : j < n
      · obtain ⟨bd, off, rfl, _, hcc⟩ := HS.out.sl (by rw [i64s_length]; omega)
        have kd := (hcc j (by rw [i64s_length]; omega)).trans (i64s_get lens j)
        obtain ⟨x, hx⟩ : ∃ x, lens[j]? = some x := ⟨_, List.getElem?_eq_getElem (by omega)⟩
        rw [hx] at kd
        simp only [Option.map_some] at kd
        have HX : Hd (∃ h : j < lens.length, lens[j] = x) := ⟨List.getElem?_eq_some_iff.mp hx⟩
        clear hcc hx
        by_cases hx0 : x < 0
        · obtain ⟨rfl, rfl⟩ := HBAD.out (by obtain ⟨e, he⟩ := HX.out; exact bad_at e (by omega))
          go_wp2
          go_ret2
          exact ⟨rfl, rfl⟩
        · by_cases hx1 : x > 15
          · obtain ⟨rfl, rfl⟩ := HBAD.out (by obtain ⟨e, he⟩ := HX.out; exact bad_at e (by omega))
            go_wp2
            go_ret2
            exact ⟨rfl, rfl⟩
          · have HP2 : Hd (∀ (i : Nat) (hi : i < lens.length), i < j + 1 → 0 ≤ lens[i] ∧ lens[i] ≤ 15) := ⟨by
              intro i hi hij
              by_cases e : i = j
              · subst e
                obtain ⟨e, he⟩ := HX.out
                rw [he]; omega
              · exact HP.out i hi (by omega)⟩
            have HSX : Hd (spaceR (lens.take (j + 1)) = s + (if 0 < x then 2 ^ (15 - x.toNat) else 0)) := ⟨by
              obtain ⟨e, he⟩ := HX.out
              rw [spaceR_take e, he, ← HSS.out]⟩
            obtain ⟨v0, rfl⟩ := Int.eq_ofNat_of_zero_le (show 0 ≤ x by omega)
            by_cases hxp : (v0 : Int) > 0
            · obtain ⟨z, hz⟩ : ∃ z, z = 2 ^ (15 - v0) := ⟨_, rfl⟩
              have hzb : z ≤ 16384 := by
                rw [hz]
                have : 2 ^ (15 - v0) ≤ 2 ^ 14 := Nat.pow_le_pow_right (by omega) (by omega)
                simpa using this
              have HZ := Hd.mk hz
              clear hz
              go_wp2
              have e1 : wrap64 ((2 : Int) ^ (15 - v0)) = (z : Nat) := by
                rw [show (2 : Int) ^ (15 - v0) = (z : Nat) from by rw [HZ.out]; push_cast; rfl]
                exact wrap64_in _ (by omega)
              rw [e1]
              have e2 : wrap64 ((s : Int) + (z : Nat)) = ((s + z : Nat) : Int) := by
                rw [show (s : Int) + (z : Nat) = ((s + z : Nat) : Int) from by push_cast; rfl]
                exact wrap64_in _ (by omega)
              rw [e2]
              go_roundg (gk - 1)
              case measure => omega
              case rel => exact ⟨j + 1, s + z, rfl, by go_num, by omega, by omega, ⟨by rw [HSX.out, if_pos hxp, HZ.out, Int.toNat_natCast]⟩, HP2, rfl⟩
            · go_wp2
              go_roundg (gk - 1)
              case measure => omega
              case rel => exact ⟨j + 1, s, by go_num, by go_num, by omega, by omega, ⟨by rw [HSX.out, if_neg (by omega)]; rfl⟩, HP2, rfl⟩
      · obtain rfl : j = n := by omega
        have hb : bad lens = false := bad_not (by omega) (fun i hi => HP.out i hi (by omega))
        have hall := (bad_false hb).2
        obtain rfl : r = 0 := by rw [HR.out]; unfold spErr; rw [if_neg (by rw [hb]; simp)]
        obtain rfl : v = s := by rw [HV.out, HSS.out, ← hl, List.take_length, spaceR_eq lens hall]; unfold spVal; rw [if_neg (by rw [hb]; simp)]
        clear hb hall
        go_wp2
        go_ret2
        exact ⟨rfl, rfl⟩
set_option maxHeartbeats 8000000 in
theorem rchk_any (w : World) (A : Option Addr) (n c : Nat) (lens : List Int) (q : Option Nat) (hS : SlArg w A n c (i64s lens) q) (r : Int) (hr : r = check lens) :
    Calls Tryz.prog 49 #[.slice A n c] w fun e w' => e = .returned (.int .i64 r) ∧ w = w' := by
  have HR : Hd (r = checkR lens) := ⟨by rw [checkR_eq]; exact hr⟩
  have HS := Hd.mk hS
  have hl : lens.length = n := by have := hS.len; simpa [i64s] using this
  clear hr hS
  obtain ⟨b, hb⟩ : ∃ b, b = bad lens := ⟨_, rfl⟩
  have HB := Hd.mk hb
  clear hb
  obtain ⟨sp, hsp⟩ : ∃ sp, sp = spVal lens := ⟨_, rfl⟩
  obtain ⟨er, her⟩ : ∃ er, er = spErr lens := ⟨_, rfl⟩
  have HSP := Hd.mk hsp
  have HER := Hd.mk her
  clear hsp her
  go_enter Tryz.func49, Tryz.ntmps49
  go_wp2_with (fail)
  refine (rspc_any w A n c lens q HS.out sp er HSP.out HER.out).mono ?_
  rintro e w1 ⟨rfl, rfl⟩
  cases b with
  | true =>
    obtain rfl : er = 50 := by rw [HER.out]; unfold spErr; rw [if_pos HB.out.symm]
    obtain rfl : r = 50 := by rw [HR.out]; unfold checkR; rw [if_pos HB.out.symm]
    go_wp2
    go_ret
    exact ⟨rfl, rfl⟩
  | false =>
    obtain rfl : er = 0 := by rw [HER.out]; unfold spErr; rw [if_neg (by rw [← HB.out]; simp)]
    obtain ⟨hl288, hall⟩ := bad_false HB.out.symm
    have hsp2 : sp = spaceR lens := by rw [HSP.out, spaceR_eq lens hall]; unfold spVal; rw [if_neg (by rw [← HB.out]; simp)]
    have hspb : sp ≤ 4718592 := by
      have := spaceR_le lens
      rw [hsp2]
      omega
    have HSP2 := Hd.mk hsp2
    have HALL := Hd.mk hall
    have HR2 : Hd (r = if 32768 < sp then 51 else if sp = 32768 ∨ usedR lens = 0 ∨ (usedR lens = 1 ∧ sp = 16384) then 0 else 52) := ⟨by
      rw [HR.out, hsp2]
      unfold checkR
      rw [if_neg (by rw [← HB.out]; simp)]⟩
    clear hsp2 hall HR
    by_cases h51 : 32768 < sp
    · obtain rfl : r = 51 := by rw [HR2.out, if_pos h51]
      go_wp2
      go_ret
      exact ⟨rfl, rfl⟩
    · go_wp2
      go_loopg [5, 20] n (fun kq sv jv wr => ∃ (j s : Nat), sv = .int .i64 (s : Nat) ∧ jv = .int .i64 (j : Nat) ∧ j + kq = n ∧ s ≤ j ∧ Hd (s = usedR (lens.take j)) ∧ wr = w)
      case atStart => exact ⟨0, 0, rfl, rfl, by omega, by omega, ⟨by simp [usedR]⟩, rfl⟩
      case round =>
        obtain ⟨j, s, rfl, rfl, hj, hs, HSS, rfl⟩ := hrel
        by_cases hjn : j < n
        · obtain ⟨bd, off, rfl, _, hcc⟩ := HS.out.sl (by rw [i64s_length]; omega)
          have kd := (hcc j (by rw [i64s_length]; omega)).trans (i64s_get lens j)
          obtain ⟨x, hx⟩ : ∃ x, lens[j]? = some x := ⟨_, List.getElem?_eq_getElem (by omega)⟩
          rw [hx] at kd
          simp only [Option.map_some] at kd
          have HSX : Hd (usedR (lens.take (j + 1)) = s + (if 0 < x then 1 else 0)) := ⟨by
            obtain ⟨e, he⟩ := List.getElem?_eq_some_iff.mp hx
            rw [usedR_take e, he, ← HSS.out]⟩
          clear hcc hx
          by_cases hxp : x > 0
          · go_wp2
            go_roundg (gk - 1)
            case measure => omega
            case rel => exact ⟨j + 1, s + 1, by go_num, by go_num, by omega, by omega, ⟨by rw [HSX.out, if_pos hxp]⟩, rfl⟩
          · go_wp2
            go_roundg (gk - 1)
            case measure => omega
            case rel => exact ⟨j + 1, s, by go_num, by go_num, by omega, by omega, ⟨by rw [HSX.out, if_neg (by omega)]; rfl⟩, rfl⟩
        · obtain rfl : j = n := by omega
          have HR3 : Hd (r = if sp = 32768 ∨ s = 0 ∨ (s = 1 ∧ sp = 16384) then 0 else 52) := ⟨by rw [HR2.out, if_neg h51, HSS.out, ← hl, List.take_length]⟩
          clear HR2 HSS
          by_cases hw : sp = 32768
          · obtain rfl : r = 0 := by rw [HR3.out, if_pos (.inl hw)]
            have g1 : ((sp : Int) == 32768) = true := by simp; omega
            clear hw
            go_wp2
            go_ret
            exact ⟨rfl, rfl⟩
          · have g1 : ((sp : Int) == 32768) = false := by simp; omega
            by_cases hs0 : s = 0
            · obtain rfl : r = 0 := by rw [HR3.out, if_pos (.inr (.inl hs0))]
              have g2 : ((s : Int) == 0) = true := by simp; omega
              clear hs0 hw
              go_wp2
              go_ret
              exact ⟨rfl, rfl⟩
            · have g2 : ((s : Int) == 0) = false := by simp; omega
              by_cases hs1 : s = 1
              · have g3 : ((s : Int) == 1) = true := by simp; omega
                by_cases hc : sp = 16384
                · obtain rfl : r = 0 := by rw [HR3.out, if_pos (.inr (.inr ⟨hs1, hc⟩))]
                  have g4 : ((sp : Int) == 16384) = true := by simp; omega
                  clear hs0 hw hs1 hc
                  go_wp2
                  go_ret
                  exact ⟨rfl, rfl⟩
                · obtain rfl : r = 52 := by rw [HR3.out, if_neg (by omega)]
                  have g4 : ((sp : Int) == 16384) = false := by simp; omega
                  clear hs0 hw hs1 hc
                  go_wp2
                  go_ret
                  exact ⟨rfl, rfl⟩
              · obtain rfl : r = 52 := by rw [HR3.out, if_neg (by omega)]
                have g3 : ((s : Int) == 1) = false := by simp; omega
                clear hs0 hw hs1
                go_wp2
                go_ret
                exact ⟨rfl, rfl⟩
set_option maxHeartbeats 8000000 in
theorem rcodes_any (w : World) (A : Option Addr) (n c : Nat) (lens : List Int) (q : Option Nat) (hS : SlArg w A n c (i64s lens) q) (r : Int) (L : List Nat) (hr : r = check lens) (hL : L = codes lens) :
    Calls Tryz.prog 98 #[.slice A n c] w fun e w' => ∃ A' d', e = .returned (.tuple #[.slice A' L.length d', .int .i64 r]) ∧
      w'.ownsRow 0 3 1 (.slice A' L.length d') L.length (nv L) ∧ (∀ y, (Value.slice A' L.length d').ownBlock = some y → w.heap.size ≤ y) ∧ Fr w w' [] := by
  obtain ⟨j0, hj0, hj1, hj2, hj3⟩ := info_parts infoI64
  have HS := Hd.mk hS
  have HR := Hd.mk hr
  have HL := Hd.mk hL
  have hl : lens.length = n := by have := hS.len; simpa [i64s] using this
  clear hS hr hL
  go_enter Tryz.func98, Tryz.ntmps98
  go_wp2_with (fail)
  refine (rchk_any w A n c lens q HS.out r HR.out).mono ?_
  rintro e w1 ⟨rfl, rfl⟩
  by_cases hr0 : r = 0
  · subst hr0
    obtain ⟨hb, hsp⟩ := check_zero HR.out.symm
    obtain ⟨hl288, hall⟩ := bad_false hb
    have HALL := Hd.mk hall
    have HSP := Hd.mk hsp
    have hLn : L.length = n := by rw [HL.out, codes_len HR.out.symm, hl]
    clear hb hall hsp
    go_upto_region 5 with (refine wpList_make_full _ rfl _ _ 65 rfl 0 3 j0 (.int .i64 0) 1 Tryz.underlying65 hj0 hj1 hj2 .i64 .i64 _ _ n rfl rfl rfl rfl (by rw [hj3]; omega) (by unfold maxLen; omega) (Nat.zero_le _) ?_; intro w2 hown1 hgrow1; have O2 := Hd.mk hown1; have F2 := Hd.mk ((Fr.refl w []).grown hgrow1 (by simp)); clear hown1 hgrow1)
    have hgo : w.heap.size ≤ w.heap.size := Nat.le_refl _
    obtain ⟨go, hgoq⟩ : ∃ go, go = w.heap.size := ⟨_, rfl⟩
    rw [← hgoq] at O2 ⊢
    have hgo2 : w.heap.size ≤ go := by omega
    have O3 : Hd (w2.ownsRow 0 3 1 (.slice (some ⟨go, 0, none⟩) n n) n (nv (outL lens 1 0))) := ⟨by
      have e := toList_madeCells_one (Value.int .i64 0) (n * 1)
      have e2 : (Value.int .i64 0).cells = #[Value.int .i64 0] := rfl
      have e3 : nv (outL lens 1 0) = (madeCells (Value.int .i64 0).cells (n * 1)).toList := by
        rw [e2, e, ← outL_start, hl]
        simp [nv, i64s]
      rw [e3]
      exact O2.out⟩
    clear O2 hgo hgoq
    go_wp2
    go_loopg [6, 7, 8] 15 (fun kq xv lv nv' wr => ∃ (m nx la : Nat), xv = .int .i64 (nx : Nat) ∧ lv = .int .i64 (la : Nat) ∧ nv' = .int .i64 ((m + 1 : Nat) : Int) ∧ m + kq = 15 ∧ la ≤ 15 ∧ nx ≤ 32768 ∧ Hd (InvC lens (m + 1) 0 nx la) ∧ Hd (wr.ownsRow 0 3 1 (.slice (some ⟨go, 0, none⟩) n n) n (nv (outL lens (m + 1) 0))) ∧ Hd (Fr w wr []))
    case atStart => exact ⟨0, 0, 0, rfl, rfl, rfl, rfl, by omega, by omega, ⟨.inl ⟨rfl, rfl, by simp [firstF, cz, cnt]⟩⟩, O3, F2⟩
    case round =>
      obtain ⟨m, nx, la, rfl, rfl, rfl, hm, hla, hnx, HI, HO, HF⟩ := hrel
      obtain ⟨g0, rfl⟩ : ∃ g0 : Nat, g0 = gk := ⟨_, rfl⟩
      by_cases hm15 : m < 15
      · obtain ⟨nn, hnn⟩ : ∃ nn, nn = m + 1 := ⟨_, rfl⟩
        rw [← hnn] at HI HO ⊢
        have hn1 : 1 ≤ nn := by omega
        have hn15 : nn ≤ 15 := by omega
        have hn15i : (nn : Int) ≤ 15 := by omega
        have HNN := Hd.mk hnn
        clear hnn
        go_wp2_with (fail)
        go_loopg [6, 7, 25] n (fun kq xv lv iv wr => ∃ (i nx la : Nat), xv = .int .i64 (nx : Nat) ∧ lv = .int .i64 (la : Nat) ∧ iv = .int .i64 (i : Nat) ∧ i + kq = n ∧ la ≤ nn ∧ nx ≤ 32768 ∧ Hd (InvC lens nn i nx la) ∧ Hd (wr.ownsRow 0 3 1 (.slice (some ⟨go, 0, none⟩) n n) n (nv (outL lens nn i))) ∧ Hd (Fr w wr []))
        case atStart =>
          have hlan : la ≤ nn := by
            rcases HI.out with ⟨h1, _⟩ | ⟨_, h2, _⟩ <;> omega
          exact ⟨0, nx, la, rfl, rfl, rfl, by omega, hlan, hnx, HI, HO, HF⟩
        case round =>
          clear HI HO HF hnx
          obtain ⟨i, nx, la, rfl, rfl, rfl, hik, hla2, hnx, HI, HO, HF⟩ := hrel
          by_cases hi : i < n
          · obtain ⟨bd, off, rfl, _, hcc⟩ := (HS.out.sl.frame HF.out (by simp)) (by rw [i64s_length]; omega)
            have kd := (hcc i (by rw [i64s_length]; omega)).trans (i64s_get lens i)
            obtain ⟨x, hx⟩ : ∃ x, lens[i]? = some x := ⟨_, List.getElem?_eq_getElem (by omega)⟩
            rw [hx] at kd
            simp only [Option.map_some] at kd
            have HX : Hd (∃ h : i < lens.length, lens[i] = x) := ⟨List.getElem?_eq_some_iff.mp hx⟩
            clear hcc hx
            by_cases hxn : x = (nn : Int)
            · have g1 : (x != (nn : Int)) = false := by simp; exact hxn
              have HL2 : Hd (∃ h : i < lens.length, lens[i] = (nn : Int)) := ⟨by obtain ⟨h, e⟩ := HX.out; exact ⟨h, by rw [e, hxn]⟩⟩
              obtain ⟨hil, hie⟩ := HL2.out
              obtain ⟨p1, p2⟩ := inv_put hn1 hil hie HI.out
              obtain ⟨cd, hcd⟩ : ∃ cd, cd = firstF (cz lens) nn + cnt (lens.take i) nn := ⟨_, rfl⟩
              rw [← hcd] at p1 p2
              have hcb : cd ≤ 32768 := by
                obtain ⟨cd', c1, c2, c3, c4⟩ := code_fits HR.out.symm hil hie (by omega)
                have : 2 ^ nn ≤ 2 ^ 15 := Nat.pow_le_pow_right (by omega) (by omega)
                omega
              have P1 := Hd.mk p1
              have P2 := Hd.mk p2
              have O4 : Hd ((nv (outL lens nn i)).set i (.int .i64 (cd : Nat)) = nv (outL lens nn (i + 1))) := ⟨by
                rw [← outL_put hn1 hil hie, ← hcd]
                unfold nv i64s
                simp [List.map_set]⟩
              obtain ⟨u0, y0, f0⟩ := own_any HO.out (j := i) (by omega)
              clear hxn hil hie p1 p2 hcd
              by_cases hl0 : (la : Int) > 0
              · have e3 : Hd ((nx + 1) * 2 ^ (nn - la) = cd) := ⟨by have := P1.out; rw [if_pos (by omega)] at this; exact this⟩
                have hlan : (la : Int) ≤ (nn : Nat) := by omega
                go_upto_region 15 with (fail)
                have e4 : wrap64 (((nx : Int) + 1) * 2 ^ (nn - la)) = (cd : Nat) := by
                  rw [show ((nx : Int) + 1) * 2 ^ (nn - la) = (cd : Nat) from by rw [← e3.out]; push_cast; rfl]
                  exact wrap64_in _ (by omega)
                rw [e4]
                clear e4
                go_wp2
                go_roundg (gk - 1)
                case measure => omega
                case rel => exact ⟨i + 1, cd, nn, rfl, rfl, by go_num, by omega, Nat.le_refl _, hcb, P2, ⟨by rw [← O4.out]; exact (HO.out.stored _ _).1⟩, ⟨HF.out.setCell _ (.inr hgo2)⟩⟩
              · have e3 : nx = cd := by have := P1.out; rw [if_neg (by omega)] at this; exact this
                subst e3
                go_wp2
                go_roundg (gk - 1)
                case measure => omega
                case rel => exact ⟨i + 1, nx, nn, rfl, rfl, by go_num, by omega, Nat.le_refl _, hcb, P2, ⟨by rw [← O4.out]; exact (HO.out.stored _ _).1⟩, ⟨HF.out.setCell _ (.inr hgo2)⟩⟩
            · have g1 : (x != (nn : Int)) = true := by simp; exact hxn
              obtain ⟨hil, hie⟩ := HX.out
              have hne : lens[i] ≠ (nn : Int) := by rw [hie]; exact hxn
              have I2 := Hd.mk (inv_skip hil hne HI.out)
              have O4 : Hd (wr.ownsRow 0 3 1 (.slice (some ⟨go, 0, none⟩) n n) n (nv (outL lens nn (i + 1)))) := ⟨by rw [← outL_skip hil hne]; exact HO.out⟩
              clear hxn hil hie hne HO
              go_wp2
              go_roundg (gk - 1)
              case measure => omega
              case rel => exact ⟨i + 1, nx, la, rfl, rfl, by go_num, by omega, hla2, hnx, I2, O4, HF⟩
          · obtain rfl : i = n := by omega
            have I2 : Hd (InvC lens (nn + 1) 0 nx la) := ⟨inv_row hn1 (by rw [hl]; exact HI.out)⟩
            have O4 : Hd (wr.ownsRow 0 3 1 (.slice (some ⟨go, 0, none⟩) i i) i (nv (outL lens (nn + 1) 0))) := ⟨by rw [← outL_row, hl]; exact HO.out⟩
            clear HI HO
            have hla15 : la ≤ 15 := by omega
            go_wp2
            go_roundg (g0 - 1)
            case measure => omega
            case rel => exact ⟨nn, nx, la, rfl, rfl, by go_num, by have := HNN.out; omega, hla15, hnx, I2, O4, HF⟩
      · obtain rfl : m = 15 := by omega
        go_wp2
        go_ret2
        have h2 := HO.out
        rw [show 15 + 1 = 16 from rfl, outL_end HR.out.symm, ← HL.out] at h2
        rw [hLn]
        exact ⟨_, _, rfl, h2, (by intro y hy; cases hy; exact hgo2), HF.out⟩
  · have hne : (r != 0) = true := by simpa using hr0
    obtain rfl : L = [] := by rw [HL.out]; unfold codes; rw [if_neg (by rw [← HR.out]; exact hr0)]
    go_wp2
    go_ret2
    exact ⟨none, 0, rfl, (show w.ownsRow 0 3 1 (.slice none 0 0) 0 [] from own_nil _ _ _ _), (by intro j hj; cases hj), Fr.refl _ _⟩
end Go.Proofs.YtlfckpmdmkccjaaGreat.Code
