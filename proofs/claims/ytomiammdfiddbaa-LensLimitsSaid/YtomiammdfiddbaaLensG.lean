/- space and cost of chapter 04's statements. Conditions: counts that may be. -/
import Derived.Test.YtomiammdfiddbaaLensF
set_option linter.unusedVariables false
set_option linter.unusedSimpArgs false
set_option maxRecDepth 100000
namespace Go.Proofs.Ytomiammdfiddbaa.Lens
open Go.RowKit Go.Proofs.Ytomiammdfiddbaa.Lib Go.Proofs.Ytomiammdfiddbaa.Ints Go.Proofs.Ytomiammdfiddbaa.Sorts Go.Proofs.Ytomiammdfiddbaa.Sort Go.Proofs.Ytomiammdfiddbaa.Pm Go.Proofs.Ytomiammdfiddbaa.Num

/-- are the lengths of the symbols in use 1 to limit? -/
def spOk (limit : Int) (fs ls : List Int) (j : Nat) : Prop := ∀ x ∈ lv (fs.take j) 0, 1 ≤ ls.getD x.2 0 ∧ ls.getD x.2 0 ≤ limit
def spN (fs ls : List Int) (j : Nat) : Nat := sumL (fun x => 2 ^ (15 - (ls.getD x.2 0).toNat)) (lv (fs.take j) 0)
theorem spN_le (fs ls : List Int) (j : Nat) : spN fs ls j ≤ j * 32768 := by
  unfold spN
  have h1 : sumL (fun x => 2 ^ (15 - (ls.getD x.2 0).toNat)) (lv (fs.take j) 0) ≤ sumL (fun _ => 32768) (lv (fs.take j) 0) := sumL_le _ fun x _ => Nat.pow_le_pow_right (n := 2) (by decide) (show _ ≤ 15 by omega)
  rw [sumL_const] at h1
  have h2 := lv_len (fs.take j) 0
  have h3 : (fs.take j).length ≤ j := List.length_take_le _ _
  have : (lv (fs.take j) 0).length * 32768 ≤ j * 32768 := Nat.mul_le_mul_right _ (by omega)
  omega
def SpacePost (limit : Int) (fs ls : List Int) (w : World) (e : Ending) (w' : World) : Prop :=
  ((spOk limit fs ls fs.length ∧ e = .returned (.tuple #[.int .i64 (spN fs ls fs.length : Nat), .bool true])) ∨ (¬ spOk limit fs ls fs.length ∧ e = .returned (.tuple #[.int .i64 0, .bool false]))) ∧ w = w'
theorem lv_take_mono {fs : List Int} {j : Nat} {x : Nat × Nat} (h : x ∈ lv (fs.take j) 0) : x ∈ lv fs 0 := by
  have := lv_app (fs.take j) (fs.drop j) 0
  rw [List.take_append_drop] at this
  rw [this]
  exact List.mem_append_left _ h
set_option maxHeartbeats 2000000 in
theorem space_any (w : World) (limit : Int) (A B : Option Addr) (n c m d : Nat) (fs ls : List Int) (p q : Option Nat) (hn : fs.length = n) (hm : ls.length = m) (hS : Sl w A (i64s fs) p) (hT : Sl w B (i64s ls) q) (hnm : n ≤ m) (hm1 : m ≤ 4611686018427387904) (hc : cn fs = 0) (h15 : limit ≤ 15) :
    Calls Try.prog 22 #[.int .i64 limit, .slice A n c, .slice B m d] w (SpacePost limit fs ls w) := by
  subst hn hm
  have hcz := cn_zero hc
  have HO := Hd.mk hcz.2
  have h288 := hcz.1
  have HS := Hd.mk hS
  have HT := Hd.mk hT
  clear hS hT hc hcz
  go_enter Try.func22, Try.ntmps22
  go_wp2
  go_loopg [8, 9] fs.length (fun kq nv jv wr => ∃ j s : Nat, nv = .int .i64 (s : Nat) ∧ jv = .int .i64 (j : Nat) ∧ j + kq = fs.length ∧ s ≤ j * 32768 ∧ wr = w ∧ Hd (s = spN fs ls j) ∧ Hd (spOk limit fs ls j))
  case atStart => exact ⟨0, 0, rfl, rfl, by omega, by omega, rfl, ⟨by simp [spN, lv, sumL]⟩, ⟨fun x hx => by simp [lv] at hx⟩⟩
  case round =>
    obtain ⟨j, s, rfl, rfl, hj, hs, rfl, HSN, HOK⟩ := hrel
    by_cases h1 : j < fs.length
    · obtain ⟨a, o1, rfl, _, ha⟩ := HS.out (by simp [i64s]; omega)
      obtain ⟨b, o2, rfl, _, hb⟩ := HT.out (by simp [i64s]; omega)
      obtain ⟨x, hx⟩ : ∃ x, x = fs[j] := ⟨_, rfl⟩
      obtain ⟨y, hy⟩ : ∃ y, y = ls[j] := ⟨_, rfl⟩
      have ca := (ha j (by simp [i64s]; omega)).trans (by rw [i64s_get, List.getElem?_eq_getElem (by omega), ← hx])
      have cb := (hb j (by simp [i64s]; omega)).trans (by rw [i64s_get, List.getElem?_eq_getElem (by omega), ← hy])
      have hbd := of_out HO.out h1
      rw [← hx] at hbd
      have hsn := lv_snoc h1
      rw [← hx] at hsn
      have hyd : ls.getD j 0 = y := by rw [List.getD_eq_getElem?_getD, List.getElem?_eq_getElem (by omega), ← hy]; rfl
      have HLV := Hd.mk hsn
      have HYD := Hd.mk hyd
      have HX := Hd.mk hx
      clear ha hb hx hy hsn hyd
      by_cases hx0 : x = 0
      · have e1 : (x == 0) = true := by simpa using hx0
        have hlv2 : Hd (lv (fs.take (j + 1)) 0 = lv (fs.take j) 0) := ⟨by rw [HLV.out, if_neg (by omega), List.append_nil]⟩
        clear hx0
        go_wp2
        go_roundg (gk - 1)
        case measure => go_light; omega
        case rel => go_light; exact ⟨j + 1, s, rfl, by go_num, by omega, by omega, rfl, ⟨by unfold spN; rw [hlv2.out]; exact HSN.out⟩, ⟨by unfold spOk; rw [hlv2.out]; exact HOK.out⟩⟩
      · have e1 : (x == 0) = false := by simpa using hx0
        have hx1 : 0 < x := by omega
        have hlv2 : Hd (lv (fs.take (j + 1)) 0 = lv (fs.take j) 0 ++ [(x.toNat, j)]) := ⟨by rw [HLV.out, if_pos hx1]⟩
        have hmem : Hd ((x.toNat, j) ∈ lv (fs.take fs.length) 0) := ⟨by
          rw [List.take_of_length_le (Nat.le_refl _)]
          have := mem_lv h1 (by rw [← HX.out]; exact hx1)
          rw [← HX.out] at this
          exact this⟩
        clear hx0
        by_cases hy1 : y < 1
        · go_wp2
          go_ret2
          unfold SpacePost
          refine ⟨.inr ⟨fun h => ?_, rfl⟩, rfl⟩
          have := (h _ hmem.out).1
          rw [HYD.out] at this
          omega
        · by_cases hy2 : limit < y
          · go_wp2
            go_ret2
            unfold SpacePost
            refine ⟨.inr ⟨fun h => ?_, rfl⟩, rfl⟩
            have := (h _ hmem.out).2
            rw [HYD.out] at this
            omega
          · obtain ⟨v, hv⟩ : ∃ v : Nat, v = y.toNat := ⟨_, rfl⟩
            obtain rfl : y = (v : Int) := by omega
            clear hv
            have hP1 : 2 ^ (15 - v) ≤ 32768 := Nat.pow_le_pow_right (n := 2) (by decide) (show 15 - v ≤ 15 by omega)
            have hpw : (2 : Int) ^ (15 - v) = ((2 ^ (15 - v) : Nat) : Int) := (pow_cast _).symm
            obtain ⟨P, hP⟩ : ∃ P, P = 2 ^ (15 - v) := ⟨_, rfl⟩
            rw [← hP] at hP1 hpw
            have hpw2 : wrap64 ((2 : Int) ^ (15 - v)) = (P : Int) := by rw [hpw]; exact wrap64_id (by omega) (by omega)
            have HP := Hd.mk hP
            clear hpw hP
            go_wp2
            clear hpw2
            go_roundg (gk - 1)
            case measure => go_light; omega
            case rel =>
              go_light
              refine ⟨j + 1, s + P, by go_num, by go_num, by omega, by omega, rfl, ⟨?_⟩, ⟨fun z hz => ?_⟩⟩
              · unfold spN
                rw [hlv2.out, sumL_app, HSN.out, HP.out]
                simp only [sumL, HYD.out, Int.toNat_natCast, Nat.add_zero]
                rfl
              · rw [hlv2.out] at hz
                rcases List.mem_append.1 hz with hz | hz
                · exact HOK.out z hz
                · simp only [List.mem_cons, List.not_mem_nil, or_false] at hz
                  subst hz
                  rw [HYD.out]
                  omega
    · go_wp2
      go_ret2
      unfold SpacePost
      have hj2 : j = fs.length := by omega
      subst hj2
      have e := HSN.out
      subst e
      exact ⟨.inl ⟨HOK.out, rfl⟩, rfl⟩
/-- the sum of count times length -/
def costL (fs ls : List Int) (j : Nat) : Nat := sumL (fun x => x.1 * (ls.getD x.2 0).toNat) (lv (fs.take j) 0)
theorem costL_le {fs ls : List Int} (h : out 1099511627776 fs = false) (hl : ∀ x ∈ lv fs 0, (ls.getD x.2 0).toNat ≤ 15) (j : Nat) : costL fs ls j ≤ j * 16492674416640 := by
  unfold costL
  have h1 : sumL (fun x => x.1 * (ls.getD x.2 0).toNat) (lv (fs.take j) 0) ≤ sumL (fun _ => 16492674416640) (lv (fs.take j) 0) := sumL_le _ fun x hx => by
    have hx' := lv_take_mono hx
    obtain ⟨_, a2, a3, a4⟩ := lv_mem fs 0 x hx'
    simp only [Nat.sub_zero] at a2 a3 a4
    have := of_out h a2
    have h2 := hl x hx'
    have h3 : x.1 ≤ 1099511627776 := by omega
    have h4 := Nat.mul_le_mul h3 h2
    omega
  rw [sumL_const] at h1
  have h2 := lv_len (fs.take j) 0
  have h3 : (fs.take j).length ≤ j := List.length_take_le _ _
  have h5 : (lv (fs.take j) 0).length * 16492674416640 ≤ j * 16492674416640 := Nat.mul_le_mul_right _ (Nat.le_trans h2 h3)
  exact Nat.le_trans h1 h5
set_option maxHeartbeats 2000000 in
theorem lcost_any (w : World) (A B : Option Addr) (n c m d : Nat) (fs ls : List Int) (p q : Option Nat) (hn : fs.length = n) (hm : ls.length = m) (hS : Sl w A (i64s fs) p) (hT : Sl w B (i64s ls) q) (hnm : n ≤ m) (hm1 : m ≤ 4611686018427387904) (hc : cn fs = 0) (hl : ∀ x ∈ lv fs 0, 0 ≤ ls.getD x.2 0 ∧ ls.getD x.2 0 ≤ 15) :
    Calls Try.prog 24 #[.slice A n c, .slice B m d] w fun e w' => e = .returned (.int .i64 (costL fs ls fs.length : Nat)) ∧ Fr w w' [] := by
  subst hn hm
  have hcz := cn_zero hc
  have HO := Hd.mk hcz.2
  have h288 := hcz.1
  have HS := Hd.mk hS
  have HT := Hd.mk hT
  have HL := Hd.mk hl
  clear hS hT hc hcz hl
  go_enter Try.func24, Try.ntmps24
  go_wp2
  go_loopg [5, 6] fs.length (fun kq nv jv wr => ∃ j s : Nat, nv = .int .i64 (s : Nat) ∧ jv = .int .i64 (j : Nat) ∧ j + kq = fs.length ∧ s ≤ j * 16492674416640 ∧ Hd (s = costL fs ls j) ∧ Hd (Fr w wr []))
  case atStart => exact ⟨0, 0, rfl, rfl, by omega, by omega, ⟨by simp [costL, lv, sumL]⟩, ⟨Fr.refl _ _⟩⟩
  case round =>
    obtain ⟨j, s, rfl, rfl, hj, hs, HSN, HF⟩ := hrel
    by_cases h1 : j < fs.length
    · obtain ⟨a, o1, rfl, _, ha⟩ := (HS.out.frame HF.out (by simp)) (by simp [i64s]; omega)
      obtain ⟨b, o2, rfl, _, hb⟩ := (HT.out.frame HF.out (by simp)) (by simp [i64s]; omega)
      obtain ⟨x, hx⟩ : ∃ x, x = fs[j] := ⟨_, rfl⟩
      obtain ⟨y, hy⟩ : ∃ y, y = ls[j] := ⟨_, rfl⟩
      have ca := (ha j (by simp [i64s]; omega)).trans (by rw [i64s_get, List.getElem?_eq_getElem (by omega), ← hx])
      have cb := (hb j (by simp [i64s]; omega)).trans (by rw [i64s_get, List.getElem?_eq_getElem (by omega), ← hy])
      have hbd := of_out HO.out h1
      rw [← hx] at hbd
      have hsn := lv_snoc h1
      rw [← hx] at hsn
      have hyd : ls.getD j 0 = y := by rw [List.getD_eq_getElem?_getD, List.getElem?_eq_getElem (by omega), ← hy]; rfl
      have HLV := Hd.mk hsn
      have HYD := Hd.mk hyd
      have HX := Hd.mk hx
      clear ha hb hx hy hsn hyd
      by_cases hx1 : 0 < x
      · have hlv2 : Hd (lv (fs.take (j + 1)) 0 = lv (fs.take j) 0 ++ [(x.toNat, j)]) := ⟨by rw [HLV.out, if_pos hx1]⟩
        have hyb : 0 ≤ y ∧ y ≤ 15 := by
          have := HL.out _ (mem_lv h1 (by rw [← HX.out]; exact hx1))
          simp only at this
          rw [HYD.out] at this
          exact this
        obtain ⟨u, hu⟩ : ∃ u : Nat, u = x.toNat := ⟨_, rfl⟩
        obtain rfl : x = (u : Int) := by omega
        obtain ⟨v, hv⟩ : ∃ v : Nat, v = y.toNat := ⟨_, rfl⟩
        obtain rfl : y = (v : Int) := by omega
        clear hu hv
        have hub : u ≤ 1099511627776 := by omega
        have hvb : v ≤ 15 := by omega
        have hm1 : u * v ≤ 16492674416640 := by have h4 := Nat.mul_le_mul hub hvb; omega
        have hm2 : (u : Int) * (v : Int) = ((u * v : Nat) : Int) := (Int.natCast_mul u v).symm
        obtain ⟨z, hz⟩ : ∃ z, z = u * v := ⟨_, rfl⟩
        rw [← hz] at hm1 hm2
        have HZ := Hd.mk hz
        have n1 : IntKind.i64.wrap ((u : Int) * (v : Int)) = (z : Int) := by rw [hm2]; exact IntWalk.i64_in _ (by omega)
        have n2 : IntKind.i64.wrap ((s : Int) + (z : Int)) = (s : Int) + (z : Int) := IntWalk.i64_in _ (by omega)
        clear hz hbd hyb
        go_upto_region 6 with (fail)
        go_region
        clear n1 n2 hm2
        go_wp2
        go_roundg (gk - 1)
        case measure => go_light; omega
        case rel =>
          go_light
          refine ⟨j + 1, s + z, by go_num, by go_num, by omega, by omega, ⟨?_⟩, ⟨HF.out.drew⟩⟩
          unfold costL
          rw [hlv2.out, sumL_app, HSN.out, HZ.out]
          simp only [sumL, HYD.out, Int.toNat_natCast, Nat.add_zero]
          rfl
      · have hlv2 : Hd (lv (fs.take (j + 1)) 0 = lv (fs.take j) 0) := ⟨by rw [HLV.out, if_neg hx1, List.append_nil]⟩
        go_wp2
        go_roundg (gk - 1)
        case measure => go_light; omega
        case rel => go_light; exact ⟨j + 1, s, rfl, by go_num, by omega, Nat.le_trans hs (Nat.mul_le_mul_right _ (Nat.le_succ j)), ⟨by unfold costL; rw [hlv2.out]; exact HSN.out⟩, HF⟩
    · go_wp2
      go_ret
      have hj2 : j = fs.length := by omega
      subst hj2
      have e := HSN.out
      subst e
      exact ⟨rfl, HF.out⟩
end Go.Proofs.Ytomiammdfiddbaa.Lens
