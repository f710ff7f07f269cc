/- LensBest's walk. No condition. -/
import Derived.Test.YtomiammdfiddbaaLensWhole
set_option linter.unusedVariables false
set_option linter.unusedSimpArgs false
set_option maxRecDepth 100000
namespace Go.Proofs.Ytomiammdfiddbaa.Lens
open Go.RowKit Go.Proofs.Ytomiammdfiddbaa.Lib Go.Proofs.Ytomiammdfiddbaa.Ints Go.Proofs.Ytomiammdfiddbaa.Sorts Go.Proofs.Ytomiammdfiddbaa.Sort Go.Proofs.Ytomiammdfiddbaa.Pm Go.Proofs.Ytomiammdfiddbaa.Num

set_option maxHeartbeats 4000000 in
theorem best_law (limit : Int) (A : Option Addr) (n c : Nat) (fs : List Int) (p : Option Nat) (B : Option Addr) (m d : Nat) (os : List Int) (q : Option Nat) (W : World)
    (hw0 : (Lit.int .i64 limit).wf = true) (hS : SlArg W A n c (i64s fs) p) (hw1 : ∀ x ∈ fs, (Lit.int .i64 x).wf = true) (hy1 : n * 8 ≤ 140737488351232) (hT : SlArg W B m d (i64s os) q) (hw2 : ∀ x ∈ os, (Lit.int .i64 x).wf = true) (hy2 : m * 8 ≤ 140737488351232) :
    Calls Try.prog 7 #[.int .i64 limit, .slice A n c, .slice B m d] W fun e w' => e = .returned (.bool true) ∧ Below W.heap.size W w' := by
  have hln : fs.length = n := by have := hS.len; simpa [i64s] using this
  have hlm : os.length = m := by have := hT.len; simpa [i64s] using this
  have HS := Hd.mk hS.sl
  have HT := Hd.mk hT.sl
  have HN := Hd.mk hln
  have HM := Hd.mk hlm
  clear hS hT hw0 hw1 hw2 hln hlm
  by_cases hfit : fitB limit fs = true
  · obtain ⟨l, rfl, hl1, hl15, hc, hnl, hle⟩ := fit_yes hfit
    have HFT := Hd.mk hfit
    have HC := Hd.mk hc
    have HNL := Hd.mk hnl
    have HLE := Hd.mk hle
    have h288 : n ≤ 288 := by rw [← HN.out]; exact (cn_zero hc).1
    clear hfit hc hnl hle
    by_cases hmn : m < n
    · go_enter Try.func7, Try.ntmps7
      go_wp2_with (fail)
      refine (lengths_any W (l : Int) A n c fs p HN.out HS.out (by omega)).mono ?_
      rintro e w1 ⟨A1, n1, c1, rfl, h1, h2, h3⟩
      have F1 := Hd.mk h3
      clear h1 h2 h3
      go_wp2_with (fail)
      refine (awake_any w1).mono ?_
      rintro e w2 ⟨rfl, h2⟩
      have F2 := Hd.mk (F1.out.trans h2 (by simp))
      clear h2
      go_wp2_with (fail)
      refine (fits_any w2 (l : Int) A n c fs p HN.out (HS.out.frame F2.out (by simp)) (by omega)).mono ?_
      rintro e w' ⟨rfl, rfl⟩
      rw [HFT.out]
      go_wp2
      go_ret
      exact ⟨rfl, F2.out.below⟩
    · go_enter Try.func7, Try.ntmps7
      go_wp2_with (fail)
      refine (lengths_any W (l : Int) A n c fs p HN.out HS.out (by omega)).mono ?_
      rintro e w1 ⟨A1, n1, c1, rfl, h1, h2, h3⟩
      rw [HLE.out] at h1 ⊢
      have hn1 : n1 = n := by have := h1.1; simp [i64s, HN.out] at this; omega
      subst hn1
      have O1 := Hd.mk h1
      have F1 := Hd.mk h3
      clear h1 h2 h3
      go_wp2_with (fail)
      refine (awake_any w1).mono ?_
      rintro e w2 ⟨rfl, h2⟩
      have F2 := Hd.mk (F1.out.trans h2 (by simp))
      have O2 := Hd.mk (own_frame O1.out h2 (by simp))
      clear h2 O1 F1
      go_wp2_with (fail)
      refine (fits_any w2 (l : Int) A n1 c fs p HN.out (HS.out.frame F2.out (by simp)) (by omega)).mono ?_
      rintro e w' ⟨rfl, rfl⟩
      rw [HFT.out]
      have e1 : ((n1 : Int) != (n1 : Int)) = false := by simp
      obtain ⟨L, hL⟩ : ∃ L : List Int, L = (List.range fs.length).map fun s => (lenOf l fs s : Int) := ⟨_, rfl⟩
      rw [← hL] at O2
      have HLL := Hd.mk hL
      have hLn : Hd (L.length = n1) := ⟨by rw [hL, List.length_map, List.length_range, HN.out]⟩
      have HSL := Hd.mk (sl_of_own O2.out)
      have hget : ∀ x ∈ lv fs 0, L.getD x.2 0 = (lenOf l fs x.2 : Int) := fun x hx => by
        obtain ⟨_, a2, _, _⟩ := lv_mem fs 0 x hx
        rw [hL]
        exact getD_map _ (by simpa using a2)
      have HGET := Hd.mk hget
      clear hL hget
      go_wp2_with (fail)
      refine (space_any w2 (l : Int) A B n1 c m d fs os p _ HN.out HM.out (HS.out.frame F2.out (by simp)) (HT.out.frame F2.out (by simp)) (by omega) (by omega) HC.out (by omega)).mono ?_
      rintro e w3 ⟨h5, rfl⟩
      have hfull : fs.take fs.length = fs := List.take_of_length_le (Nat.le_refl _)
      rcases h5 with ⟨h6, rfl⟩ | ⟨h6, rfl⟩
      · unfold spOk at h6
        rw [hfull] at h6
        have HOS := Hd.mk h6
        clear h6
        obtain ⟨S, hSp⟩ : ∃ S, S = spN fs os fs.length := ⟨_, rfl⟩
        have hS2 : S = sumL (fun x => 2 ^ (15 - (os.getD x.2 0).toNat)) (lv fs 0) := by rw [hSp]; unfold spN; rw [hfull]
        rw [← hSp]
        have HSP := Hd.mk hS2
        clear hSp hS2
        by_cases hbig : 32768 < S
        · clear hfull
          go_wp2
          go_ret
          exact ⟨rfl, F2.out.below⟩
        · have hb := lens_best hl1 hl15 HNL.out (fun s => (os.getD s 0).toNat) (fun x hx => by have := HOS.out x hx; omega) (by rw [← HSP.out]; omega)
          have hc1 : costL fs L fs.length = sumL (fun x => x.1 * lenOf l fs x.2) (lv fs 0) := by
            unfold costL
            rw [hfull]
            exact sumL_congr _ fun x hx => by rw [HGET.out x hx, Int.toNat_natCast]
          have hc2 : costL fs os fs.length = sumL (fun x => x.1 * (os.getD x.2 0).toNat) (lv fs 0) := by
            unfold costL
            rw [hfull]
          obtain ⟨X, hX⟩ : ∃ X, X = costL fs L fs.length := ⟨_, rfl⟩
          obtain ⟨Y, hY⟩ : ∃ Y, Y = costL fs os fs.length := ⟨_, rfl⟩
          have hXY : X ≤ Y := by rw [hX, hY, hc1, hc2]; exact hb
          have HX := Hd.mk hX
          have HY := Hd.mk hY
          have hd : decide (X ≤ Y) = true := decide_eq_true hXY
          clear hb hc1 hc2 hX hY hfull hXY
          go_wp2_with (fail)
          refine (lcost_any w2 A A1 n1 c n1 c1 fs L p _ HN.out hLn.out (HS.out.frame F2.out (by simp)) HSL.out (Nat.le_refl _) (by omega) HC.out (fun x hx => by
            rw [HGET.out x hx]
            have := lenOf_le hl1 HNL.out x.2
            omega)).mono ?_
          rintro e w4 ⟨rfl, h4⟩
          rw [← HX.out]
          have F4 := Hd.mk (F2.out.trans h4 (by simp))
          clear h4
          go_wp2_with (fail)
          refine (lcost_any w4 A B n1 c m d fs os p _ HN.out HM.out (HS.out.frame F4.out (by simp)) (HT.out.frame F4.out (by simp)) (by omega) (by omega) HC.out (fun x hx => by have := HOS.out x hx; omega)).mono ?_
          rintro e w5 ⟨rfl, h5⟩
          rw [← HY.out]
          have F5 := Hd.mk (F4.out.trans h5 (by simp))
          clear h5
          go_wp2
          go_ret
          exact ⟨rfl, F5.out.below⟩
      · clear hfull h6
        go_wp2
        go_ret
        exact ⟨rfl, F2.out.below⟩
  · have hfit' : fitB limit fs = false := by simpa using hfit
    have HFT := Hd.mk hfit'
    clear hfit hfit'
    go_enter Try.func7, Try.ntmps7
    go_wp2_with (fail)
    refine (lengths_any W limit A n c fs p HN.out HS.out (by omega)).mono ?_
    rintro e w1 ⟨A1, n1, c1, rfl, h1, h2, h3⟩
    have F1 := Hd.mk h3
    clear h1 h2 h3
    go_wp2_with (fail)
    refine (awake_any w1).mono ?_
    rintro e w2 ⟨rfl, h2⟩
    have F2 := Hd.mk (F1.out.trans h2 (by simp))
    clear h2
    go_wp2_with (fail)
    refine (fits_any w2 limit A n c fs p HN.out (HS.out.frame F2.out (by simp)) (by omega)).mono ?_
    rintro e w' ⟨rfl, rfl⟩
    rw [HFT.out]
    go_wp2
    go_ret
    exact ⟨rfl, F2.out.below⟩
end Go.Proofs.Ytomiammdfiddbaa.Lens
