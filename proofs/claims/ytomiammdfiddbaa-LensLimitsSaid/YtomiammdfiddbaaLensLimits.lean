/- LensLimits' walk. No condition. -/
import Derived.Test.YtomiammdfiddbaaLensL
import Derived.Test.YtomiammdfiddbaaHeapD
set_option linter.unusedVariables false
set_option linter.unusedSimpArgs false
set_option maxRecDepth 100000
namespace Go.Proofs.Ytomiammdfiddbaa.Lens
open Go.RowKit Go.Proofs.Ytomiammdfiddbaa.Lib Go.Proofs.Ytomiammdfiddbaa.Ints Go.Proofs.Ytomiammdfiddbaa.Sorts Go.Proofs.Ytomiammdfiddbaa.Sort Go.Proofs.Ytomiammdfiddbaa.Pm Go.Proofs.Ytomiammdfiddbaa.Num Go.Proofs.Ytomiammdfiddbaa.Heaps Go.Proofs.Ytomiammdfiddbaa.Heap
set_option maxHeartbeats 8000000 in
theorem limits_law (limit : Int) (A : Option Addr) (n c : Nat) (fs : List Int) (p : Option Nat) (W : World)
    (hw0 : (Lit.int .i64 limit).wf = true) (hS : SlArg W A n c (i64s fs) p) (hw1 : ∀ x ∈ fs, (Lit.int .i64 x).wf = true) (hy1 : n * 8 ≤ 140737488351232) :
    Calls Try.prog 10 #[.int .i64 limit, .slice A n c] W fun e w' => e = .returned (.bool true) ∧ Below W.heap.size W w' := by
  have hln : fs.length = n := by have := hS.len; simpa [i64s] using this
  have HS := Hd.mk hS.sl
  have HN := Hd.mk hln
  clear hS hw0 hw1 hln
  by_cases hfit : fitB limit fs = true
  · obtain ⟨l, rfl, hl1, hl15, hc, hnl, hle⟩ := fit_yes hfit
    have HFT := Hd.mk hfit
    have HC := Hd.mk hc
    have HNL := Hd.mk hnl
    have HLE := Hd.mk hle
    have h288 : n ≤ 288 := by rw [← HN.out]; exact (cn_zero hc).1
    by_cases h15 : l = 15
    · subst h15
      clear hfit hc hnl hle
      go_enter Try.func10, Try.ntmps10
      go_wp2_with (fail)
      refine (awake_any W).mono ?_
      rintro e w2 ⟨rfl, h2⟩
      have F2 := Hd.mk h2
      clear h2
      go_wp2_with (fail)
      refine (fits_any w2 ((15 : Nat) : Int) A n c fs p HN.out (HS.out.frame F2.out (by simp)) (by omega)).mono ?_
      rintro e w' ⟨rfl, rfl⟩
      rw [HFT.out]
      go_wp2
      go_ret
      exact ⟨rfl, F2.out.below⟩
    · have hl14 : l + 1 ≤ 15 := by omega
      have hn2 : (lvs fs).length ≤ 2 ^ (l + 1) := Nat.le_trans hnl (Nat.pow_le_pow_right (by decide) (by omega))
      have hle2 : lensN ((l : Int) + 1) fs = ((List.range fs.length).map fun s => (lenOf (l + 1) fs s : Int), 0) := by
        unfold lensN
        rw [if_neg (by omega), if_neg (by rw [hc]; decide), show ((l : Int) + 1).toNat = l + 1 by omega, if_neg (by omega)]
      obtain ⟨L1, hL1⟩ : ∃ L : List Int, L = (List.range fs.length).map fun s => (lenOf l fs s : Int) := ⟨_, rfl⟩
      obtain ⟨L2, hL2⟩ : ∃ L : List Int, L = (List.range fs.length).map fun s => (lenOf (l + 1) fs s : Int) := ⟨_, rfl⟩
      obtain ⟨X, hX⟩ : ∃ X, X = sumL (fun x => x.1 * lenOf l fs x.2) (lv fs 0) := ⟨_, rfl⟩
      obtain ⟨Y, hY⟩ : ∃ Y, Y = sumL (fun x => x.1 * lenOf (l + 1) fs x.2) (lv fs 0) := ⟨_, rfl⟩
      obtain ⟨Z, hZ⟩ : ∃ Z, Z = (leastN fs 0).1 := ⟨_, rfl⟩
      obtain ⟨U, hU⟩ : ∃ U, U = (lvs fs).length := ⟨_, rfl⟩
      have a1 := cost_lens hl1 hl15 hc hnl hL1
      have a2 := cost_lens (by omega) hl14 hc hn2 hL2
      have b1 := limits_mono hl1 hl14 hnl
      have b2 := limits_low (by omega) hl14 hn2
      have b3 := limits_low hl1 hl15 hnl
      have b4 := limits_up hl1 hl15 hnl
      rw [← hX] at a1 b1 b3 b4
      rw [← hY] at a2 b1 b2
      rw [← hZ] at b2 b3 b4
      rw [← hU] at b4
      have hz2 : (leastN fs (cn fs)) = (Z, 0) := by
        rw [hc, hZ]
        have : (leastN fs 0).2 = 0 := by unfold leastN; rw [if_neg (by decide)]; split <;> rfl
        exact Prod.ext rfl this
      have hU2 : U ≤ 288 := by rw [hU, used_len]; exact Nat.le_trans (lv_len fs 0) (by rw [HN.out]; exact h288)
      have HUU : Hd ((lvs fs).length = U) := ⟨hU.symm⟩
      have HZZ := Hd.mk hz2
      have HL1n : Hd (L1.length = n) := ⟨by rw [hL1, List.length_map, List.length_range, HN.out]⟩
      have HL2n : Hd (L2.length = n) := ⟨by rw [hL2, List.length_map, List.length_range, HN.out]⟩
      have A1 := Hd.mk a1
      have A2 := Hd.mk a2
      have HB1 : (Y : Int) ≤ (X : Int) := by omega
      have HB4 := Hd.mk b4
      have HLE1 : Hd (lensN (l : Int) fs = (L1, 0)) := ⟨by rw [HLE.out, hL1]⟩
      have HLE2 : Hd (lensN ((l : Int) + 1) fs = (L2, 0)) := ⟨by rw [hle2, hL2]⟩
      have hl_ne : ((l : Int) == 15) = false := by simp; omega
      have hnn : ((n : Int) != (n : Int)) = false := by simp
      clear hfit hc hnl hle hn2 hle2 hL1 hL2 hX hY hZ hU hz2 a1 a2 b1 b4 HLE h15
      go_enter Try.func10, Try.ntmps10
      go_wp2_with (fail)
      refine (awake_any W).mono ?_
      rintro e w2 ⟨rfl, h2⟩
      have F2 := Hd.mk h2
      clear h2
      go_wp2_with (fail)
      refine (fits_any w2 (l : Int) A n c fs p HN.out (HS.out.frame F2.out (by simp)) (by omega)).mono ?_
      rintro e w' ⟨rfl, rfl⟩
      rw [HFT.out]
      go_wp2_with (fail)
      refine (lengths_any w2 (l : Int) A n c fs p HN.out (HS.out.frame F2.out (by simp)) (by omega)).mono ?_
      rintro e w3 ⟨P1, n1, c1, rfl, h1, h2, h3⟩
      rw [HLE1.out] at h1 ⊢
      have hn1 : n1 = n := by have := h1.1; simp [i64s, HL1n.out] at this; omega
      subst hn1
      have O1 := Hd.mk h1
      have F3 := Hd.mk (F2.out.trans h3 (by simp))
      clear h1 h2 h3
      go_wp2_with (fail)
      refine (lengths_any w3 ((l : Int) + 1) A n1 c fs p HN.out (HS.out.frame F3.out (by simp)) (by omega)).mono ?_
      rintro e w4 ⟨P2, n2, c2, rfl, h1, h2, h3⟩
      rw [HLE2.out] at h1 ⊢
      have hn2 : n2 = n1 := by have := h1.1; simp [i64s, HL2n.out] at this; omega
      subst hn2
      have O2 := Hd.mk h1
      have O1a := Hd.mk (own_frame O1.out h3 (by simp))
      have F4 := Hd.mk (F3.out.trans h3 (by simp))
      clear h1 h2 h3 O1
      go_wp2_with (fail)
      refine (least_any w4 A n2 c fs p HN.out (HS.out.frame F4.out (by simp)) (by omega)).mono ?_
      intro e w5 hp
      unfold LeastPost at hp
      obtain ⟨rfl, h5⟩ := hp
      rw [HZZ.out]
      have O1b := Hd.mk (own_frame O1a.out h5 (by simp))
      have O2b := Hd.mk (own_frame O2.out h5 (by simp))
      have F5 := Hd.mk (F4.out.trans h5 (by simp))
      clear h5 O1a O2
      go_wp2_with (fail)
      refine (ccost_any w5 A P1 n2 n2 c c1 fs L1 p _ HN.out HL1n.out (HS.out.frame F5.out (by simp)) (sl_of_own O1b.out) (by omega) (by omega)).mono ?_
      rintro e w6 ⟨rfl, h6⟩
      rw [A1.out.1]
      have O1c := Hd.mk (own_frame O1b.out h6 (by simp))
      have O2c := Hd.mk (own_frame O2b.out h6 (by simp))
      have F6 := Hd.mk (F5.out.trans h6 (by simp))
      clear h6 O1b O2b
      go_wp2_with (fail)
      refine (ccost_any w6 A P2 n2 n2 c c2 fs L2 p _ HN.out HL2n.out (HS.out.frame F6.out (by simp)) (sl_of_own O2c.out) (by omega) (by omega)).mono ?_
      rintro e w7 ⟨rfl, h7⟩
      rw [A2.out.1]
      have O1d := Hd.mk (own_frame O1c.out h7 (by simp))
      have O2d := Hd.mk (own_frame O2c.out h7 (by simp))
      have F7 := Hd.mk (F6.out.trans h7 (by simp))
      clear h7 O1c O2c
      go_wp2_with (fail)
      refine (used_any w7 A n2 c fs p HN.out (HS.out.frame F7.out (by simp)) (by omega)).mono ?_
      rintro e w' ⟨rfl, rfl⟩
      rw [HUU.out]
      go_wp2_with (fail)
      refine (lcost_any w7 A P1 n2 c n2 c1 fs L1 p _ HN.out HL1n.out (HS.out.frame F7.out (by simp)) (sl_of_own O1d.out) (Nat.le_refl _) (by omega) HC.out A1.out.2.2).mono ?_
      rintro e w8 ⟨rfl, h8⟩
      rw [A1.out.2.1]
      have O2e := Hd.mk (own_frame O2d.out h8 (by simp))
      have F8 := Hd.mk (F7.out.trans h8 (by simp))
      clear h8 O1d O2d
      go_wp2_with (fail)
      refine (lcost_any w8 A P2 n2 c n2 c2 fs L2 p _ HN.out HL2n.out (HS.out.frame F8.out (by simp)) (sl_of_own O2e.out) (Nat.le_refl _) (by omega) HC.out A2.out.2.2).mono ?_
      rintro e w9 ⟨rfl, h9⟩
      rw [A2.out.2.1]
      have F9 := Hd.mk (F8.out.trans h9 (by simp))
      clear h9 O2e
      by_cases hen : U ≤ l + 1
      · have hxz : (X : Int) = Z := by have := HB4.out hen; omega
        have hxz2 : ((X : Int) == Z) = true := by simpa using hxz
        clear hxz
        go_wp2
        go_ret
        exact ⟨rfl, F9.out.below⟩
      · go_wp2
        go_ret
        exact ⟨rfl, F9.out.below⟩
  · have hfit' : fitB limit fs = false := by simpa using hfit
    have HFT := Hd.mk hfit'
    clear hfit hfit'
    go_enter Try.func10, Try.ntmps10
    go_wp2_with (fail)
    refine (awake_any W).mono ?_
    rintro e w2 ⟨rfl, h2⟩
    have F2 := Hd.mk h2
    clear h2
    go_wp2_with (fail)
    refine (fits_any w2 limit A n c fs p HN.out (HS.out.frame F2.out (by simp)) (by omega)).mono ?_
    rintro e w' ⟨rfl, rfl⟩
    rw [HFT.out]
    go_wp2
    go_ret
    exact ⟨rfl, F2.out.below⟩
end Go.Proofs.Ytomiammdfiddbaa.Lens
