/- LensWhole's walk. No condition. -/
import Derived.Test.YtomiammdfiddbaaLensG
set_option linter.unusedVariables false
set_option linter.unusedSimpArgs false
set_option maxRecDepth 100000
namespace Go.Proofs.Ytomiammdfiddbaa.Lens
open Go.RowKit Go.Proofs.Ytomiammdfiddbaa.Lib Go.Proofs.Ytomiammdfiddbaa.Ints Go.Proofs.Ytomiammdfiddbaa.Sorts Go.Proofs.Ytomiammdfiddbaa.Sort Go.Proofs.Ytomiammdfiddbaa.Pm Go.Proofs.Ytomiammdfiddbaa.Num

theorem fit_no {limit : Int} {fs : List Int} (h : fitB limit fs = false) : (lensN limit fs).1 = [] ∧ (lensN limit fs).2 ≠ 0 := by
  unfold lensN
  by_cases h1 : limit < 1 ∨ 15 < limit
  · rw [if_pos h1]; exact ⟨rfl, by decide⟩
  · rw [if_neg h1]
    by_cases h2 : cn fs ≠ 0
    · rw [if_pos h2]; exact ⟨rfl, h2⟩
    · rw [if_neg h2]
      by_cases h3 : 2 ^ limit.toNat < (lvs fs).length
      · rw [if_pos h3]; exact ⟨rfl, by decide⟩
      · exfalso
        unfold fitB at h
        have := of_decide_eq_false h
        exact this ⟨by omega, by omega, by omega, by omega⟩
theorem fit_yes {limit : Int} {fs : List Int} (h : fitB limit fs = true) : ∃ l : Nat, limit = (l : Int) ∧ 1 ≤ l ∧ l ≤ 15 ∧ cn fs = 0 ∧ (lvs fs).length ≤ 2 ^ l ∧ lensN limit fs = ((List.range fs.length).map fun s => (lenOf l fs s : Int), 0) := by
  unfold fitB at h
  obtain ⟨h1, h2, h3, h4⟩ := of_decide_eq_true h
  refine ⟨limit.toNat, by omega, by omega, by omega, h3, h4, ?_⟩
  unfold lensN
  rw [if_neg (by omega), if_neg (by rw [h3]; decide), if_neg (by omega)]
theorem getD_map (f : Nat → Int) {n i : Nat} (h : i < n) : ((List.range n).map f).getD i 0 = f i := by
  rw [List.getD_eq_getElem?_getD]; simp [h]
set_option maxHeartbeats 4000000 in
theorem whole_law (limit : Int) (A : Option Addr) (n c : Nat) (fs : List Int) (p : Option Nat) (W : World)
    (hw0 : (Lit.int .i64 limit).wf = true) (hS : SlArg W A n c (i64s fs) p) (hw1 : ∀ x ∈ fs, (Lit.int .i64 x).wf = true) (hy1 : n * 8 ≤ 140737488351232) :
    Calls Try.prog 6 #[.int .i64 limit, .slice A n c] W fun e w' => e = .returned (.bool true) ∧ Below W.heap.size W w' := by
  have hln : fs.length = n := by have := hS.len; simpa [i64s] using this
  have HS := Hd.mk hS.sl
  have HN := Hd.mk hln
  clear hS hw0 hw1 hln
  by_cases hfit : fitB limit fs = true
  · obtain ⟨l, rfl, hl1, hl15, hc, hnl, hle⟩ := fit_yes hfit
    have HFT := Hd.mk hfit
    have HC := Hd.mk hc
    have HNL := Hd.mk hnl
    have HLE := Hd.mk hle
    have h288 : n ≤ 288 := by rw [← HN.out]; exact (cn_zero hc).1
    clear hfit hc hnl hle
    go_enter Try.func6, Try.ntmps6
    go_wp2_with (fail)
    refine (lengths_any W (l : Int) A n c fs p HN.out HS.out (by omega)).mono ?_
    rintro e w1 ⟨A1, n1, c1, rfl, h1, h2, h3⟩
    rw [HLE.out] at h1 ⊢
    have hn1 : n1 = n := by have := h1.1; simp [i64s, HN.out] at this; omega
    subst hn1
    have O1 := Hd.mk h1
    have F1 := Hd.mk h3
    clear h1 h2 h3
    go_wp2_with (fail)
    refine (fits_any w1 (l : Int) A n1 c fs p HN.out (HS.out.frame F1.out (by simp)) (by omega)).mono ?_
    rintro e w' ⟨rfl, rfl⟩
    rw [HFT.out]
    have e1 : ((n1 : Int) != (n1 : Int)) = false := by simp
    go_wp2_with (fail)
    refine (awake_any w1).mono ?_
    rintro e w2 ⟨rfl, h2⟩
    have F2 := Hd.mk (F1.out.trans h2 (by simp))
    have O2 := Hd.mk (own_frame O1.out h2 (by simp))
    clear h2 O1 F1
    obtain ⟨L, hL⟩ : ∃ L : List Int, L = (List.range fs.length).map fun s => (lenOf l fs s : Int) := ⟨_, rfl⟩
    rw [← hL] at O2
    have HLL := Hd.mk hL
    have hLn : Hd (L.length = n1) := ⟨by rw [hL, List.length_map, List.length_range, HN.out]⟩
    have HSL := Hd.mk (sl_of_own O2.out)
    clear hL
    go_wp2
    go_loopg [7] n1 (fun kq jv wr => ∃ j : Nat, jv = .int .i64 (j : Nat) ∧ j + kq = n1 ∧ wr = w2)
    case atStart => exact ⟨0, rfl, by omega, rfl⟩
    case round =>
      obtain ⟨j, rfl, hj, rfl⟩ := hrel
      by_cases hjn : j < n1
      · obtain ⟨a, o1, rfl, _, ha⟩ := (HS.out.frame F2.out (by simp)) (by simp [i64s, HN.out]; omega)
        obtain ⟨b, o2, rfl, _, hb⟩ := HSL.out (by simp [i64s, hLn.out]; omega)
        have hjf : j < fs.length := by rw [HN.out]; exact hjn
        obtain ⟨x, hx⟩ : ∃ x, x = fs[j] := ⟨_, rfl⟩
        have ca := (ha j (by simp [i64s]; omega)).trans (by rw [i64s_get, List.getElem?_eq_getElem hjf, ← hx])
        have hLj : L[j]? = some (lenOf l fs j : Int) := by rw [HLL.out]; simp [hjf]
        have cb := (hb j (by simp [i64s, hLn.out]; omega)).trans (by rw [i64s_get, hLj])
        obtain ⟨v, hv⟩ : ∃ v, v = lenOf l fs j := ⟨_, rfl⟩
        rw [← hv] at cb
        have HX := Hd.mk hx
        have HV := Hd.mk hv
        clear ha hb hx hv hLj
        by_cases hx0 : x = 0
        · have e3 : (x == 0) = true := by simpa using hx0
          have hv0 : v = 0 := by
            rw [HV.out]
            exact lenOf_none HNL.out hl1 (fun hs => by rw [← HX.out]; omega)
          have e4 : ((v : Int) != 0) = false := by simp [hv0]
          clear hx0 hv0
          go_wp2
          go_roundg (gk - 1)
          case measure => go_light; omega
          case rel => go_light; exact ⟨j + 1, by go_num, by omega, rfl⟩
        · have e3 : (x == 0) = false := by simpa using hx0
          clear hx0
          go_wp2
          go_roundg (gk - 1)
          case measure => go_light; omega
          case rel => go_light; exact ⟨j + 1, by go_num, by omega, rfl⟩
      · obtain rfl : j = n1 := by omega
        have hfull : fs.take fs.length = fs := List.take_of_length_le (Nat.le_refl _)
        have hget : ∀ x ∈ lv fs 0, L.getD x.2 0 = (lenOf l fs x.2 : Int) := fun x hx => by
          obtain ⟨_, a2, _, _⟩ := lv_mem fs 0 x hx
          rw [HLL.out]
          exact getD_map _ (by simpa using a2)
        have hspo : spOk (l : Int) fs L fs.length := by
          unfold spOk
          rw [hfull]
          intro x hx
          obtain ⟨r, hr, e⟩ := mem_sy hx
          have h1 := lenOf_pos hl1 HNL.out hr
          have h2 := lenOf_le hl1 HNL.out x.2
          rw [hget x hx, ← e]
          rw [e] at h1 ⊢
          omega
        have hspn : spN fs L fs.length = sumL (fun x => 2 ^ (15 - lenOf l fs x.2)) (lv fs 0) := by
          unfold spN
          rw [hfull]
          exact sumL_congr _ fun x hx => by rw [hget x hx, Int.toNat_natCast]
        have hwh := lens_whole hl1 hl15 HNL.out
        rw [← hspn] at hwh
        have HSPO := Hd.mk hspo
        have HWH := Hd.mk hwh
        obtain ⟨S, hSp⟩ : ∃ S, S = spN fs L fs.length := ⟨_, rfl⟩
        have HSP := Hd.mk hSp
        clear hfull hget hspo hspn hwh hSp
        go_wp2_with (fail)
        refine (space_any wr (l : Int) A A1 j c j c1 fs L p _ HN.out hLn.out (HS.out.frame F2.out (by simp)) HSL.out (Nat.le_refl _) (by omega) HC.out (by omega)).mono ?_
        rintro e w3 ⟨h5, rfl⟩
        rcases h5 with ⟨_, rfl⟩ | ⟨h6, _⟩
        · rw [← HSP.out]
          obtain ⟨u, hu⟩ : ∃ u, u = (lvs fs).length := ⟨_, rfl⟩
          have HU := Hd.mk hu
          clear hu
          have hw2 : 2 ≤ u → S = 32768 := fun h => by rw [HSP.out]; exact HWH.out.1 (by rw [← HU.out]; exact h)
          have hw1 : u = 1 → S = 16384 := fun h => by rw [HSP.out]; exact HWH.out.2 (by rw [← HU.out]; exact h)
          by_cases hu2 : u < 2
          · by_cases hu1 : u = 1
            · have hS1 := hw1 hu1
              have e5 : ((u : Int) != 1) = false := by simp [hu1]
              have e6 : ((S : Int) == 16384) = true := by simp [hS1]
              clear hw1 hw2 hu1 hS1
              go_wp2_with (fail)
              refine (used_any wr A j c fs p HN.out (HS.out.frame F2.out (by simp)) (by omega)).mono ?_
              rintro e w' ⟨rfl, rfl⟩
              rw [← HU.out]
              go_wp2_with (fail)
              refine (used_any wr A j c fs p HN.out (HS.out.frame F2.out (by simp)) (by omega)).mono ?_
              rintro e w' ⟨rfl, rfl⟩
              rw [← HU.out]
              go_wp2
              go_ret
              exact ⟨rfl, F2.out.below⟩
            · have e5 : ((u : Int) != 1) = true := by simp; omega
              clear hw1 hw2 hu1
              go_wp2_with (fail)
              refine (used_any wr A j c fs p HN.out (HS.out.frame F2.out (by simp)) (by omega)).mono ?_
              rintro e w' ⟨rfl, rfl⟩
              rw [← HU.out]
              go_wp2_with (fail)
              refine (used_any wr A j c fs p HN.out (HS.out.frame F2.out (by simp)) (by omega)).mono ?_
              rintro e w' ⟨rfl, rfl⟩
              rw [← HU.out]
              go_wp2
              go_ret
              exact ⟨rfl, F2.out.below⟩
          · have hS1 := hw2 (by omega)
            have e5 : ((u : Int) != 1) = true := by simp; omega
            have e6 : ((S : Int) == 32768) = true := by simp [hS1]
            clear hw1 hw2 hS1
            go_wp2_with (fail)
            refine (used_any wr A j c fs p HN.out (HS.out.frame F2.out (by simp)) (by omega)).mono ?_
            rintro e w' ⟨rfl, rfl⟩
            rw [← HU.out]
            go_wp2_with (fail)
            refine (used_any wr A j c fs p HN.out (HS.out.frame F2.out (by simp)) (by omega)).mono ?_
            rintro e w' ⟨rfl, rfl⟩
            rw [← HU.out]
            go_wp2
            go_ret
            exact ⟨rfl, F2.out.below⟩
        · exact absurd HSPO.out h6
  · have hfit' : fitB limit fs = false := by simpa using hfit
    obtain ⟨q1, q2⟩ := fit_no hfit'
    have HFT := Hd.mk hfit'
    have Q1 := Hd.mk q1
    obtain ⟨er, her⟩ : ∃ er, er = (lensN limit fs).2 := ⟨_, rfl⟩
    rw [← her] at q2
    have e1 : (er != 0) = true := by simpa using q2
    have HER := Hd.mk her
    clear hfit hfit' q1 q2 her
    go_enter Try.func6, Try.ntmps6
    go_wp2_with (fail)
    refine (lengths_any W limit A n c fs p HN.out HS.out (by omega)).mono ?_
    rintro e w1 ⟨A1, n1, c1, rfl, h1, h2, h3⟩
    rw [Q1.out] at h1
    rw [← HER.out]
    have hn1 : n1 = 0 := by have := h1.1; simp [i64s] at this; omega
    subst hn1
    have F1 := Hd.mk h3
    clear h1 h2 h3
    go_wp2_with (fail)
    refine (fits_any w1 limit A n c fs p HN.out (HS.out.frame F1.out (by simp)) (by omega)).mono ?_
    rintro e w' ⟨rfl, rfl⟩
    rw [HFT.out]
    go_wp2_with (fail)
    refine (awake_any w1).mono ?_
    rintro e w2 ⟨rfl, h2⟩
    have F2 := Hd.mk (F1.out.trans h2 (by simp))
    clear h2
    go_wp2
    go_ret
    exact ⟨rfl, F2.out.below⟩
end Go.Proofs.Ytomiammdfiddbaa.Lens
