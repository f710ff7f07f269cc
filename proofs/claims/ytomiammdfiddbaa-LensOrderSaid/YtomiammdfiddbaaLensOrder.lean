/- LensOrder's walk. No condition. -/
import Derived.Test.YtomiammdfiddbaaLensWhole
set_option linter.unusedVariables false
set_option linter.unusedSimpArgs false
set_option maxRecDepth 100000
namespace Go.Proofs.Ytomiammdfiddbaa.Lens
open Go.RowKit Go.Proofs.Ytomiammdfiddbaa.Lib Go.Proofs.Ytomiammdfiddbaa.Ints Go.Proofs.Ytomiammdfiddbaa.Sorts Go.Proofs.Ytomiammdfiddbaa.Sort Go.Proofs.Ytomiammdfiddbaa.Pm Go.Proofs.Ytomiammdfiddbaa.Num

set_option maxHeartbeats 4000000 in
theorem order_law (limit : Int) (A : Option Addr) (n c : Nat) (fs : List Int) (p : Option Nat) (W : World)
    (hw0 : (Lit.int .i64 limit).wf = true) (hS : SlArg W A n c (i64s fs) p) (hw1 : ∀ x ∈ fs, (Lit.int .i64 x).wf = true) (hy1 : n * 8 ≤ 140737488351232) :
    Calls Try.prog 8 #[.int .i64 limit, .slice A n c] W fun e w' => e = .returned (.bool true) ∧ Below W.heap.size W w' := by
  have hln : fs.length = n := by have := hS.len; simpa [i64s] using this
  have HS := Hd.mk hS.sl
  have HN := Hd.mk hln
  clear hS hw0 hw1 hln
  by_cases hfit : fitB limit fs = true
  · obtain ⟨l, rfl, hl1, hl15, hc, hnl, hle⟩ := fit_yes hfit
    have HFT := Hd.mk hfit
    have HC := Hd.mk hc
    have HNL := Hd.mk hnl
    have HLE := Hd.mk hle
    have h288 : n ≤ 288 := by rw [← HN.out]; exact (cn_zero hc).1
    clear hfit hc hnl hle
    go_enter Try.func8, Try.ntmps8
    go_wp2_with (fail)
    refine (lengths_any W (l : Int) A n c fs p HN.out HS.out (by omega)).mono ?_
    rintro e w1 ⟨A1, n1, c1, rfl, h1, h2, h3⟩
    rw [HLE.out] at h1 ⊢
    have hn1 : n1 = n := by have := h1.1; simp [i64s, HN.out] at this; omega
    subst hn1
    have O1 := Hd.mk h1
    have F1 := Hd.mk h3
    clear h1 h2 h3
    go_wp2_with (fail)
    refine (awake_any w1).mono ?_
    rintro e w2 ⟨rfl, h2⟩
    have F2 := Hd.mk (F1.out.trans h2 (by simp))
    have O2 := Hd.mk (own_frame O1.out h2 (by simp))
    clear h2 O1 F1
    go_wp2_with (fail)
    refine (fits_any w2 (l : Int) A n1 c fs p HN.out (HS.out.frame F2.out (by simp)) (by omega)).mono ?_
    rintro e w' ⟨rfl, rfl⟩
    rw [HFT.out]
    have e1 : ((n1 : Int) != (n1 : Int)) = false := by simp
    obtain ⟨L, hL⟩ : ∃ L : List Int, L = (List.range fs.length).map fun s => (lenOf l fs s : Int) := ⟨_, rfl⟩
    rw [← hL] at O2
    have HLL := Hd.mk hL
    have hLn : Hd (L.length = n1) := ⟨by rw [hL, List.length_map, List.length_range, HN.out]⟩
    have HSL := Hd.mk (sl_of_own O2.out)
    clear hL
    go_wp2
    go_loopg [7] n1 (fun kq jv wr => ∃ i : Nat, jv = .int .i64 (i : Nat) ∧ i + kq = n1 ∧ Hd (Fr w2 wr []))
    case atStart => exact ⟨0, rfl, by omega, ⟨Fr.refl _ _⟩⟩
    case round =>
      obtain ⟨i, rfl, hi, HF⟩ := hrel
      obtain ⟨gko, rfl⟩ : ∃ gko, gko = gk := ⟨_, rfl⟩
      by_cases hin : i < n1
      · go_wp2
        go_loopg [8] n1 (fun kq jv wr => ∃ k : Nat, jv = .int .i64 (k : Nat) ∧ k + kq = n1 ∧ Hd (Fr w2 wr []))
        case atStart => exact ⟨0, rfl, by omega, HF⟩
        case round =>
          obtain ⟨k, rfl, hk, HF2⟩ := hrel
          by_cases hkn : k < n1
          · obtain ⟨a, o1, rfl, _, ha⟩ := (HS.out.frame (F2.out.trans HF2.out (by simp)) (by simp)) (by simp [i64s, HN.out]; omega)
            obtain ⟨b, o2, rfl, _, hb⟩ := (HSL.out.frame HF2.out (by simp)) (by simp [i64s, hLn.out]; omega)
            have hif : i < fs.length := by rw [HN.out]; exact hin
            have hkf : k < fs.length := by rw [HN.out]; exact hkn
            obtain ⟨x, hx⟩ : ∃ x, x = fs[i] := ⟨_, rfl⟩
            obtain ⟨y, hy⟩ : ∃ y, y = fs[k] := ⟨_, rfl⟩
            have ca := (ha i (by simp [i64s]; omega)).trans (by rw [i64s_get, List.getElem?_eq_getElem hif, ← hx])
            have cb := (ha k (by simp [i64s]; omega)).trans (by rw [i64s_get, List.getElem?_eq_getElem hkf, ← hy])
            have hLi : L[i]? = some (lenOf l fs i : Int) := by rw [HLL.out]; simp [hif]
            have hLk : L[k]? = some (lenOf l fs k : Int) := by rw [HLL.out]; simp [hkf]
            have cc := (hb i (by simp [i64s, hLn.out]; omega)).trans (by rw [i64s_get, hLi])
            have cd := (hb k (by simp [i64s, hLn.out]; omega)).trans (by rw [i64s_get, hLk])
            obtain ⟨u, hu⟩ : ∃ u, u = lenOf l fs i := ⟨_, rfl⟩
            obtain ⟨v, hv⟩ : ∃ v, v = lenOf l fs k := ⟨_, rfl⟩
            rw [← hu] at cc
            rw [← hv] at cd
            have hord : 0 < x → (x < y ∨ (y = x ∧ i < k)) → v ≤ u := fun h1 h2 => by
              rw [hu, hv]
              rw [hx] at h1 h2
              rw [hy] at h2
              exact lens_order hl1 HNL.out hif hkf h1 h2
            have n1' : (i : Int) < n1 := by omega
            have n2' : (k : Int) < n1 := by omega
            have HORD := Hd.mk hord
            clear ha hb hx hy hLi hLk hu hv hord
            simp only [Option.map_some] at ca cb cc cd
            by_cases h1 : 0 < x
            · by_cases h2 : x < y
              · have h3 := HORD.out h1 (.inl h2)
                have d1 : decide (0 < x) = true := decide_eq_true h1
                have d2 : decide (x < y) = true := decide_eq_true h2
                have d5 : decide (u < v) = false := decide_eq_false (by omega)
                go_wp2
                go_quiet (fail)
                go_wp2
                go_roundg (gk - 1)
                case measure => go_light; omega
                case rel => go_light; exact ⟨k + 1, by go_num, by omega, ⟨HF2.out.drewN _⟩⟩
              · by_cases h4 : y = x
                · by_cases h5 : i < k
                  · have h3 := HORD.out h1 (.inr ⟨h4, h5⟩)
                    have e4 : (y == x) = true := by simpa using h4
                    have d1 : decide (0 < x) = true := decide_eq_true h1
                    have d2 : decide (x < y) = false := decide_eq_false h2
                    have d4 : decide (i < k) = true := decide_eq_true h5
                    have d5 : decide (u < v) = false := decide_eq_false (by omega)
                    clear h4
                    go_wp2
                    go_quiet (fail)
                    go_wp2
                    go_roundg (gk - 1)
                    case measure => go_light; omega
                    case rel => go_light; exact ⟨k + 1, by go_num, by omega, ⟨HF2.out.drewN _⟩⟩
                  · have e4 : (y == x) = true := by simpa using h4
                    have d1 : decide (0 < x) = true := decide_eq_true h1
                    have d2 : decide (x < y) = false := decide_eq_false h2
                    have d4 : decide (i < k) = false := decide_eq_false h5
                    clear h4
                    go_wp2
                    go_quiet (fail)
                    go_wp2
                    go_roundg (gk - 1)
                    case measure => go_light; omega
                    case rel => go_light; exact ⟨k + 1, by go_num, by omega, ⟨HF2.out.drewN _⟩⟩
                · have e4 : (y == x) = false := by simpa using h4
                  have d1 : decide (0 < x) = true := decide_eq_true h1
                  have d2 : decide (x < y) = false := decide_eq_false h2
                  clear h4
                  go_wp2
                  go_quiet (fail)
                  go_wp2
                  go_roundg (gk - 1)
                  case measure => go_light; omega
                  case rel => go_light; exact ⟨k + 1, by go_num, by omega, ⟨HF2.out.drewN _⟩⟩
            · have d1 : decide (0 < x) = false := decide_eq_false h1
              go_wp2
              go_quiet (fail)
              go_wp2
              go_roundg (gk - 1)
              case measure => go_light; omega
              case rel => go_light; exact ⟨k + 1, by go_num, by omega, ⟨HF2.out.drewN _⟩⟩
          · go_wp2
            go_roundg (gko - 1)
            case measure => go_light; omega
            case rel => go_light; exact ⟨i + 1, by go_num, by omega, HF2⟩
      · go_wp2
        go_ret
        exact ⟨rfl, (F2.out.trans HF.out (by simp)).below⟩
  · have hfit' : fitB limit fs = false := by simpa using hfit
    have HFT := Hd.mk hfit'
    clear hfit hfit'
    go_enter Try.func8, Try.ntmps8
    go_wp2_with (fail)
    refine (lengths_any W limit A n c fs p HN.out HS.out (by omega)).mono ?_
    rintro e w1 ⟨A1, n1, c1, rfl, h1, h2, h3⟩
    have F1 := Hd.mk h3
    clear h1 h2 h3
    go_wp2_with (fail)
    refine (awake_any w1).mono ?_
    rintro e w2 ⟨rfl, h2⟩
    have F2 := Hd.mk (F1.out.trans h2 (by simp))
    clear h2
    go_wp2_with (fail)
    refine (fits_any w2 limit A n c fs p HN.out (HS.out.frame F2.out (by simp)) (by omega)).mono ?_
    rintro e w' ⟨rfl, rfl⟩
    rw [HFT.out]
    go_wp2
    go_ret
    exact ⟨rfl, F2.out.below⟩
end Go.Proofs.Ytomiammdfiddbaa.Lens
