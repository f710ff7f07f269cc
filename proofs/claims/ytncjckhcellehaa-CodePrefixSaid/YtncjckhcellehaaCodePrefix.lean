/- CodePrefix' walk. Conditions: fewer than 2^44 numbers. -/
import Derived.Test.YtncjckhcellehaaCodeLives
import Derived.Test.YtncjckhcellehaaCodeR
import Derived.Test.YtncjckhcellehaaCodePlain6
set_option linter.unusedVariables false
set_option linter.unusedSimpArgs false
set_option maxRecDepth 100000
namespace Go.Proofs.Ytncjckhcellehaa.Code
open Go.RowKit Go.IntWalk Go.Proofs.Ytncjckhcellehaa.Lib Go.Proofs.Ytncjckhcellehaa.Ints Go.Proofs.Ytncjckhcellehaa.Num Go.Proofs.Ytncjckhcellehaa.Bits

theorem sum_wrap {s z : Nat} (h : s ≤ 4718592) (hz : z ≤ 16384) : wrap64 ((s : Int) + (z : Nat)) = ((s + z : Nat) : Int) := by
  rw [show (s : Int) + (z : Nat) = ((s + z : Nat) : Int) from by push_cast; rfl]
  exact wrap64_in _ (by omega)
theorem pow_wrap {z j : Nat} (hz : z = 2 ^ j) (h : z ≤ 32768) : wrap64 ((2 : Int) ^ j) = (z : Nat) := by
  rw [show (2 : Int) ^ j = (z : Nat) from by rw [hz]; exact (pow_cast j).symm]
  exact wrap64_in _ (by omega)
theorem pow_wrap2 {z j : Nat} (hz : z = 2 ^ j) (h : z ≤ 32768) : IntKind.i64.wrap ((2 : Int) ^ j) = (z : Nat) := by
  rw [show (2 : Int) ^ j = (z : Nat) from by rw [hz]; exact (pow_cast j).symm]
  exact IntWalk.i64_in _ ⟨by omega, by omega⟩
set_option maxHeartbeats 16000000 in
theorem prefix_walk (A : Option Addr) (n c : Nat) (lens : List Int) (q : Option Nat) (W : World) (hS : SlArg W A n c (i64s lens) q) (hw : ∀ x ∈ lens, (Lit.int .i64 x).wf = true) (hb : n * 8 ≤ 140737488351232) :
    Calls Try.prog 9 #[.slice A n c] W fun e w' => e = .returned (.bool true) ∧ Below W.heap.size W w' := by
  have HS := Hd.mk hS
  have hl : lens.length = n := by have := hS.len; simpa [i64s] using this
  clear hS hw
  obtain ⟨r, hr⟩ : ∃ r, r = check lens := ⟨_, rfl⟩
  obtain ⟨L, hL⟩ : ∃ L, L = codes lens := ⟨_, rfl⟩
  have HR := Hd.mk hr
  have HL := Hd.mk hL
  clear hr hL
  go_enter Try.func9, Try.ntmps9
  go_wp2_with (fail)
  refine (codes_any W A n c lens q HS.out r L HR.out HL.out).mono ?_
  rintro e w1 ⟨A1, d1, rfl, h1, h2, h3⟩
  have O1 := Hd.mk h1
  have F1 := Hd.mk h3
  clear h1 h2 h3
  by_cases hr0 : r = 0
  · subst hr0
    obtain ⟨hbad, _⟩ := check_zero HR.out.symm
    obtain ⟨hl288, hall⟩ := bad_false hbad
    have HALL := Hd.mk hall
    have hLn : L.length = n := by rw [HL.out, codes_len HR.out.symm, hl]
    obtain ⟨CT1, CT2⟩ := check_tail HR.out.symm
    have HCT1 := Hd.mk CT1
    have HCT2 := Hd.mk CT2
    have HC0 : Hd (check lens = 0) := ⟨HR.out.symm⟩
    have HBAD := Hd.mk hbad
    rw [hLn] at O1 ⊢
    have hnn : ((n : Int) != (n : Int)) = false := by simp
    clear hbad hall CT1 CT2
    go_wp2_with (fail)
    go_loopg [5, 6, 35] n (fun kq sv uv iv wr => ∃ (i s u : Nat), sv = .int .i64 (s : Nat) ∧ uv = .int .i64 (u : Nat) ∧ iv = .int .i64 (i : Nat) ∧ i + kq = n ∧ s ≤ i * 16384 ∧ u ≤ i ∧ Hd (s = spaceR (lens.take i)) ∧ Hd (u = usedR (lens.take i)) ∧ Hd (Fr W wr []) ∧ Hd (wr.ownsRow 0 3 1 (.slice A1 n d1) n (nv L)))
    case atStart => exact ⟨0, 0, 0, rfl, rfl, rfl, by omega, by omega, by omega, ⟨by simp [spaceR]⟩, ⟨by simp [usedR]⟩, F1, O1⟩
    case round =>
      obtain ⟨i, s, u, rfl, rfl, rfl, hi, hs, hu, HSS, HUU, HF, HO⟩ := hrel
      obtain ⟨g0, rfl⟩ : ∃ g0 : Nat, g0 = gk := ⟨_, rfl⟩
      by_cases hin : i < n
      · obtain ⟨bd, off, rfl, hq, hcc⟩ := (HS.out.sl.frame HF.out (by simp)) (by rw [i64s_length]; omega)
        have kd := (hcc i (by rw [i64s_length]; omega)).trans (i64s_get lens i)
        obtain ⟨x, hx⟩ : ∃ x, lens[i]? = some x := ⟨_, List.getElem?_eq_getElem (by omega)⟩
        rw [hx] at kd
        simp only [Option.map_some] at kd
        obtain ⟨hil, hxe⟩ := List.getElem?_eq_some_iff.mp hx
        have hxb := HALL.out x (by rw [← hxe]; exact List.getElem_mem hil)
        obtain ⟨m, rfl⟩ := Int.eq_ofNat_of_zero_le hxb.1
        have HX := Hd.mk (Exists.intro hil hxe : ∃ h : i < lens.length, lens[i] = (m : Int))
        obtain ⟨gl, dl, e1, hdl⟩ := own_some HO.out (by omega)
        injection e1 with e1 _ e2
        subst e1 e2
        obtain ⟨ci, hci⟩ : ∃ ci, L[i]? = some ci := ⟨_, List.getElem?_eq_getElem (by omega)⟩
        have HCI := Hd.mk hci
        have kc := (HO.out.cellAt i (by omega)).trans (show (nv L)[i]? = some (.int .i64 (ci : Nat)) from by
          unfold nv
          rw [i64s_get, List.getElem?_map, hci]
          rfl)
        have HSP : Hd (spaceR (lens.take (i + 1)) = s + (if 0 < (m : Int) then 2 ^ (15 - m) else 0)) := ⟨by rw [spaceR_take hil, hxe, ← HSS.out, Int.toNat_natCast]⟩
        have HUP : Hd (usedR (lens.take (i + 1)) = u + (if 0 < (m : Int) then 1 else 0)) := ⟨by rw [usedR_take hil, hxe, ← HUU.out]⟩
        have hiI : (i : Int) < (n : Nat) := by omega
        have hm15 : (m : Int) ≤ 15 := hxb.2
        clear hcc hx hxe hil hci hq hxb
        by_cases hm0 : m = 0
        · subst hm0
          obtain rfl : ci = 0 := by
            obtain ⟨h, e⟩ := HX.out
            have h2 := codesF_zero lens (firstF (cz lens)) i h (by rw [e]; simp)
            have h3 := HCI.out
            rw [HL.out] at h3
            unfold codes at h3
            rw [if_pos HC0.out, h2] at h3
            cases h3
            rfl
          go_wp2
          go_roundg (g0 - 1)
          case measure => omega
          case rel => exact ⟨i + 1, s, u, rfl, rfl, by go_num, by omega, by omega, by omega, ⟨by rw [HSP.out]; rfl⟩, ⟨by rw [HUP.out]; rfl⟩, HF, HO⟩
        · have hmz : ((m : Int) == 0) = false := by simp; omega
          have hmp : 0 < m := by omega
          have hcil : ci < 2 ^ m := by
            obtain ⟨h, e⟩ := HX.out
            obtain ⟨cd, a1, a2, a3, a4⟩ := code_fits HC0.out h e hmp
            have h3 := HCI.out
            rw [HL.out, a1] at h3
            cases h3
            exact a3
          obtain ⟨pw, hpw⟩ : ∃ pw, pw = 2 ^ m := ⟨_, rfl⟩
          obtain ⟨z, hz⟩ : ∃ z, z = 2 ^ (15 - m) := ⟨_, rfl⟩
          have hsb : s ≤ 4718592 := by omega
          have hpwb : pw ≤ 32768 := by
            rw [hpw]
            have : 2 ^ m ≤ 2 ^ 15 := Nat.pow_le_pow_right (by omega) (by omega)
            simpa using this
          have hzb : z ≤ 16384 := by
            rw [hz]
            have : 2 ^ (15 - m) ≤ 2 ^ 14 := Nat.pow_le_pow_right (by omega) (by omega)
            simpa using this
          rw [← hpw] at hcil
          have HPW := Hd.mk hpw
          have HZ := Hd.mk hz
          clear hpw hz hm0
          go_upto_region 15 with (fail)
          have e1 := pow_wrap (z := z) (j := 15 - m) HZ.out (by omega)
          rw [e1]
          have e2 := sum_wrap (s := s) (z := z) hsb hzb
          rw [e2]
          clear e1 e2
          have g1 : decide ((ci : Int) < 0) = false := decide_eq_false (by omega)
          have g2 : decide ((ci : Int) ≥ (pw : Nat)) = false := decide_eq_false (by omega)
          have g3 := pow_wrap2 (z := pw) (j := m) HPW.out hpwb
          go_quiet (fail)
          have F3 := Hd.mk (HF.out.drewN nq)
          have HO3 := Hd.mk (own_frame HO.out ((Fr.refl wr []).drewN nq) (by simp))
          clear g1 g2 g3 kd kc HF HO
          generalize wr.drewN nq = w3 at *
          go_wp2_with (fail)
          go_loopg [70] n (fun kq kv wr => ∃ (k : Nat), kv = .int .i64 (k : Nat) ∧ k + kq = n ∧ Hd (Fr W wr []) ∧ Hd (wr.ownsRow 0 3 1 (.slice (some ⟨gl, 0, none⟩) n d1) n (nv L)))
          case atStart => exact ⟨0, rfl, by omega, F3, HO3⟩
          case round =>
            clear F3 HO3
            obtain ⟨k, rfl, hk, HF, HO⟩ := hrel
            by_cases hkn : k < n
            · obtain ⟨bd2, off2, hA2, hq2, hcc⟩ := (HS.out.sl.frame HF.out (by simp)) (by rw [i64s_length]; omega)
              injection hA2 with hA2
              injection hA2 with hA3 hA4 _
              subst hA3 hA4
              have kd := (hcc k (by rw [i64s_length]; omega)).trans (i64s_get lens k)
              obtain ⟨y, hy⟩ : ∃ y, lens[k]? = some y := ⟨_, List.getElem?_eq_getElem (by omega)⟩
              rw [hy] at kd
              simp only [Option.map_some] at kd
              obtain ⟨hkl, hye⟩ := List.getElem?_eq_some_iff.mp hy
              have hyb := HALL.out y (by rw [← hye]; exact List.getElem_mem hkl)
              obtain ⟨mm, rfl⟩ := Int.eq_ofNat_of_zero_le hyb.1
              have HY := Hd.mk (Exists.intro hkl hye : ∃ h : k < lens.length, lens[k] = (mm : Int))
              obtain ⟨ck, hck⟩ : ∃ ck, L[k]? = some ck := ⟨_, List.getElem?_eq_getElem (by omega)⟩
              have HCK := Hd.mk hck
              have kk := (HO.out.cellAt k (by omega)).trans (show (nv L)[k]? = some (.int .i64 (ck : Nat)) from by
                unfold nv
                rw [i64s_get, List.getElem?_map, hck]
                rfl)
              have kc := (HO.out.cellAt i (by omega)).trans (show (nv L)[i]? = some (.int .i64 (ci : Nat)) from by
                unfold nv
                rw [i64s_get, List.getElem?_map, HCI.out]
                rfl)
              have hkI : (k : Int) < (n : Nat) := by omega
              have hmm15 : (mm : Int) ≤ 15 := hyb.2
              clear hcc hy hye hkl hck hq2 hyb
              by_cases hki : k = i
              · have g1 : ((k : Int) != (i : Int)) = false := by simp; omega
                clear hki
                go_wp2_with (fail)
                go_quiet (fail)
                go_wp2
                go_roundg (gk - 1)
                case measure => omega
                case rel => exact ⟨k + 1, by go_num, by omega, ⟨HF.out.drewN _⟩, ⟨own_frame HO.out ((Fr.refl _ []).drewN _) (by simp)⟩⟩
              · have g1 : ((k : Int) != (i : Int)) = true := by simp; omega
                by_cases hmm : m ≤ mm
                · have hpf : ck / 2 ^ (mm - m) ≠ ci := by
                    obtain ⟨h1, e1⟩ := HX.out
                    obtain ⟨h2, e2⟩ := HY.out
                    exact prefix_free HC0.out hki h1 h2 e1 e2 hmp hmm (by rw [← HL.out]; exact HCI.out) (by rw [← HL.out]; exact HCK.out)
                  have g2 : decide ((mm : Int) ≥ (m : Nat)) = true := decide_eq_true (by omega)
                  obtain ⟨dv, hdv⟩ : ∃ dv, dv = ck / 2 ^ (mm - m) := ⟨_, rfl⟩
                  rw [← hdv] at hpf
                  have g4 : ((dv : Int) == (ci : Nat)) = false := by simp; omega
                  have g5 : (ck : Int) / 2 ^ (mm - m) = (dv : Nat) := by rw [div_cast, hdv]
                  clear hdv
                  have g6 : IntKind.i64.wrap ((mm : Int) - (m : Nat)) = (mm : Int) - (m : Nat) := IntWalk.i64_in _ ⟨by omega, by omega⟩
                  have g7 : ((mm : Int) - (m : Nat)).toNat = mm - m := by omega
                  have g8 : (0 : Int) ≤ (mm : Int) - (m : Nat) := by omega
                  clear hki hpf
                  go_wp2_with (fail)
                  go_quiet (fail)
                  go_wp2
                  go_roundg (gk - 1)
                  case measure => omega
                  case rel => exact ⟨k + 1, by go_num, by omega, ⟨HF.out.drewN _⟩, ⟨own_frame HO.out ((Fr.refl _ []).drewN _) (by simp)⟩⟩
                · have g2 : decide ((mm : Int) ≥ (m : Nat)) = false := decide_eq_false (by omega)
                  have g2b : decide (m ≤ mm) = false := decide_eq_false hmm
                  have g2c : decide ((m : Int) ≤ (mm : Nat)) = false := decide_eq_false (by omega)
                  clear hki
                  go_wp2_with (fail)
                  go_quiet (fail)
                  go_wp2
                  go_roundg (gk - 1)
                  case measure => omega
                  case rel => exact ⟨k + 1, by go_num, by omega, ⟨HF.out.drewN _⟩, ⟨own_frame HO.out ((Fr.refl _ []).drewN _) (by simp)⟩⟩
            · obtain rfl : k = n := by omega
              go_wp2
              go_roundg (g0 - 1)
              case measure => omega
              case rel => exact ⟨i + 1, s + z, u + 1, rfl, by go_num, by go_num, by omega, by omega, by omega, ⟨by rw [HSP.out, if_pos (by omega), HZ.out]⟩, ⟨by rw [HUP.out, if_pos (by omega)]⟩, HF, HO⟩
      · obtain rfl : i = n := by omega
        have hsl : Hd (s = spaceR lens) := ⟨by rw [HSS.out, ← hl, List.take_length]⟩
        have hul : Hd (u = usedR lens) := ⟨by rw [HUU.out, ← hl, List.take_length]⟩
        go_wp2_with (fail)
        refine (space_any wr A i c lens q (HS.out.frame HF.out (by simp)) s 0 (by rw [hsl.out, HCT1.out]; unfold spVal; rw [if_neg (by rw [HBAD.out]; simp)]) (by unfold spErr; rw [if_neg (by rw [HBAD.out]; simp)])).mono ?_
        rintro e w4 ⟨rfl, h4⟩
        have F4 := Hd.mk (HF.out.trans h4 (by simp))
        clear h4
        have hfin : s = 32768 ∨ u = 0 ∨ (u = 1 ∧ s = 16384) := by
          rw [hsl.out, hul.out]
          exact HCT2.out
        have gss : ((s : Int) == (s : Int)) = true := by simp
        have fin : ∀ (w5 : World), Calls Try.prog 10 #[] w5 fun e w' => e = .returned (.bool true) ∧ Fr w5 w' [] := clives_any
        by_cases h1 : s = 32768
        · have g1 : ((s : Int) == 32768) = true := by simp; omega
          clear h1 hfin
          go_wp2_with (fail)
          refine (fin w4).mono ?_
          rintro e w5 ⟨rfl, h5⟩
          have F5 := Hd.mk (F4.out.trans h5 (by simp))
          clear h5
          go_wp2
          go_ret
          exact ⟨rfl, F5.out.below⟩
        · have g1 : ((s : Int) == 32768) = false := by simp; omega
          by_cases h2 : u = 0
          · have g2 : ((u : Int) == 0) = true := by simp; omega
            clear h1 h2 hfin
            go_wp2_with (fail)
            refine (fin w4).mono ?_
            rintro e w5 ⟨rfl, h5⟩
            have F5 := Hd.mk (F4.out.trans h5 (by simp))
            clear h5
            go_wp2
            go_ret
            exact ⟨rfl, F5.out.below⟩
          · have g2 : ((u : Int) == 0) = false := by simp; omega
            have g3 : ((u : Int) == 1) = true := by simp; omega
            have g4 : ((s : Int) == 16384) = true := by simp; omega
            clear h1 h2 hfin
            go_wp2_with (fail)
            refine (fin w4).mono ?_
            rintro e w5 ⟨rfl, h5⟩
            have F5 := Hd.mk (F4.out.trans h5 (by simp))
            clear h5
            go_wp2
            go_ret
            exact ⟨rfl, F5.out.below⟩
  · have hne : (r != 0) = true := by simpa using hr0
    obtain rfl : L = [] := by rw [HL.out]; unfold codes; rw [if_neg (by rw [← HR.out]; exact hr0)]
    simp only [List.length_nil]
    go_wp2_with (fail)
    refine (rchk_any w1 A n c lens q (HS.out.frame F1.out (by simp)) r HR.out).mono ?_
    rintro e w2 ⟨rfl, rfl⟩
    go_wp2
    go_ret
    exact ⟨rfl, F1.out.below⟩
end Go.Proofs.Ytncjckhcellehaa.Code
