/- A code is loaded. Conditions: none but the slice's. -/
import Derived.Test.YtncjckhcellehaaCodeD
import Derived.Test.YtncjckhcellehaaCodePlain3
import Derived.WalkMore
set_option linter.unusedVariables false
set_option linter.unusedSimpArgs false
set_option maxRecDepth 100000
namespace Go.Proofs.Ytncjckhcellehaa.Code
open Go.RowKit Go.IntWalk Go.Proofs.Ytncjckhcellehaa.Lib Go.Proofs.Ytncjckhcellehaa.Ints Go.Proofs.Ytncjckhcellehaa.Num Go.Proofs.Ytncjckhcellehaa.Bits

section
variable {w : World} {g most k : Nat} {F S : Nat → Nat}
set_option maxHeartbeats 8000000 in
theorem load_no (A : Option Addr) (n c : Nat) (lens : List Int) (q : Option Nat) (hS : SlArg w A n c (i64s lens) q) (hD : De w g most F S k) (hm1 : 1 ≤ most) (hm2 : most ≤ 288) (r : Int) (hr : r = if most < lens.length then 50 else check lens) (hr0 : r ≠ 0) :
    Calls Try.prog 28 #[.pointer (some ⟨g, 0, none⟩), .slice A n c] w fun e w' => e = .returned (.int .i64 r) ∧ Fr w w' [] := by
  have c0 := hD.c0
  have HS := Hd.mk hS
  have HR := Hd.mk hr
  have hl : lens.length = n := by have := hS.len; simpa [i64s] using this
  have hz : ((most : Int) == 0) = false := by simp; omega
  have HR0 := Hd.mk hr0
  clear hS hD hr hr0
  go_enter Try.func28, Try.ntmps28
  go_wp2_with (fail)
  go_step3
  by_cases hlm : (n : Int) > (most : Nat)
  · obtain rfl : r = 50 := by rw [HR.out, if_pos (by omega)]
    go_wp2
    rw [Exit.noGoto_ret]
    go_ret
    exact ⟨rfl, Fr.refl _ _⟩
  · have hrc : r = check lens := by rw [HR.out, if_neg (by omega)]
    have HRC := Hd.mk hrc
    clear hrc
    go_wp2_with (fail)
    refine (check_any w A n c lens q HS.out r HRC.out).mono ?_
    rintro e w1 ⟨rfl, h1⟩
    have F1 := Hd.mk h1
    clear h1
    have hne : (r != 0) = true := by simpa using HR0.out
    go_wp2
    rw [Exit.noGoto_ret]
    go_ret
    exact ⟨rfl, F1.out⟩
set_option maxHeartbeats 8000000 in
theorem load_ok (A : Option Addr) (n c : Nat) (lens : List Int) (q : Option Nat) (hS : SlArg w A n c (i64s lens) q) (hq : q ≠ some g) (hD : De w g most F S k) (hm1 : 1 ≤ most) (hm2 : most ≤ 288) (hlm : lens.length ≤ most) (hc : check lens = 0) :
    Calls Try.prog 28 #[.pointer (some ⟨g, 0, none⟩), .slice A n c] w fun e w' => e = .returned (.int .i64 0) ∧ Fr w w' [g] ∧ ∃ S', De w' g most (cz lens) S' (used lens) ∧ SymOk lens S' := by
  have c0 := hD.c0
  have HD0 := Hd.mk hD
  have HS := Hd.mk hS
  have HQ := Hd.mk hq
  have hl : lens.length = n := by have := hS.len; simpa [i64s] using this
  have hz : ((most : Int) == 0) = false := by simp; omega
  have hb := (check_zero hc).1
  have HB := Hd.mk hb
  have HC := Hd.mk hc
  obtain ⟨hl288, hall⟩ := bad_false hb
  have HALL := Hd.mk hall
  have HCZ : Hd (∀ l, cz lens l ≤ 288) := ⟨fun l => Nat.le_trans (cz_le lens l) hl288⟩
  have hub := used_le hb
  obtain ⟨us, hus⟩ : ∃ us, us = used lens := ⟨_, rfl⟩
  rw [← hus] at hub
  have HUS := Hd.mk hus
  have hlm2 : ¬ (n : Int) > (most : Nat) := by omega
  clear hS hD hq hb hc hall hus
  go_enter Try.func28, Try.ntmps28
  go_wp2_with (fail)
  go_step3
  go_wp2_with (fail)
  refine (check_any w A n c lens q HS.out 0 HC.out.symm).mono ?_
  rintro e w1 ⟨rfl, h1⟩
  have F1 := Hd.mk h1
  have HD1 := Hd.mk (HD0.out.frame h1 (by simp))
  clear h1 c0
  go_wp2_with (fail)
  refine (counts_any w1 A n c lens q (HS.out.frame F1.out (by simp)) false HB.out.symm).mono ?_
  rintro e w2 ⟨F', rfl, hF, h2⟩
  rw [hF rfl]
  have F2 := Hd.mk (F1.out.trans h2 (by simp))
  have HD2 := Hd.mk (HD1.out.frame h2 (by simp))
  clear hF h2 HD1
  go_upto_region 9 with (rw [vec_zero]; refine wpl_store_vec rfl _ _ rfl w2.heap.size _ (fun _ => 0) rfl rfl (by exact blk_new w2 _) ?_)
  have N0 := laid_vec w2 (cz lens)
  have G0 := laid_fr w2 (cz lens)
  have hgg : g ≠ w2.heap.size := by
    obtain ⟨cs, hb, _⟩ := HD2.out.ex
    have := blk_lt hb
    omega
  have HD3 := Hd.mk (HD2.out.frame G0 (by simp))
  generalize ((w2.alloc (.cells (vec fun _ => 0) 71)).setRow w2.heap.size (vec (cz lens))) = w3 at *
  generalize w2.heap.size = gn at *
  have HN := Hd.mk N0
  have F3 := Hd.mk (F2.out.trans G0 (by simp))
  clear N0 G0 F2 HD2
  go_wp2_with (refine wpl_load_vec rfl _ rfl gn rfl _ HN.out ?_)
  go_loopg [8, 41] 16 (fun kq sv iv wr => ∃ (i s : Nat), sv = .int .i64 (s : Nat) ∧ iv = .int .i64 (i : Nat) ∧ i + kq = 16 ∧ s ≤ i * 288 ∧ Hd (s = usedF (cz lens) i) ∧ wr = w3)
  case atStart => exact ⟨0, 0, rfl, rfl, rfl, by omega, ⟨rfl⟩, rfl⟩
  case round =>
    obtain ⟨i, s, rfl, rfl, hi, hs, HSU, rfl⟩ := hrel
    by_cases h : i < 16
    · have a0 := at_vec (cz lens) h
      obtain ⟨ci, hci⟩ : ∃ ci, ci = cz lens i := ⟨_, rfl⟩
      rw [← hci] at a0
      have hcb : ci ≤ 288 := by rw [hci]; exact HCZ.out i
      have HCI := Hd.mk hci
      clear hci
      go_wp2
      go_roundg (gk - 1)
      case measure => omega
      case rel => exact ⟨i + 1, s + ci, by go_num, by go_num, by omega, by omega, ⟨by rw [HSU.out, HCI.out]; rfl⟩, rfl⟩
    · obtain rfl : i = 16 := by omega
      obtain rfl : s = us := by rw [HSU.out, HUS.out]; rfl
      have hs288 : s ≤ 288 := by omega
      clear HSU hs
      have k3 := HD3.out.c3
      have f3 := HD3.out.free 305
      go_upto_region 16 with (fail)
      have HD4 := Hd.mk (HD3.out.setK 0)
      have HN4 := Hd.mk (blk_far HN.out (p := ⟨g, 305, none⟩) (Ne.symm hgg) (.int .i64 ((0 : Nat) : Int)))
      have F4 := Hd.mk ((F3.out.mono (G := [g]) (by simp)).setCell (a := ⟨g, 305, none⟩) (.int .i64 ((0 : Nat) : Int)) (.inl (by simp)))
      clear k3 f3 HD3
      have e0 : (Value.int .i64 ((0 : Nat) : Int)) = .int .i64 0 := rfl
      rw [e0] at HD4 HN4 F4
      generalize wr.setCell ⟨g, 305, none⟩ (.int .i64 0) = w4 at *
      go_wp2_with (first | (refine wpl_load_vec rfl _ rfl gn rfl _ HN4.out ?_) | (refine wpl_store_counts rfl _ _ rfl g most 0 (cz lens) F S rfl rfl HD4.out ?_; intro w5 hD5 hF5; have HD5 := Hd.mk hD5; have F5 := Hd.mk (F4.out.trans hF5 (by simp)); clear hD5 hF5))
      go_step3
      go_wp2_with (fail)
      clear HD4 HN4 F4 HN F3 F1 HD0
      have hk0 : Hd (De w5 g most (cz lens) S (kk lens 0 0)) := ⟨HD5.out⟩
      clear HD5
      go_loopg [55] 16 (fun kq lv wr => ∃ (l : Nat) (S' : Nat → Nat), lv = .int .i64 (l : Nat) ∧ l + kq = 16 ∧ Hd (De wr g most (cz lens) S' (kk lens l 0)) ∧ Hd (SymTo lens S' l 0) ∧ Hd (Fr w wr [g]))
      case atStart => exact ⟨0, S, rfl, rfl, hk0, ⟨fun s hs v hv h0 hc => by omega⟩, F5⟩
      case round =>
        obtain ⟨l, S1, rfl, hl16, HD, HSY, HFr⟩ := hrel
        obtain ⟨go, rfl⟩ : ∃ go : Nat, go = gk := ⟨_, rfl⟩
        by_cases hlt : l < 16
        · go_wp2_with (fail)
          go_loopg [60] n (fun kq iv wr => ∃ (i : Nat) (S' : Nat → Nat), iv = .int .i64 (i : Nat) ∧ i + kq = n ∧ Hd (De wr g most (cz lens) S' (kk lens l i)) ∧ Hd (SymTo lens S' l i) ∧ Hd (Fr w wr [g]))
          case atStart => exact ⟨0, S1, rfl, by omega, HD, HSY, HFr⟩
          case round =>
            clear HD HSY HFr
            obtain ⟨i, S2, rfl, hin, HD, HSY, HFr⟩ := hrel
            by_cases hi : i < n
            · obtain ⟨bd, off, hA, hqe, hcc⟩ := (HS.out.sl.frame HFr.out (fun y hy hm => HQ.out (by simp at hm; rw [← hm]; exact hy))) (by rw [i64s_length]; omega)
              subst hA
              have kd := (hcc i (by rw [i64s_length]; omega)).trans (i64s_get lens i)
              obtain ⟨x, hx⟩ : ∃ x, lens[i]? = some x := ⟨_, List.getElem?_eq_getElem (by omega)⟩
              rw [hx] at kd
              simp only [Option.map_some] at kd
              have HX : Hd (∃ h : i < lens.length, lens[i] = x) := ⟨List.getElem?_eq_some_iff.mp hx⟩
              obtain ⟨kc, hkc⟩ : ∃ kc, kc = kk lens l i := ⟨_, rfl⟩
              rw [← hkc] at HD
              have HKC := Hd.mk hkc
              have c3 := HD.out.c3
              clear hcc hx hkc hqe
              by_cases hks : kc = s
              · have g1 : ((kc : Int) == (s : Int)) = true := by simp; omega
                have HSO : Hd (SymOk lens S2) := ⟨sym_all HB.out HSY.out (by rw [← HKC.out, hks, HUS.out])⟩
                have HDE : Hd (De wr g most (cz lens) S2 (used lens)) := ⟨by rw [← HUS.out, ← hks]; exact HD.out⟩
                clear hks
                go_wp2
                try rw [Exit.noGoto_ret]
                go_ret
                exact ⟨rfl, HFr.out, S2, HDE.out, HSO.out⟩
              · have g1 : ((kc : Int) == (s : Int)) = false := by simp; omega
                have hkb : kc ≤ s := by
                  have h1 : usedF (cz lens) (l + 1) ≤ usedF (cz lens) 16 := usedF_mono (by omega)
                  simp only [usedF] at h1
                  have h2 := cnt_take_le lens l i
                  have h3 := HUS.out
                  have h4 := HKC.out
                  have h5 : cz lens l = if l = 0 then 0 else cnt lens l := rfl
                  unfold used at h3
                  simp only [usedF] at h3
                  unfold kk at h4
                  rw [h5] at h1
                  split at h4 <;> rename_i e
                  · rw [if_pos e] at h1; omega
                  · rw [if_neg e] at h1; omega
                have hkl : (kc : Int) < 288 := by omega
                by_cases hxl : x = (l : Int)
                · have g2 : (x == (l : Int)) = true := by simp; exact hxl
                  by_cases hl0 : (l : Int) > 0
                  · obtain ⟨u0, y0⟩ : ∃ u, wr.cell? ⟨g, 17 + kc, none⟩ = some u := ⟨_, HD.out.c2 (by omega)⟩
                    have f0 := HD.out.free (17 + kc)
                    have HL : Hd (∃ h : i < lens.length, lens[i] = (l : Int)) := ⟨by obtain ⟨h, e⟩ := HX.out; exact ⟨h, by rw [e, hxl]⟩⟩
                    clear hxl
                    go_upto_region 25 with (fail)
                    go_region
                    have HD2 := Hd.mk ((HD.out.setS (i := kc) (by omega) i).frame ((Fr.refl _ []).drew) (by simp))
                    have F2 := Hd.mk ((HFr.out.setCell (a := ⟨g, 17 + kc, none⟩) (.int .i64 (i : Nat)) (.inl (by simp))).drew)
                    generalize ((wr.setCell ⟨g, 17 + kc, none⟩ (.int .i64 (i : Nat))).drew) = w7 at *
                    clear c3 y0 f0
                    have c3 := HD2.out.c3
                    have f3 := HD2.out.free 305
                    go_wp2
                    go_roundg (gk - 1)
                    case measure => omega
                    case rel =>
                      obtain ⟨hil, hie⟩ := HL.out
                      have hk1 := kk_put hil hie (by omega)
                      refine ⟨i + 1, upd S2 kc i, by go_num, by omega, ⟨?_⟩, ⟨?_⟩, ⟨F2.out.setCell _ (.inl (by simp))⟩⟩
                      · rw [hk1, ← HKC.out]
                        exact HD2.out.setK (kc + 1)
                      · rw [HKC.out]
                        exact sym_put HB.out hil hie (by omega) HSY.out
                  · have HNO : Hd (∃ h : i < lens.length, ¬ (lens[i] = (l : Int) ∧ 0 < l)) := ⟨by obtain ⟨h, e⟩ := HX.out; exact ⟨h, by omega⟩⟩
                    obtain rfl : l = 0 := by omega
                    have g3 : (x == (0 : Int)) = true := by simp; omega
                    clear hl0 hxl g2
                    go_wp2
                    go_roundg (gk - 1)
                    case measure => omega
                    case rel =>
                      obtain ⟨hil, hno⟩ := HNO.out
                      exact ⟨i + 1, S2, by go_num, by omega, ⟨by rw [kk_skip hil hno, ← HKC.out]; exact HD.out⟩, ⟨sym_skip hil hno HSY.out⟩, HFr⟩
                · have g2 : (x == (l : Int)) = false := by simp; exact hxl
                  have HNO : Hd (∃ h : i < lens.length, ¬ (lens[i] = (l : Int) ∧ 0 < l)) := ⟨by obtain ⟨h, e⟩ := HX.out; exact ⟨h, by rw [e]; exact fun h => hxl h.1⟩⟩
                  clear hxl
                  go_wp2
                  go_roundg (gk - 1)
                  case measure => omega
                  case rel =>
                    obtain ⟨hil, hno⟩ := HNO.out
                    exact ⟨i + 1, S2, by go_num, by omega, ⟨by rw [kk_skip hil hno, ← HKC.out]; exact HD.out⟩, ⟨sym_skip hil hno HSY.out⟩, HFr⟩
            · obtain rfl : i = n := by omega
              have HD2 : Hd (De wr g most (cz lens) S2 (kk lens (l + 1) 0)) := ⟨by rw [← kk_row, hl]; exact HD.out⟩
              have HSY2 : Hd (SymTo lens S2 (l + 1) 0) := ⟨sym_row (by rw [hl]; exact HSY.out)⟩
              clear HD HSY
              go_wp2
              go_roundg (go - 1)
              case measure => omega
              case rel => exact ⟨l + 1, S2, by go_num, by omega, HD2, HSY2, HFr⟩
        · obtain rfl : l = 16 := by omega
          have HSO : Hd (SymOk lens S1) := ⟨sym_end HB.out HSY.out⟩
          have HDE : Hd (De wr g most (cz lens) S1 (used lens)) := ⟨by
            have : kk lens 16 0 = used lens := by unfold kk used; simp [cnt]
            rw [← this]; exact HD.out⟩
          go_wp2
          try rw [Exit.noGoto_ret]
          go_ret
          exact ⟨rfl, HFr.out, S1, HDE.out, HSO.out⟩
end
end Go.Proofs.Ytncjckhcellehaa.Code
