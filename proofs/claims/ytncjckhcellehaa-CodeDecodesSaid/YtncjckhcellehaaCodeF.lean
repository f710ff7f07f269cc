/- A symbol is taken up, walked. Conditions: none but the decoder's. -/
import Derived.Test.YtncjckhcellehaaCodeE
import Derived.Test.YtncjckhcellehaaCodePlain4
set_option linter.unusedVariables false
set_option linter.unusedSimpArgs false
set_option maxRecDepth 100000
namespace Go.Proofs.Ytncjckhcellehaa.Code
open Go.RowKit Go.IntWalk Go.Proofs.Ytncjckhcellehaa.Lib Go.Proofs.Ytncjckhcellehaa.Ints Go.Proofs.Ytncjckhcellehaa.Num Go.Proofs.Ytncjckhcellehaa.Bits

theorem bit_or {c v : Nat} (hc : c % 2 = 0) (hcb : c < 2 ^ 16) (l : Nat) (hv : v < 2 ^ 15) : Go.bits .or .i64 (c : Nat) (wrap64 (Go.bits .and .u64 ((v : Int) / 2 ^ (l - 1)) 1)) = ((c + v / 2 ^ (l - 1) % 2 : Nat) : Int) := by
  have hd : v / 2 ^ (l - 1) < 2 ^ 64 := Nat.lt_of_le_of_lt (Nat.div_le_self _ _) (by omega)
  rw [div_cast, n64and1 hd, wrap64_id (by omega) (by omega)]
  have hb : v / 2 ^ (l - 1) % 2 < 2 := Nat.mod_lt _ (by omega)
  generalize v / 2 ^ (l - 1) % 2 = b at *
  rw [(bits_nat .i64 16 (by decide) (fun n h0 h1 => IntWalk.i64_in n ⟨by omega, by omega⟩) c b hcb (by omega)).2]
  congr 1
  have h1 := or_add (a := b) (b := c / 2) (i := 1) (by omega)
  rw [Nat.or_comm, show c = c / 2 * 2 ^ 1 from by omega, h1]
  omega
theorem low_bit {V mn l : Nat} (h1 : 1 ≤ l) (h : l ≤ mn) : (V % 2 ^ mn) / 2 ^ (l - 1) % 2 = V / 2 ^ (l - 1) % 2 := by
  have e : 2 ^ mn = 2 ^ (l - 1) * 2 ^ (mn - (l - 1)) := by rw [← Nat.pow_add]; congr 1; omega
  rw [e, Nat.mod_mul_right_div_self]
  exact Nat.mod_mod_of_dvd _ (by
    have : 2 ^ 1 ∣ 2 ^ (mn - (l - 1)) := Nat.pow_dvd_pow 2 (by omega)
    simpa using this)
section
variable {w : World} {g most k : Nat} {F S : Nat → Nat}
set_option maxHeartbeats 8000000 in
theorem next_any (gr V h t : Nat) (hD : De w g most F S k) (hm1 : 1 ≤ most) (hF0 : F 0 = 0) (hFb : ∀ l, F l ≤ 288) (hFu : usedF F 16 ≤ 288) (hR : Rd w gr V h t) (ht : t ≤ 1152921504606846900) (hg : g ≠ gr)
    (r : Nat × Nat × Nat) (hr : r = next F k V h) (sv er : Int) (okb : Bool) (hsv : sv = if r.1 = 1 then (S r.2.1 : Nat) else 0) (her : er = if r.1 = 2 then 54 else 0) (hok : okb = decide (r.1 = 1)) :
    Calls Try.prog 29 #[.pointer (some ⟨g, 0, none⟩), .pointer (some ⟨gr, 0, none⟩)] w fun e w' => e = .returned (.tuple #[.int .i64 sv, .bool okb, .int .i64 er]) ∧ Rd w' gr (V / 2 ^ r.2.2) (h - r.2.2) (t + r.2.2) ∧ Fr w w' [gr] := by
  have c0 := hD.c0
  have c3 := hD.c3
  have HD := Hd.mk hD
  have HR := Hd.mk hR
  have HRR := Hd.mk hr
  have HS := Hd.mk hsv
  have HE := Hd.mk her
  have HO := Hd.mk hok
  have HF0 := Hd.mk hF0
  have HFB := Hd.mk hFb
  have HFU := Hd.mk hFu
  have hz : ((most : Int) == 0) = false := by simp; omega
  clear hD hR hr hsv her hok hF0 hFb hFu
  go_enter Try.func29, Try.ntmps29
  by_cases hk : k = 0
  · have g1 : ((k : Int) == 0) = true := by simp; omega
    have e : Hd (r = (2, 0, 0)) := ⟨by rw [HRR.out]; unfold next; rw [if_pos hk]⟩
    obtain rfl : sv = 0 := by rw [HS.out, e.out]; rfl
    obtain rfl : er = 54 := by rw [HE.out, e.out]; rfl
    obtain rfl : okb = false := by rw [HO.out, e.out]; rfl
    clear hk
    go_wp2
    go_ret3
    rw [e.out]
    exact ⟨rfl, by simpa using HR.out, Fr.refl _ _⟩
  · have g1 : ((k : Int) == 0) = false := by simp; omega
    have e : Hd (r = nextF F k V h 15 1 0) := ⟨by rw [HRR.out]; unfold next; rw [if_neg hk]⟩
    clear hk HRR
    obtain ⟨mn, hmn⟩ : ∃ mn, mn = min h 15 := ⟨_, rfl⟩
    have h64 := HR.out.2.2
    have hm3 : mn ≤ h ∧ mn ≤ 15 := by omega
    have HMN := Hd.mk hmn
    clear hmn
    go_upto_region 5 with (fail)
    go_cut [7] from 32 to 40 (fun s7 wd => s7 = .int .u64 ((V % 2 ^ mn : Nat) : Int) ∧ wd = w.drew)
    case first =>
      go_wp2_with (fail)
      refine (has_any w HR.out).mono ?_
      rintro e w1 ⟨rfl, rfl⟩
      by_cases h15 : (15 : Int) < (h : Nat)
      · obtain rfl : mn = 15 := by have := HMN.out; omega
        go_wp2_with (fail)
        refine (peek_ok w 15 (by omega) (by omega) (by omega) HR.out).mono ?_
        rintro e w1 ⟨rfl, rfl⟩
        go_wp2
        go_meet
        exact ⟨rfl, rfl⟩
      · obtain rfl : mn = h := by have := HMN.out; omega
        go_wp2_with (fail)
        refine (peek_ok w (mn : Int) (by omega) (by omega) (by omega) HR.out).mono ?_
        rintro e w1 ⟨rfl, rfl⟩
        rw [Int.toNat_natCast]
        go_wp2
        go_meet
        exact ⟨rfl, rfl⟩
    case rest =>
    obtain ⟨rfl, rfl⟩ := hcut
    have HD2 : Hd (De w.drew g most F S k) := ⟨HD.out.frame ((Fr.refl w []).drew) (by simp)⟩
    have HR2 : Hd (Rd w.drew gr V h t) := ⟨HR.out.frame ((Fr.refl w []).drew) (by simp)⟩
    have F2 : Hd (Fr w w.drew [gr]) := ⟨(Fr.refl w _).drew⟩
    generalize w.drew = w2 at *
    obtain ⟨v, hv⟩ : ∃ v, v = V % 2 ^ mn := ⟨_, rfl⟩
    have hvb : v < 2 ^ 15 := by
      rw [hv]
      exact Nat.lt_of_lt_of_le (Nat.mod_lt _ (Nat.pow_pos (by omega))) (Nat.pow_le_pow_right (by omega) hm3.2)
    rw [← hv]
    have HVV := Hd.mk hv
    clear hv c0 c3
    go_wp2
    go_loopg [9, 10, 11, 12] 15 (fun kq cv fv xv lv wr => ∃ (l c : Nat), cv = .int .i64 (c : Nat) ∧ fv = .int .i64 (firstF F l : Nat) ∧ xv = .int .i64 (usedF F l : Nat) ∧ lv = .int .i64 (l : Nat) ∧ 1 ≤ l ∧ l + kq = 16 ∧ Hd (c % 2 = 0) ∧ Hd (c < 2 ^ l) ∧ Hd (firstF F l ≤ c) ∧ Hd (r = nextF F k V h kq l c) ∧ wr = w2)
    case atStart => exact ⟨1, 0, rfl, by simp [firstF, HF0.out], by simp [usedF, HF0.out], rfl, by omega, rfl, ⟨rfl⟩, ⟨by decide⟩, ⟨by simp [firstF, HF0.out]⟩, e, rfl⟩
    case round =>
      clear e
      obtain ⟨l, c, rfl, rfl, rfl, rfl, hl1, hl16, HCE, HCB, HFC, HRX, rfl⟩ := hrel
      by_cases hl : l ≤ 15
      · obtain ⟨fu, rfl⟩ : ∃ fu, gk = fu + 1 := ⟨gk - 1, by omega⟩
        have HRX2 := Hd.mk HRX.out
        simp only [nextF] at HRX2
        clear HRX
        go_wp2_with (fail)
        refine (has_any wr HR2.out).mono ?_
        rintro e w1 ⟨rfl, rfl⟩
        by_cases hlh : (l : Int) > (h : Nat)
        · have er0 : Hd (r = (0, 0, 0)) := ⟨by rw [HRX2.out, if_pos (by omega)]⟩
          obtain rfl : sv = 0 := by rw [HS.out, er0.out]; rfl
          obtain rfl : er = 0 := by rw [HE.out, er0.out]; rfl
          obtain rfl : okb = false := by rw [HO.out, er0.out]; rfl
          go_wp2
          go_ret3
          rw [er0.out]
          exact ⟨rfl, by simpa using HR2.out, F2.out⟩
        · obtain ⟨c1, hc1⟩ : ∃ c1, c1 = c + V / 2 ^ (l - 1) % 2 := ⟨_, rfl⟩
          have HC1 := Hd.mk hc1
          have hcb : c < 2 ^ 15 := Nat.lt_of_lt_of_le HCB.out (Nat.pow_le_pow_right (by omega) hl)
          have hc1b : c1 ≤ 32768 := by omega
          have hlm : l ≤ mn := by have := HMN.out; omega
          have hval : Go.bits .or .i64 (c : Nat) (wrap64 (Go.bits .and .u64 ((v : Int) / 2 ^ (l - 1)) 1)) = (c1 : Int) := by
            rw [bit_or HCE.out (by omega) l hvb, HVV.out, low_bit hl1 hlm, hc1]
          rw [if_neg (by omega), ← hc1] at HRX2
          have hfc := HFC.out
          have hfl : firstF F l + F l ≤ 18875000 := by
            have h1 := firstF_le HFB.out l
            have h2 : 2 ^ (l + 1) * 288 ≤ 2 ^ 16 * 288 := Nat.mul_le_mul_right 288 (Nat.pow_le_pow_right (by omega) (by omega))
            have h3 := HFB.out l
            omega
          have hxl : usedF F l + F l ≤ 288 := by
            have h1 : usedF F l + F l ≤ usedF F 16 := (usedF_mono (by omega) : usedF F (l + 1) ≤ usedF F 16)
            have := HFU.out
            omega
          have hcc : c ≤ c1 := by omega
          have hc1e : Hd ((2 * c1) % 2 = 0) := ⟨by omega⟩
          have hc1l : Hd (2 * c1 < 2 ^ (l + 1)) := ⟨by
            have h1 := HCB.out
            have h2 := HCE.out
            have h3 : 2 ^ l % 2 = 0 := by
              obtain ⟨l', rfl⟩ : ∃ l', l = l' + 1 := ⟨l - 1, by omega⟩
              rw [Nat.pow_succ]; omega
            rw [Nat.pow_succ]
            omega⟩
          have k1 := HD2.out.c1 (i := l) (by omega)
          have k3 := HD2.out.c3
          obtain ⟨fl, hfl2⟩ : ∃ fl, fl = F l := ⟨_, rfl⟩
          obtain ⟨fs, hfs⟩ : ∃ fs, fs = firstF F l := ⟨_, rfl⟩
          obtain ⟨ux, hux⟩ : ∃ ux, ux = usedF F l := ⟨_, rfl⟩
          rw [← hfl2] at k1 hfl hxl HRX2
          rw [← hfs] at hfc hfl HRX2
          rw [← hux] at hxl HRX2
          rw [← hfs, ← hux]
          have HFL := Hd.mk hfl2
          have HFS := Hd.mk hfs
          have HUX := Hd.mk hux
          have hl16' : (l : Int) < 16 := by omega
          have hl17 : (1 : Int) ≤ (l : Int) := by omega
          clear hc1 hcb hfl2 hfs hux
          go_upto_region 13 with (fail)
          clear hval
          by_cases hfd : c1 < fs + fl
          · have er0 : Hd (r = (1, ux + (c1 - fs), l)) := ⟨by rw [HRX2.out, if_pos hfd]⟩
            have hcmp : (c1 : Int) - (fs : Nat) < (fl : Nat) := by omega
            clear HRX2
            go_wp2_with (fail)
            refine (take_ok wr (l : Int) (by omega) (by omega) (by omega) (by omega) HR2.out).mono ?_
            rintro e w3 ⟨rfl, h1, h2⟩
            rw [Int.toNat_natCast] at h1
            obtain ⟨j, hj⟩ : ∃ j, j = ux + (c1 - fs) := ⟨_, rfl⟩
            have hjb : j < 288 := by omega
            have HR3 := Hd.mk h1
            have F3 := Hd.mk (F2.out.trans h2 (by simp))
            have HD3 := Hd.mk (HD2.out.frame h2 (by simp; exact hg))
            obtain rfl : sv = (S j : Nat) := by rw [HS.out, er0.out, hj]; rfl
            obtain rfl : er = 0 := by rw [HE.out, er0.out]; rfl
            obtain rfl : okb = true := by rw [HO.out, er0.out]; rfl
            have k2 := HD3.out.c2 hjb
            have hidx : (ux : Int) + (c1 : Nat) - (fs : Nat) = (j : Nat) := by omega
            have hj288 : (j : Int) < 288 := by omega
            clear h1 h2 hj k1 k3
            go_wp2
            go_ret3
            rw [er0.out]
            exact ⟨rfl, HR3.out, F3.out⟩
          · rw [if_neg hfd] at HRX2
            have hcmp : ¬ (c1 : Int) - (fs : Nat) < (fl : Nat) := by omega
            by_cases hke : ux + fl = k
            · have er0 : Hd (r = (2, 0, 0)) := ⟨by rw [HRX2.out, if_pos hke]⟩
              obtain rfl : sv = 0 := by rw [HS.out, er0.out]; rfl
              obtain rfl : er = 54 := by rw [HE.out, er0.out]; rfl
              obtain rfl : okb = false := by rw [HO.out, er0.out]; rfl
              have g2 : ((ux : Int) + (fl : Nat) == (k : Nat)) = true := by simp; omega
              clear hke HRX2 hfd
              go_wp2
              go_ret3
              rw [er0.out]
              exact ⟨rfl, by simpa using HR2.out, F2.out⟩
            · have HRX3 : Hd (r = nextF F k V h fu (l + 1) (2 * c1)) := ⟨by rw [HRX2.out, if_neg hke]⟩
              have g2 : ((ux : Int) + (fl : Nat) == (k : Nat)) = false := by simp; omega
              clear hke HRX2 hfd
              go_wp2
              go_roundg fu
              case measure => omega
              case rel =>
                refine ⟨l + 1, 2 * c1, by go_num, ?_, ?_, by go_num, by omega, by omega, hc1e, hc1l, ⟨?_⟩, HRX3, rfl⟩
                · simp only [firstF]
                  rw [← HFS.out, ← HFL.out]
                  go_num
                · simp only [usedF]
                  rw [← HUX.out, ← HFL.out]
                  go_num
                · simp only [firstF]
                  rw [← HFS.out, ← HFL.out]
                  omega
      · obtain rfl : l = 16 := by omega
        obtain rfl : gk = 0 := by omega
        have er0 : Hd (r = (2, 0, 0)) := ⟨by rw [HRX.out]; rfl⟩
        obtain rfl : sv = 0 := by rw [HS.out, er0.out]; rfl
        obtain rfl : er = 54 := by rw [HE.out, er0.out]; rfl
        obtain rfl : okb = false := by rw [HO.out, er0.out]; rfl
        go_wp2
        go_ret3
        rw [er0.out]
        exact ⟨rfl, by simpa using HR2.out, F2.out⟩
end
end Go.Proofs.Ytncjckhcellehaa.Code
