/- The document's begins and Next, walked. Conditions: none but the slices'. -/
import Derived.Test.YtncjckhcellehaaCodeG
import Derived.Test.YtncjckhcellehaaCodePlain8
set_option linter.unusedVariables false
set_option linter.unusedSimpArgs false
set_option maxRecDepth 100000
namespace Go.Proofs.Ytncjckhcellehaa.Code
open Go.RowKit Go.IntWalk Go.Proofs.Ytncjckhcellehaa.Lib Go.Proofs.Ytncjckhcellehaa.Ints Go.Proofs.Ytncjckhcellehaa.Num

theorem results_tmp4 {fn : Func} {t u v x : Tmp} (h : fn.results = #[.tmp t, .tmp u, .tmp v, .tmp x]) (tmps : Array Value) (P : Program) (w : World) :
    (results fn tmps).run P w = .ok (.tuple #[tmps.getD t undef, tmps.getD u undef, tmps.getD v undef, tmps.getD x undef]) w := by
  simp [results, h]
theorem tb_div {a b i : Nat} (h : a.testBit i = b.testBit i) : a / 2 ^ i % 2 = b / 2 ^ i % 2 := by
  rw [Nat.testBit_eq_decide_div_mod_eq, Nat.testBit_eq_decide_div_mod_eq] at h
  have h1 : a / 2 ^ i % 2 < 2 := Nat.mod_lt _ (by omega)
  have h2 : b / 2 ^ i % 2 < 2 := Nat.mod_lt _ (by omega)
  by_cases e : a / 2 ^ i % 2 = 1
  · rw [decide_eq_true e] at h
    have := of_decide_eq_true h.symm
    omega
  · rw [decide_eq_false e] at h
    have := of_decide_eq_false h.symm
    omega
theorem div_tb {a b i : Nat} (h : a / 2 ^ i % 2 = b / 2 ^ i % 2) : a.testBit i = b.testBit i := by
  rw [Nat.testBit_eq_decide_div_mod_eq, Nat.testBit_eq_decide_div_mod_eq, h]
set_option maxHeartbeats 8000000 in
theorem begins_any (w : World) (A B : Option Addr) (V h U n c d : Nat) (p q : Option Nat) (hS : Sl w A (Bits.bools V h) p) (hT : Sl w B (Bits.bools U n) q) (hh : h ≤ 64) (hn : n ≤ 64) (b : Bool) (hb : b = decide (n ≤ h ∧ V % 2 ^ n = U % 2 ^ n)) :
    Calls Try.prog 47 #[.slice A h c, .slice B n d] w fun e w' => e = .returned (.bool b) ∧ Fr w w' [] := by
  have HS := Hd.mk hS
  have HT := Hd.mk hT
  have HB := Hd.mk hb
  clear hS hT hb
  go_enter Try.func47, Try.ntmps47
  by_cases h0 : h < n
  · have hgt : (n : Int) > h := by omega
    obtain rfl : b = false := by rw [HB.out]; exact decide_eq_false (by omega)
    go_wp2
    go_ret
    exact ⟨rfl, Fr.refl _ _⟩
  · have hgt : ¬ (n : Int) > h := by omega
    go_wp2
    go_loopg [13] n (fun kq jv wr => ∃ j : Nat, jv = .int .i64 (j : Nat) ∧ j + kq = n ∧ Hd (V % 2 ^ j = U % 2 ^ j) ∧ Hd (Fr w wr []))
    case atStart => exact ⟨0, rfl, by omega, ⟨by simp [Nat.mod_one]⟩, ⟨Fr.refl _ _⟩⟩
    case round =>
      obtain ⟨j, rfl, hj, HE, HF⟩ := hrel
      by_cases h1 : j < n
      · obtain ⟨a, o1, rfl, _, ha⟩ := (HS.out.frame HF.out (by simp)) (by rw [Bits.bools_length]; omega)
        obtain ⟨b', o2, rfl, _, hb⟩ := (HT.out.frame HF.out (by simp)) (by rw [Bits.bools_length]; omega)
        obtain ⟨x, hx⟩ : ∃ x, x = V.testBit j := ⟨_, rfl⟩
        obtain ⟨y, hy⟩ : ∃ y, y = U.testBit j := ⟨_, rfl⟩
        have ca := (ha j (by rw [Bits.bools_length]; omega)).trans (by rw [Bits.bools_get (by omega), ← hx])
        have cb := (hb j (by rw [Bits.bools_length]; omega)).trans (by rw [Bits.bools_get (by omega), ← hy])
        have HX := Hd.mk hx
        have HY := Hd.mk hy
        clear ha hb hx hy
        by_cases hxy : x = y
        · subst hxy
          go_wp2
          go_region
          go_wp2
          go_roundg (gk - 1)
          case measure => omega
          case rel => exact ⟨j + 1, by go_num, by omega, ⟨by rw [Nat.pow_succ, Nat.mod_mul, Nat.mod_mul, HE.out, tb_div (HX.out.symm.trans HY.out)]⟩, ⟨HF.out.drew⟩⟩
        · have hb0 : Hd (b = false) := ⟨by
            rw [HB.out]
            refine decide_eq_false fun hc => hxy ?_
            rw [HX.out, HY.out]
            exact div_tb (bit_same hc.2 h1)⟩
          have hne : (!(x == y)) = true := by simpa using hxy
          clear hxy
          go_wp2
          go_region
          go_wp2
          go_ret
          rw [hb0.out]
          exact ⟨rfl, HF.out.drew⟩
      · obtain rfl : j = n := by omega
        have hb0 : Hd (b = true) := ⟨by
          rw [HB.out]
          exact decide_eq_true ⟨by omega, HE.out⟩⟩
        go_wp2
        go_ret
        rw [hb0.out]
        exact ⟨rfl, HF.out⟩
set_option maxHeartbeats 8000000 in
theorem rnext_any (w : World) (A : Option Addr) (n c : Nat) (lens : List Int) (q : Option Nat) (hS : SlArg w A n c (i64s lens) q) (B : Option Addr) (V h d : Nat) (qb : Option Nat) (hT : Sl w B (Bits.bools V h) qb) (hh : h ≤ 64) (hc : check lens = 0) (S : Nat → Nat) (hSym : SymOk lens S)
    (r : Nat × Nat × Nat) (hr : r = next (cz lens) (used lens) V h) (sv er : Int) (okb : Bool) (hsv : sv = if r.1 = 1 then (S r.2.1 : Nat) else 0) (her : er = if r.1 = 2 then 54 else 0) (hok : okb = decide (r.1 = 1)) :
    Calls Try.prog 30 #[.slice A n c, .slice B h d] w fun e w' => e = .returned (.tuple #[.int .i64 sv, .bool okb, .int .i64 (r.2.2 : Nat), .int .i64 er]) ∧ Fr w w' [] := by
  have HS := Hd.mk hS
  have HT := Hd.mk hT
  have HC := Hd.mk hc
  have HSY := Hd.mk hSym
  have HR := Hd.mk hr
  have HSV := Hd.mk hsv
  have HER := Hd.mk her
  have HOK := Hd.mk hok
  have hl : lens.length = n := by have := hS.len; simpa [i64s] using this
  have hln : (codes lens).length = n := by rw [codes_len hc, hl]
  have hl288 : n ≤ 288 := by rw [← hl]; exact (bad_false (check_zero hc).1).1
  clear hS hT hc hSym hr hsv her hok
  go_enter Try.func30, Try.ntmps30
  go_wp2_with (fail)
  refine (rcodes_any w A n c lens q HS.out 0 (codes lens) HC.out.symm rfl).mono ?_
  rintro e w1 ⟨A1, d1, rfl, h1, h2, h3⟩
  rw [hln] at h1 ⊢
  have O1 := Hd.mk h1
  have F1 := Hd.mk h3
  clear h1 h2 h3
  go_wp2
  go_loopg [8, 23] n (fun kq mv iv wr => ∃ (i : Nat) (m : Bool), mv = .bool m ∧ iv = .int .i64 (i : Nat) ∧ i + kq = n ∧ Hd (∀ s, s < i → ¬ Bg lens V h s) ∧ Hd (m = true → ∃ s, My lens V h s) ∧ Hd (m = false → ∀ s, s < i → ¬ My lens V h s) ∧ Hd (Fr w1 wr []))
  case atStart => exact ⟨0, false, rfl, rfl, by omega, ⟨fun s hs => by omega⟩, ⟨fun h => by cases h⟩, ⟨fun _ s hs => by omega⟩, ⟨Fr.refl _ _⟩⟩
  case round =>
    obtain ⟨i, m, rfl, rfl, hik, HBG, HM1, HM0, HF⟩ := hrel
    by_cases hi : i < n
    · have hil : i < lens.length := by omega
      obtain ⟨k, hk⟩ : ∃ k, k = bitsOf lens (i : Nat) := ⟨_, rfl⟩
      obtain ⟨cd, hcd⟩ : ∃ cd, cd = codeOf lens (i : Nat) := ⟨_, rfl⟩
      have hall := (bad_false (check_zero HC.out).1).2 lens[i] (List.getElem_mem hil)
      have hm2 : lens[i] = (k : Int) := by
        rw [hk]
        unfold bitsOf
        rw [if_pos (by omega), List.getD_eq_getElem?_getD, Int.toNat_natCast, List.getElem?_eq_getElem hil]
        simp only [Option.getD_some]
        omega
      have hcd2 : (codes lens)[i]? = some cd := by
        rw [hcd]
        unfold codeOf
        rw [Int.toNat_natCast, List.getD_eq_getElem?_getD, List.getElem?_eq_getElem (by omega)]
        rfl
      have hk15 : k ≤ 15 := by omega
      obtain ⟨bd, off, rfl, hq, hcc⟩ := (HS.out.sl.frame (F1.out.trans HF.out (by simp)) (by simp)) (by rw [i64s_length]; omega)
      have kd := (hcc i (by rw [i64s_length]; omega)).trans (i64s_get lens i)
      rw [List.getElem?_eq_getElem hil, hm2] at kd
      simp only [Option.map_some] at kd
      have hiI : (i : Int) < (n : Nat) := by omega
      by_cases hk0 : k = 0
      · have g0 : ((k : Int) == 0) = true := by simp; omega
        have HB2 : Hd (∀ s, s < i + 1 → ¬ Bg lens V h s) := ⟨fun s hs hb => by
          by_cases e : s = i
          · subst e; exact hb.2.1 (by omega)
          · exact HBG.out s (by omega) hb⟩
        have HM2 : Hd (m = false → ∀ s, s < i + 1 → ¬ My lens V h s) := ⟨fun hm s hs hb => by
          by_cases e : s = i
          · subst e; exact hb.2.1 (by omega)
          · exact HM0.out hm s (by omega) hb⟩
        clear hall hm2 hcd2 hcc hq hk hcd hk0
        go_wp2
        go_roundg (gk - 1)
        case measure => omega
        case rel => exact ⟨i + 1, m, rfl, by go_num, by omega, HB2, HM1, HM2, HF⟩
      · have g0 : ((k : Int) == 0) = false := by simp; omega
        have hcdb : cd < 32768 := by
          obtain ⟨c2, a1, a2, a3, a4⟩ := code_fits HC.out hil hm2 (by omega)
          rw [hcd2] at a1
          cases a1
          exact Nat.lt_of_lt_of_le a3 (Nat.pow_le_pow_right (by omega) hk15)
        obtain ⟨gl, dl, e1, hdl⟩ := own_some O1.out (by omega)
        injection e1 with e1 _ e2
        subst e1 e2
        have kc := ((own_frame O1.out HF.out (by simp)).cellAt i (by omega)).trans (show (nv (codes lens))[i]? = some (.int .i64 (cd : Nat)) from by
          unfold nv
          rw [i64s_get, List.getElem?_map, hcd2]
          rfl)
        have HK := Hd.mk hk
        have HCD := Hd.mk hcd
        have hcdl : Hd (cd < 2 ^ k) := ⟨by
          have := (bitsOf_fits HC.out (s := (i : Nat)) (by rw [← hk]; exact hk0)).2.2.1
          rw [← hk, ← hcd] at this
          exact this⟩
        obtain ⟨bb, hbb⟩ : ∃ bb, bb = decide (k ≤ h ∧ V % 2 ^ k = rv cd k % 2 ^ k) := ⟨_, rfl⟩
        obtain ⟨bm, hbm⟩ : ∃ bm, bm = decide (h ≤ k ∧ rv cd k % 2 ^ h = V % 2 ^ h) := ⟨_, rfl⟩
        have HBB := Hd.mk hbb
        have HBM := Hd.mk hbm
        clear hall hm2 hcd2 hcc hq hk hcd hbb hbm
        go_wp2_with (fail)
        refine (row_any _ cd k hcdb hk15).mono ?_
        rintro e w2 ⟨A2, d2, rfl, h1, h2, h3⟩
        have O2 := Hd.mk h1
        have F2 := Hd.mk (HF.out.trans h3 (by simp))
        clear h1 h2 h3
        go_wp2_with (fail)
        refine (begins_any w2 B A2 V h (rv cd k) k d d2 qb _ (HT.out.frame (F1.out.trans F2.out (by simp)) (by simp)) (sl_of_own O2.out) hh (by omega) bb HBB.out).mono ?_
        rintro e w3 ⟨rfl, h3⟩
        have O3 := Hd.mk (own_frame O2.out h3 (by simp))
        have F3 := Hd.mk (F2.out.trans h3 (by simp))
        clear h3 O2 F2
        cases bb with
        | true =>
          have HG : Hd (Bg lens V h i) := ⟨by
            have h1 := of_decide_eq_true HBB.out.symm
            refine ⟨hil, by rw [← HK.out]; exact hk0, by rw [← HK.out]; exact h1.1, ?_⟩
            rw [← HK.out, ← HCD.out, h1.2, Nat.mod_eq_of_lt (rv_lt _ _)]⟩
          obtain ⟨j, hnx, hSj⟩ := bg_next HC.out HSY.out HG.out
          rw [← HR.out] at hnx
          obtain rfl : sv = (i : Nat) := by rw [HSV.out, hnx]; simp [hSj]
          obtain rfl : er = 0 := by rw [HER.out, hnx]; rfl
          obtain rfl : okb = true := by rw [HOK.out, hnx]; rfl
          have HK2 : Hd (r.2.2 = k) := ⟨by rw [hnx, HK.out]⟩
          clear hnx hSj
          go_wp2
          ((try simp only [Exit.inBlock, Exit.then]); refine bodyPost_ret (results_tmp4 rfl _ _ _) rfl ?_)
          rw [HK2.out]
          exact ⟨rfl, F1.out.trans F3.out (by simp)⟩
        | false =>
          have HB2 : Hd (∀ s, s < i + 1 → ¬ Bg lens V h s) := ⟨fun s hs hb => by
            by_cases e : s = i
            · subst e
              obtain ⟨_, _, b3, b4⟩ := hb
              rw [← HK.out] at b3 b4
              rw [← HCD.out] at b4
              exact absurd ⟨b3, by rw [b4, Nat.mod_eq_of_lt (rv_lt _ _)]⟩ (of_decide_eq_false HBB.out.symm)
            · exact HBG.out s (by omega) hb⟩
          cases m with
          | true =>
            go_wp2
            go_roundg (gk - 1)
            case measure => omega
            case rel => exact ⟨i + 1, true, rfl, by go_num, by omega, HB2, ⟨fun _ => HM1.out (by simp)⟩, ⟨fun e => by cases e⟩, F3⟩
          | false =>
            have HMY : Hd (bm = true ↔ My lens V h i) := ⟨by
              rw [HBM.out, decide_eq_true_iff]
              unfold My
              rw [← HK.out, ← HCD.out]
              constructor
              · rintro ⟨h1, h2⟩; exact ⟨hil, hk0, h1, h2.symm⟩
              · rintro ⟨_, _, h1, h2⟩; exact ⟨h1, h2.symm⟩⟩
            go_wp2_with (fail)
            refine (begins_any w3 A2 B (rv cd k) k V h d2 d _ qb (sl_of_own O3.out) (HT.out.frame (F1.out.trans F3.out (by simp)) (by simp)) (by omega) hh bm HBM.out).mono ?_
            rintro e w4 ⟨rfl, h3⟩
            have F4 := Hd.mk (F3.out.trans h3 (by simp))
            clear h3
            go_wp2
            go_roundg (gk - 1)
            case measure => omega
            case rel => exact ⟨i + 1, bm, rfl, by go_num, by omega, HB2, ⟨fun e => ⟨i, HMY.out.1 e⟩⟩, ⟨fun e s hs hb => by
              by_cases e2 : s = i
              · subst e2
                have := HMY.out.2 hb
                rw [e] at this
                cases this
              · exact HM0.out (by simp) s (by omega) hb⟩, F4⟩
    · obtain rfl : i = n := by omega
      have HBA : Hd (∀ s, ¬ Bg lens V h s) := ⟨fun s hb => HBG.out s (by have := hb.1; omega) hb⟩
      cases m with
      | true =>
        obtain ⟨s, hs⟩ := HM1.out (by simp)
        have hnx := my_next HC.out HSY.out HBA.out hs
        rw [← HR.out] at hnx
        obtain rfl : sv = 0 := by rw [HSV.out, hnx]; rfl
        obtain rfl : er = 0 := by rw [HER.out, hnx]; rfl
        obtain rfl : okb = false := by rw [HOK.out, hnx]; rfl
        have HK2 : Hd (r.2.2 = 0) := ⟨by rw [hnx]⟩
        clear hnx hs
        go_wp2
        ((try simp only [Exit.inBlock, Exit.then]); refine bodyPost_ret (results_tmp4 rfl _ _ _) rfl ?_)
        rw [HK2.out]
        exact ⟨rfl, F1.out.trans HF.out (by simp)⟩
      | false =>
        obtain ⟨j, hnx⟩ := no_next (V := V) (h := h) HC.out HBA.out (fun s hb => HM0.out (by simp) s (by have := hb.1; omega) hb)
        rw [← HR.out] at hnx
        obtain rfl : sv = 0 := by rw [HSV.out, hnx]; rfl
        obtain rfl : er = 54 := by rw [HER.out, hnx]; rfl
        obtain rfl : okb = false := by rw [HOK.out, hnx]; rfl
        have HK2 : Hd (r.2.2 = 0) := ⟨by rw [hnx]⟩
        clear hnx
        go_wp2
        ((try simp only [Exit.inBlock, Exit.then]); refine bodyPost_ret (results_tmp4 rfl _ _ _) rfl ?_)
        rw [HK2.out]
        exact ⟨rfl, F1.out.trans HF.out (by simp)⟩
end Go.Proofs.Ytncjckhcellehaa.Code
