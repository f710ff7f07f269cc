/- The document's Space, Check and Codes, walked. Conditions: none but the slice's. -/
import Derived.Test.YtncjckhcellehaaCodeB
import Derived.Test.YtncjckhcellehaaCodePlain5
set_option linter.unusedVariables false
set_option linter.unusedSimpArgs false
set_option maxRecDepth 100000
namespace Go.Proofs.Ytncjckhcellehaa.Code
open Go.RowKit Go.IntWalk Go.Proofs.Ytncjckhcellehaa.Lib Go.Proofs.Ytncjckhcellehaa.Ints

set_option maxHeartbeats 8000000 in
theorem rspc_any (w : World) (A : Option Addr) (n c : Nat) (lens : List Int) (q : Option Nat) (hS : SlArg w A n c (i64s lens) q) (v : Nat) (r : Int) (hv : v = spVal lens) (hr : r = spErr lens) :
    Calls Try.prog 35 #[.slice A n c] w fun e w' => e = .returned (.tuple #[.int .i64 (v : Nat), .int .i64 r]) ∧ w = w' := by
  have HR := Hd.mk hr
  have HV := Hd.mk hv
  have HS := Hd.mk hS
  have hl : lens.length = n := by have := hS.len; simpa [i64s] using this
  have HBAD : Hd (bad lens = true → v = 0 ∧ r = 50) := ⟨fun h => ⟨by rw [hv]; unfold spVal; rw [if_pos h], by rw [hr]; unfold spErr; rw [if_pos h]⟩⟩
  clear hr hv hS
  go_enter Try.func35, Try.ntmps35
  by_cases h288 : (n : Int) > 288
  · obtain ⟨rfl, rfl⟩ := HBAD.out (bad_long (by omega))
    go_wp2
    go_ret2
    exact ⟨rfl, rfl⟩
  · go_wp2
    go_loopg [4, 12] n (fun kq sv jv wr => ∃ (j s : Nat), sv = .int .i64 (s : Nat) ∧ jv = .int .i64 (j : Nat) ∧ j + kq = n ∧ s ≤ j * 16384 ∧ Hd (s = spaceR (lens.take j)) ∧ Hd (∀ (i : Nat) (hi : i < lens.length), i < j → 0 ≤ lens[i] ∧ lens[i] ≤ 15) ∧ wr = w)
    case atStart => exact ⟨0, 0, rfl, rfl, by omega, by omega, ⟨by simp [spaceR]⟩, ⟨by intro i hi h; omega⟩, rfl⟩
    case round =>
      obtain ⟨j, s, rfl, rfl, hj, hs, HSS, HP, rfl⟩ := hrel
      by_cases hjn : j < n
      · obtain ⟨bd, off, rfl, _, hcc⟩ := HS.out.sl (by rw [i64s_length]; omega)
        have kd := (hcc j (by rw [i64s_length]; omega)).trans (i64s_get lens j)
        obtain ⟨x, hx⟩ : ∃ x, lens[j]? = some x := ⟨_, List.getElem?_eq_getElem (by omega)⟩
        rw [hx] at kd
        simp only [Option.map_some] at kd
        have HX : Hd (∃ h : j < lens.length, lens[j] = x) := ⟨List.getElem?_eq_some_iff.mp hx⟩
        clear hcc hx
        by_cases hx0 : x < 0
        · obtain ⟨rfl, rfl⟩ := HBAD.out (by obtain ⟨e, he⟩ := HX.out; exact bad_at e (by omega))
          go_wp2
          go_ret2
          exact ⟨rfl, rfl⟩
        · by_cases hx1 : x > 15
          · obtain ⟨rfl, rfl⟩ := HBAD.out (by obtain ⟨e, he⟩ := HX.out; exact bad_at e (by omega))
            go_wp2
            go_ret2
            exact ⟨rfl, rfl⟩
          · have HP2 : Hd (∀ (i : Nat) (hi : i < lens.length), i < j + 1 → 0 ≤ lens[i] ∧ lens[i] ≤ 15) := ⟨by
              intro i hi hij
              by_cases e : i = j
              · subst e
                obtain ⟨e, he⟩ := HX.out
                rw [he]; omega
              · exact HP.out i hi (by omega)⟩
            have HSX : Hd (spaceR (lens.take (j + 1)) = s + (if 0 < x then 2 ^ (15 - x.toNat) else 0)) := ⟨by
              obtain ⟨e, he⟩ := HX.out
              rw [spaceR_take e, he, ← HSS.out]⟩
            obtain ⟨v0, rfl⟩ := Int.eq_ofNat_of_zero_le (show 0 ≤ x by omega)
            by_cases hxp : (v0 : Int) > 0
            · obtain ⟨z, hz⟩ : ∃ z, z = 2 ^ (15 - v0) := ⟨_, rfl⟩
              have hzb : z ≤ 16384 := by
                rw [hz]
                have : 2 ^ (15 - v0) ≤ 2 ^ 14 := Nat.pow_le_pow_right (by omega) (by omega)
                simpa using this
              have HZ := Hd.mk hz
              clear hz
              go_wp2
              have e1 : wrap64 ((2 : Int) ^ (15 - v0)) = (z : Nat) := by
                rw [show (2 : Int) ^ (15 - v0) = (z : Nat) from by rw [HZ.out]; push_cast; rfl]
                exact wrap64_in _ (by omega)
              rw [e1]
              have e2 : wrap64 ((s : Int) + (z : Nat)) = ((s + z : Nat) : Int) := by
                rw [show (s : Int) + (z : Nat) = ((s + z : Nat) : Int) from by push_cast; rfl]
                exact wrap64_in _ (by omega)
              rw [e2]
              go_roundg (gk - 1)
              case measure => omega
              case rel => exact ⟨j + 1, s + z, rfl, by go_num, by omega, by omega, ⟨by rw [HSX.out, if_pos hxp, HZ.out, Int.toNat_natCast]⟩, HP2, rfl⟩
            · go_wp2
              go_roundg (gk - 1)
              case measure => omega
              case rel => exact ⟨j + 1, s, by go_num, by go_num, by omega, by omega, ⟨by rw [HSX.out, if_neg (by omega)]; rfl⟩, HP2, rfl⟩
      · obtain rfl : j = n := by omega
        have hb : bad lens = false := bad_not (by omega) (fun i hi => HP.out i hi (by omega))
        have hall := (bad_false hb).2
        obtain rfl : r = 0 := by rw [HR.out]; unfold spErr; rw [if_neg (by rw [hb]; simp)]
        obtain rfl : v = s := by rw [HV.out, HSS.out, ← hl, List.take_length, spaceR_eq lens hall]; unfold spVal; rw [if_neg (by rw [hb]; simp)]
        clear hb hall
        go_wp2
        go_ret2
        exact ⟨rfl, rfl⟩
set_option maxHeartbeats 8000000 in
theorem rchk_any (w : World) (A : Option Addr) (n c : Nat) (lens : List Int) (q : Option Nat) (hS : SlArg w A n c (i64s lens) q) (r : Int) (hr : r = check lens) :
    Calls Try.prog 13 #[.slice A n c] w fun e w' => e = .returned (.int .i64 r) ∧ w = w' := by
  have HR : Hd (r = checkR lens) := ⟨by rw [checkR_eq]; exact hr⟩
  have HS := Hd.mk hS
  have hl : lens.length = n := by have := hS.len; simpa [i64s] using this
  clear hr hS
  obtain ⟨b, hb⟩ : ∃ b, b = bad lens := ⟨_, rfl⟩
  have HB := Hd.mk hb
  clear hb
  obtain ⟨sp, hsp⟩ : ∃ sp, sp = spVal lens := ⟨_, rfl⟩
  obtain ⟨er, her⟩ : ∃ er, er = spErr lens := ⟨_, rfl⟩
  have HSP := Hd.mk hsp
  have HER := Hd.mk her
  clear hsp her
  go_enter Try.func13, Try.ntmps13
  go_wp2_with (fail)
  refine (rspc_any w A n c lens q HS.out sp er HSP.out HER.out).mono ?_
  rintro e w1 ⟨rfl, rfl⟩
  cases b with
  | true =>
    obtain rfl : er = 50 := by rw [HER.out]; unfold spErr; rw [if_pos HB.out.symm]
    obtain rfl : r = 50 := by rw [HR.out]; unfold checkR; rw [if_pos HB.out.symm]
    go_wp2
    go_ret
    exact ⟨rfl, rfl⟩
  | false =>
    obtain rfl : er = 0 := by rw [HER.out]; unfold spErr; rw [if_neg (by rw [← HB.out]; simp)]
    obtain ⟨hl288, hall⟩ := bad_false HB.out.symm
    have hsp2 : sp = spaceR lens := by rw [HSP.out, spaceR_eq lens hall]; unfold spVal; rw [if_neg (by rw [← HB.out]; simp)]
    have hspb : sp ≤ 4718592 := by
      have := spaceR_le lens
      rw [hsp2]
      omega
    have HSP2 := Hd.mk hsp2
    have HALL := Hd.mk hall
    have HR2 : Hd (r = if 32768 < sp then 51 else if sp = 32768 ∨ usedR lens = 0 ∨ (usedR lens = 1 ∧ sp = 16384) then 0 else 52) := ⟨by
      rw [HR.out, hsp2]
      unfold checkR
      rw [if_neg (by rw [← HB.out]; simp)]⟩
    clear hsp2 hall HR
    by_cases h51 : 32768 < sp
    · obtain rfl : r = 51 := by rw [HR2.out, if_pos h51]
      go_wp2
      go_ret
      exact ⟨rfl, rfl⟩
    · go_wp2
      go_loopg [5, 20] n (fun kq sv jv wr => ∃ (j s : Nat), sv = .int .i64 (s : Nat) ∧ jv = .int .i64 (j : Nat) ∧ j + kq = n ∧ s ≤ j ∧ Hd (s = usedR (lens.take j)) ∧ wr = w)
      case atStart => exact ⟨0, 0, rfl, rfl, by omega, by omega, ⟨by simp [usedR]⟩, rfl⟩
      case round =>
        obtain ⟨j, s, rfl, rfl, hj, hs, HSS, rfl⟩ := hrel
        by_cases hjn : j < n
        · obtain ⟨bd, off, rfl, _, hcc⟩ := HS.out.sl (by rw [i64s_length]; omega)
          have kd := (hcc j (by rw [i64s_length]; omega)).trans (i64s_get lens j)
          obtain ⟨x, hx⟩ : ∃ x, lens[j]? = some x := ⟨_, List.getElem?_eq_getElem (by omega)⟩
          rw [hx] at kd
          simp only [Option.map_some] at kd
          have HSX : Hd (usedR (lens.take (j + 1)) = s + (if 0 < x then 1 else 0)) := ⟨by
            obtain ⟨e, he⟩ := List.getElem?_eq_some_iff.mp hx
            rw [usedR_take e, he, ← HSS.out]⟩
          clear hcc hx
          by_cases hxp : x > 0
          · go_wp2
            go_roundg (gk - 1)
            case measure => omega
            case rel => exact ⟨j + 1, s + 1, by go_num, by go_num, by omega, by omega, ⟨by rw [HSX.out, if_pos hxp]⟩, rfl⟩
          · go_wp2
            go_roundg (gk - 1)
            case measure => omega
            case rel => exact ⟨j + 1, s, by go_num, by go_num, by omega, by omega, ⟨by rw [HSX.out, if_neg (by omega)]; rfl⟩, rfl⟩
        · obtain rfl : j = n := by omega
          have HR3 : Hd (r = if sp = 32768 ∨ s = 0 ∨ (s = 1 ∧ sp = 16384) then 0 else 52) := ⟨by rw [HR2.out, if_neg h51, HSS.out, ← hl, List.take_length]⟩
          clear HR2 HSS
          by_cases hw : sp = 32768
          · obtain rfl : r = 0 := by rw [HR3.out, if_pos (.inl hw)]
            have g1 : ((sp : Int) == 32768) = true := by simp; omega
            clear hw
            go_wp2
            go_ret
            exact ⟨rfl, rfl⟩
          · have g1 : ((sp : Int) == 32768) = false := by simp; omega
            by_cases hs0 : s = 0
            · obtain rfl : r = 0 := by rw [HR3.out, if_pos (.inr (.inl hs0))]
              have g2 : ((s : Int) == 0) = true := by simp; omega
              clear hs0 hw
              go_wp2
              go_ret
              exact ⟨rfl, rfl⟩
            · have g2 : ((s : Int) == 0) = false := by simp; omega
              by_cases hs1 : s = 1
              · have g3 : ((s : Int) == 1) = true := by simp; omega
                by_cases hc : sp = 16384
                · obtain rfl : r = 0 := by rw [HR3.out, if_pos (.inr (.inr ⟨hs1, hc⟩))]
                  have g4 : ((sp : Int) == 16384) = true := by simp; omega
                  clear hs0 hw hs1 hc
                  go_wp2
                  go_ret
                  exact ⟨rfl, rfl⟩
                · obtain rfl : r = 52 := by rw [HR3.out, if_neg (by omega)]
                  have g4 : ((sp : Int) == 16384) = false := by simp; omega
                  clear hs0 hw hs1 hc
                  go_wp2
                  go_ret
                  exact ⟨rfl, rfl⟩
              · obtain rfl : r = 52 := by rw [HR3.out, if_neg (by omega)]
                have g3 : ((s : Int) == 1) = false := by simp; omega
                clear hs0 hw hs1
                go_wp2
                go_ret
                exact ⟨rfl, rfl⟩
set_option maxHeartbeats 8000000 in
theorem rcodes_any (w : World) (A : Option Addr) (n c : Nat) (lens : List Int) (q : Option Nat) (hS : SlArg w A n c (i64s lens) q) (r : Int) (L : List Nat) (hr : r = check lens) (hL : L = codes lens) :
    Calls Try.prog 37 #[.slice A n c] w fun e w' => ∃ A' d', e = .returned (.tuple #[.slice A' L.length d', .int .i64 r]) ∧
      w'.ownsRow 0 3 1 (.slice A' L.length d') L.length (nv L) ∧ (∀ y, (Value.slice A' L.length d').ownBlock = some y → w.heap.size ≤ y) ∧ Fr w w' [] := by
  obtain ⟨j0, hj0, hj1, hj2, hj3⟩ := info_parts infoI64
  have HS := Hd.mk hS
  have HR := Hd.mk hr
  have HL := Hd.mk hL
  have hl : lens.length = n := by have := hS.len; simpa [i64s] using this
  clear hS hr hL
  go_enter Try.func37, Try.ntmps37
  go_wp2_with (fail)
  refine (rchk_any w A n c lens q HS.out r HR.out).mono ?_
  rintro e w1 ⟨rfl, rfl⟩
  by_cases hr0 : r = 0
  · subst hr0
    obtain ⟨hb, hsp⟩ := check_zero HR.out.symm
    obtain ⟨hl288, hall⟩ := bad_false hb
    have HALL := Hd.mk hall
    have HSP := Hd.mk hsp
    have hLn : L.length = n := by rw [HL.out, codes_len HR.out.symm, hl]
    clear hb hall hsp
    go_upto_region 5 with (refine wpList_make_full _ rfl _ _ 23 rfl 0 3 j0 (.int .i64 0) 1 Try.underlying23 hj0 hj1 hj2 .i64 .i64 _ _ n rfl rfl rfl rfl (by rw [hj3]; omega) (by unfold maxLen; omega) (Nat.zero_le _) ?_; intro w2 hown1 hgrow1; have O2 := Hd.mk hown1; have F2 := Hd.mk ((Fr.refl w []).grown hgrow1 (by simp)); clear hown1 hgrow1)
    have hgo : w.heap.size ≤ w.heap.size := Nat.le_refl _
    obtain ⟨go, hgoq⟩ : ∃ go, go = w.heap.size := ⟨_, rfl⟩
    rw [← hgoq] at O2 ⊢
    have hgo2 : w.heap.size ≤ go := by omega
    have O3 : Hd (w2.ownsRow 0 3 1 (.slice (some ⟨go, 0, none⟩) n n) n (nv (outL lens 1 0))) := ⟨by
      have e := toList_madeCells_one (Value.int .i64 0) (n * 1)
      have e2 : (Value.int .i64 0).cells = #[Value.int .i64 0] := rfl
      have e3 : nv (outL lens 1 0) = (madeCells (Value.int .i64 0).cells (n * 1)).toList := by
        rw [e2, e, ← outL_start, hl]
        simp [nv, i64s]
      rw [e3]
      exact O2.out⟩
    clear O2 hgo hgoq
    go_wp2
    go_loopg [6, 7, 8] 15 (fun kq xv lv nv' wr => ∃ (m nx la : Nat), xv = .int .i64 (nx : Nat) ∧ lv = .int .i64 (la : Nat) ∧ nv' = .int .i64 ((m + 1 : Nat) : Int) ∧ m + kq = 15 ∧ la ≤ 15 ∧ nx ≤ 32768 ∧ Hd (InvC lens (m + 1) 0 nx la) ∧ Hd (wr.ownsRow 0 3 1 (.slice (some ⟨go, 0, none⟩) n n) n (nv (outL lens (m + 1) 0))) ∧ Hd (Fr w wr []))
    case atStart => exact ⟨0, 0, 0, rfl, rfl, rfl, rfl, by omega, by omega, ⟨.inl ⟨rfl, rfl, by simp [firstF, cz, cnt]⟩⟩, O3, F2⟩
    case round =>
      obtain ⟨m, nx, la, rfl, rfl, rfl, hm, hla, hnx, HI, HO, HF⟩ := hrel
      obtain ⟨g0, rfl⟩ : ∃ g0 : Nat, g0 = gk := ⟨_, rfl⟩
      by_cases hm15 : m < 15
      · obtain ⟨nn, hnn⟩ : ∃ nn, nn = m + 1 := ⟨_, rfl⟩
        rw [← hnn] at HI HO ⊢
        have hn1 : 1 ≤ nn := by omega
        have hn15 : nn ≤ 15 := by omega
        have hn15i : (nn : Int) ≤ 15 := by omega
        have HNN := Hd.mk hnn
        clear hnn
        go_wp2_with (fail)
        go_loopg [6, 7, 25] n (fun kq xv lv iv wr => ∃ (i nx la : Nat), xv = .int .i64 (nx : Nat) ∧ lv = .int .i64 (la : Nat) ∧ iv = .int .i64 (i : Nat) ∧ i + kq = n ∧ la ≤ nn ∧ nx ≤ 32768 ∧ Hd (InvC lens nn i nx la) ∧ Hd (wr.ownsRow 0 3 1 (.slice (some ⟨go, 0, none⟩) n n) n (nv (outL lens nn i))) ∧ Hd (Fr w wr []))
        case atStart =>
          have hlan : la ≤ nn := by
            rcases HI.out with ⟨h1, _⟩ | ⟨_, h2, _⟩ <;> omega
          exact ⟨0, nx, la, rfl, rfl, rfl, by omega, hlan, hnx, HI, HO, HF⟩
        case round =>
          clear HI HO HF hnx
          obtain ⟨i, nx, la, rfl, rfl, rfl, hik, hla2, hnx, HI, HO, HF⟩ := hrel
          by_cases hi : i < n
          · obtain ⟨bd, off, rfl, _, hcc⟩ := (HS.out.sl.frame HF.out (by simp)) (by rw [i64s_length]; omega)
            have kd := (hcc i (by rw [i64s_length]; omega)).trans (i64s_get lens i)
            obtain ⟨x, hx⟩ : ∃ x, lens[i]? = some x := ⟨_, List.getElem?_eq_getElem (by omega)⟩
            rw [hx] at kd
            simp only [Option.map_some] at kd
            have HX : Hd (∃ h : i < lens.length, lens[i] = x) := ⟨List.getElem?_eq_some_iff.mp hx⟩
            clear hcc hx
            by_cases hxn : x = (nn : Int)
            · have g1 : (x != (nn : Int)) = false := by simp; exact hxn
              have HL2 : Hd (∃ h : i < lens.length, lens[i] = (nn : Int)) := ⟨by obtain ⟨h, e⟩ := HX.out; exact ⟨h, by rw [e, hxn]⟩⟩
              obtain ⟨hil, hie⟩ := HL2.out
              obtain ⟨p1, p2⟩ := inv_put hn1 hil hie HI.out
              obtain ⟨cd, hcd⟩ : ∃ cd, cd = firstF (cz lens) nn + cnt (lens.take i) nn := ⟨_, rfl⟩
              rw [← hcd] at p1 p2
              have hcb : cd ≤ 32768 := by
                obtain ⟨cd', c1, c2, c3, c4⟩ := code_fits HR.out.symm hil hie (by omega)
                have : 2 ^ nn ≤ 2 ^ 15 := Nat.pow_le_pow_right (by omega) (by omega)
                omega
              have P1 := Hd.mk p1
              have P2 := Hd.mk p2
              have O4 : Hd ((nv (outL lens nn i)).set i (.int .i64 (cd : Nat)) = nv (outL lens nn (i + 1))) := ⟨by
                rw [← outL_put hn1 hil hie, ← hcd]
                unfold nv i64s
                simp [List.map_set]⟩
              obtain ⟨u0, y0, f0⟩ := own_any HO.out (j := i) (by omega)
              clear hxn hil hie p1 p2 hcd
              by_cases hl0 : (la : Int) > 0
              · have e3 : Hd ((nx + 1) * 2 ^ (nn - la) = cd) := ⟨by have := P1.out; rw [if_pos (by omega)] at this; exact this⟩
                have hlan : (la : Int) ≤ (nn : Nat) := by omega
                go_upto_region 15 with (fail)
                have e4 : wrap64 (((nx : Int) + 1) * 2 ^ (nn - la)) = (cd : Nat) := by
                  rw [show ((nx : Int) + 1) * 2 ^ (nn - la) = (cd : Nat) from by rw [← e3.out]; push_cast; rfl]
                  exact wrap64_in _ (by omega)
                rw [e4]
                clear e4
                go_wp2
                go_roundg (gk - 1)
                case measure => omega
                case rel => exact ⟨i + 1, cd, nn, rfl, rfl, by go_num, by omega, Nat.le_refl _, hcb, P2, ⟨by rw [← O4.out]; exact (HO.out.stored _ _).1⟩, ⟨HF.out.setCell _ (.inr hgo2)⟩⟩
              · have e3 : nx = cd := by have := P1.out; rw [if_neg (by omega)] at this; exact this
                subst e3
                go_wp2
                go_roundg (gk - 1)
                case measure => omega
                case rel => exact ⟨i + 1, nx, nn, rfl, rfl, by go_num, by omega, Nat.le_refl _, hcb, P2, ⟨by rw [← O4.out]; exact (HO.out.stored _ _).1⟩, ⟨HF.out.setCell _ (.inr hgo2)⟩⟩
            · have g1 : (x != (nn : Int)) = true := by simp; exact hxn
              obtain ⟨hil, hie⟩ := HX.out
              have hne : lens[i] ≠ (nn : Int) := by rw [hie]; exact hxn
              have I2 := Hd.mk (inv_skip hil hne HI.out)
              have O4 : Hd (wr.ownsRow 0 3 1 (.slice (some ⟨go, 0, none⟩) n n) n (nv (outL lens nn (i + 1)))) := ⟨by rw [← outL_skip hil hne]; exact HO.out⟩
              clear hxn hil hie hne HO
              go_wp2
              go_roundg (gk - 1)
              case measure => omega
              case rel => exact ⟨i + 1, nx, la, rfl, rfl, by go_num, by omega, hla2, hnx, I2, O4, HF⟩
          · obtain rfl : i = n := by omega
            have I2 : Hd (InvC lens (nn + 1) 0 nx la) := ⟨inv_row hn1 (by rw [hl]; exact HI.out)⟩
            have O4 : Hd (wr.ownsRow 0 3 1 (.slice (some ⟨go, 0, none⟩) i i) i (nv (outL lens (nn + 1) 0))) := ⟨by rw [← outL_row, hl]; exact HO.out⟩
            clear HI HO
            have hla15 : la ≤ 15 := by omega
            go_wp2
            go_roundg (g0 - 1)
            case measure => omega
            case rel => exact ⟨nn, nx, la, rfl, rfl, by go_num, by have := HNN.out; omega, hla15, hnx, I2, O4, HF⟩
      · obtain rfl : m = 15 := by omega
        go_wp2
        go_ret2
        have h2 := HO.out
        rw [show 15 + 1 = 16 from rfl, outL_end HR.out.symm, ← HL.out] at h2
        rw [hLn]
        exact ⟨_, _, rfl, h2, (by intro y hy; cases hy; exact hgo2), HF.out⟩
  · have hne : (r != 0) = true := by simpa using hr0
    obtain rfl : L = [] := by rw [HL.out]; unfold codes; rw [if_neg (by rw [← HR.out]; exact hr0)]
    go_wp2
    go_ret2
    exact ⟨none, 0, rfl, (show w.ownsRow 0 3 1 (.slice none 0 0) 0 [] from own_nil _ _ _ _), (by intro j hj; cases hj), Fr.refl _ _⟩
end Go.Proofs.Ytncjckhcellehaa.Code
