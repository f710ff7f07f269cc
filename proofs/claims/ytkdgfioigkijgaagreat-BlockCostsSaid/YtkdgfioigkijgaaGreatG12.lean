/- Texts of this claim, one behind the other: CodeR, HeadTold, HeadShort, HeadDocA, HeadPlanC. -/
import Derived.Test.YtkdgfioigkijgaaGreatG01
import Derived.Test.YtkdgfioigkijgaaGreatG02
import Derived.Test.YtkdgfioigkijgaaGreatG03
import Derived.Test.YtkdgfioigkijgaaGreatG04
import Derived.Test.YtkdgfioigkijgaaGreatG05
import Derived.Test.YtkdgfioigkijgaaGreatG06
import Derived.Test.YtkdgfioigkijgaaGreatG07
import Derived.Test.YtkdgfioigkijgaaGreatG08
import Derived.Test.YtkdgfioigkijgaaGreatG09
import Derived.Test.YtkdgfioigkijgaaGreatG10
import Derived.Test.YtkdgfioigkijgaaGreatG11
import Derived.Deep.CutBlock
import Derived.Deep.CutRange
/- The document's Space, Check and Codes, walked. Conditions: none but the slice's. -/
set_option linter.unusedVariables false
set_option linter.unusedSimpArgs false
set_option maxRecDepth 100000
namespace Go.Proofs.YtkdgfioigkijgaaGreat.Code
open Go.RowKit Go.IntWalk Go.Proofs.YtkdgfioigkijgaaGreat.Lib Go.Proofs.YtkdgfioigkijgaaGreat.Ints

set_option maxHeartbeats 8000000 in
theorem rspc_any (w : World) (A : Option Addr) (n c : Nat) (lens : List Int) (q : Option Nat) (hS : SlArg w A n c (i64s lens) q) (v : Nat) (r : Int) (hv : v = spVal lens) (hr : r = spErr lens) :
    Calls Tryz.prog 180 #[.slice A n c] w fun e w' => e = .returned (.tuple #[.int .i64 (v : Nat), .int .i64 r]) ∧ w = w' := by
  have HR := Hd.mk hr
  have HV := Hd.mk hv
  have HS := Hd.mk hS
  have hl : lens.length = n := by have := hS.len; simpa [i64s] using this
  have HBAD : Hd (bad lens = true → v = 0 ∧ r = 50) := ⟨fun h => ⟨by rw [hv]; unfold spVal; rw [if_pos h], by rw [hr]; unfold spErr; rw [if_pos h]⟩⟩
  clear hr hv hS
  go_enter Tryz.func180, Tryz.ntmps180
  by_cases h288 : (n : Int) > 288
  · obtain ⟨rfl, rfl⟩ := HBAD.out (bad_long (by omega))
    go_wp2
    go_ret2
    exact ⟨rfl, rfl⟩
  · go_wp2
    go_loopg [4, 12] n (fun kq sv jv wr => ∃ (j s : Nat), sv = .int .i64 (s : Nat) ∧ jv = .int .i64 (j : Nat) ∧ j + kq = n ∧ s ≤ j * 16384 ∧ Hd (s = spaceR (lens.take j)) ∧ Hd (∀ (i : Nat) (hi : i < lens.length), i < j → 0 ≤ lens[i] ∧ lens[i] ≤ 15) ∧ wr = w)
    case atStart => exact ⟨0, 0, rfl, rfl, by omega, by omega, ⟨by simp [spaceR]⟩, ⟨by intro i hi h; omega⟩, rfl⟩
    case round =>
      obtain ⟨j, s, rfl, rfl, hj, hs, HSS, HP, rfl⟩ := hrel
      by_cases hjn : j < n
      · obtain ⟨bd, off, rfl, _, hcc⟩ := HS.out.sl (by rw [i64s_length]; omega)
        have kd := (hcc j (by rw [i64s_length]; omega)).trans (i64s_get lens j)
        obtain ⟨x, hx⟩ : ∃ x, lens[j]? = some x := ⟨_, List.getElem?_eq_getElem (by omega)⟩
        rw [hx] at kd
        simp only [Option.map_some] at kd
        have HX : Hd (∃ h : j < lens.length, lens[j] = x) := ⟨List.getElem?_eq_some_iff.mp hx⟩
        clear hcc hx
        by_cases hx0 : x < 0
        · obtain ⟨rfl, rfl⟩ := HBAD.out (by obtain ⟨e, he⟩ := HX.out; exact bad_at e (by omega))
          go_wp2
          go_ret2
          exact ⟨rfl, rfl⟩
        · by_cases hx1 : x > 15
          · obtain ⟨rfl, rfl⟩ := HBAD.out (by obtain ⟨e, he⟩ := HX.out; exact bad_at e (by omega))
            go_wp2
            go_ret2
            exact ⟨rfl, rfl⟩
          · have HP2 : Hd (∀ (i : Nat) (hi : i < lens.length), i < j + 1 → 0 ≤ lens[i] ∧ lens[i] ≤ 15) := ⟨by
              intro i hi hij
              by_cases e : i = j
              · subst e
                obtain ⟨e, he⟩ := HX.out
                rw [he]; omega
              · exact HP.out i hi (by omega)⟩
            have HSX : Hd (spaceR (lens.take (j + 1)) = s + (if 0 < x then 2 ^ (15 - x.toNat) else 0)) := ⟨by
              obtain ⟨e, he⟩ := HX.out
              rw [spaceR_take e, he, ← HSS.out]⟩
            obtain ⟨v0, rfl⟩ := Int.eq_ofNat_of_zero_le (show 0 ≤ x by omega)
            by_cases hxp : (v0 : Int) > 0
            · obtain ⟨z, hz⟩ : ∃ z, z = 2 ^ (15 - v0) := ⟨_, rfl⟩
              have hzb : z ≤ 16384 := by
                rw [hz]
                have : 2 ^ (15 - v0) ≤ 2 ^ 14 := Nat.pow_le_pow_right (by omega) (by omega)
                simpa using this
              have HZ := Hd.mk hz
              clear hz
              go_wp2
              have e1 : wrap64 ((2 : Int) ^ (15 - v0)) = (z : Nat) := by
                rw [show (2 : Int) ^ (15 - v0) = (z : Nat) from by rw [HZ.out]; push_cast; rfl]
                exact wrap64_in _ (by omega)
              rw [e1]
              have e2 : wrap64 ((s : Int) + (z : Nat)) = ((s + z : Nat) : Int) := by
                rw [show (s : Int) + (z : Nat) = ((s + z : Nat) : Int) from by push_cast; rfl]
                exact wrap64_in _ (by omega)
              rw [e2]
              go_roundg (gk - 1)
              case measure => omega
              case rel => exact ⟨j + 1, s + z, rfl, by go_num, by omega, by omega, ⟨by rw [HSX.out, if_pos hxp, HZ.out, Int.toNat_natCast]⟩, HP2, rfl⟩
            · go_wp2
              go_roundg (gk - 1)
              case measure => omega
              case rel => exact ⟨j + 1, s, by go_num, by go_num, by omega, by omega, ⟨by rw [HSX.out, if_neg (by omega)]; rfl⟩, HP2, rfl⟩
      · obtain rfl : j = n := by omega
        have hb : bad lens = false := bad_not (by omega) (fun i hi => HP.out i hi (by omega))
        have hall := (bad_false hb).2
        obtain rfl : r = 0 := by rw [HR.out]; unfold spErr; rw [if_neg (by rw [hb]; simp)]
        obtain rfl : v = s := by rw [HV.out, HSS.out, ← hl, List.take_length, spaceR_eq lens hall]; unfold spVal; rw [if_neg (by rw [hb]; simp)]
        clear hb hall
        go_wp2
        go_ret2
        exact ⟨rfl, rfl⟩
set_option maxHeartbeats 8000000 in
theorem rchk_any (w : World) (A : Option Addr) (n c : Nat) (lens : List Int) (q : Option Nat) (hS : SlArg w A n c (i64s lens) q) (r : Int) (hr : r = check lens) :
    Calls Tryz.prog 150 #[.slice A n c] w fun e w' => e = .returned (.int .i64 r) ∧ w = w' := by
  have HR : Hd (r = checkR lens) := ⟨by rw [checkR_eq]; exact hr⟩
  have HS := Hd.mk hS
  have hl : lens.length = n := by have := hS.len; simpa [i64s] using this
  clear hr hS
  obtain ⟨b, hb⟩ : ∃ b, b = bad lens := ⟨_, rfl⟩
  have HB := Hd.mk hb
  clear hb
  obtain ⟨sp, hsp⟩ : ∃ sp, sp = spVal lens := ⟨_, rfl⟩
  obtain ⟨er, her⟩ : ∃ er, er = spErr lens := ⟨_, rfl⟩
  have HSP := Hd.mk hsp
  have HER := Hd.mk her
  clear hsp her
  go_enter Tryz.func150, Tryz.ntmps150
  go_wp2_with (fail)
  refine (rspc_any w A n c lens q HS.out sp er HSP.out HER.out).mono ?_
  rintro e w1 ⟨rfl, rfl⟩
  cases b with
  | true =>
    obtain rfl : er = 50 := by rw [HER.out]; unfold spErr; rw [if_pos HB.out.symm]
    obtain rfl : r = 50 := by rw [HR.out]; unfold checkR; rw [if_pos HB.out.symm]
    go_wp2
    go_ret
    exact ⟨rfl, rfl⟩
  | false =>
    obtain rfl : er = 0 := by rw [HER.out]; unfold spErr; rw [if_neg (by rw [← HB.out]; simp)]
    obtain ⟨hl288, hall⟩ := bad_false HB.out.symm
    have hsp2 : sp = spaceR lens := by rw [HSP.out, spaceR_eq lens hall]; unfold spVal; rw [if_neg (by rw [← HB.out]; simp)]
    have hspb : sp ≤ 4718592 := by
      have := spaceR_le lens
      rw [hsp2]
      omega
    have HSP2 := Hd.mk hsp2
    have HALL := Hd.mk hall
    have HR2 : Hd (r = if 32768 < sp then 51 else if sp = 32768 ∨ usedR lens = 0 ∨ (usedR lens = 1 ∧ sp = 16384) then 0 else 52) := ⟨by
      rw [HR.out, hsp2]
      unfold checkR
      rw [if_neg (by rw [← HB.out]; simp)]⟩
    clear hsp2 hall HR
    by_cases h51 : 32768 < sp
    · obtain rfl : r = 51 := by rw [HR2.out, if_pos h51]
      go_wp2
      go_ret
      exact ⟨rfl, rfl⟩
    · go_wp2
      go_loopg [5, 20] n (fun kq sv jv wr => ∃ (j s : Nat), sv = .int .i64 (s : Nat) ∧ jv = .int .i64 (j : Nat) ∧ j + kq = n ∧ s ≤ j ∧ Hd (s = usedR (lens.take j)) ∧ wr = w)
      case atStart => exact ⟨0, 0, rfl, rfl, by omega, by omega, ⟨by simp [usedR]⟩, rfl⟩
      case round =>
        obtain ⟨j, s, rfl, rfl, hj, hs, HSS, rfl⟩ := hrel
        by_cases hjn : j < n
        · obtain ⟨bd, off, rfl, _, hcc⟩ := HS.out.sl (by rw [i64s_length]; omega)
          have kd := (hcc j (by rw [i64s_length]; omega)).trans (i64s_get lens j)
          obtain ⟨x, hx⟩ : ∃ x, lens[j]? = some x := ⟨_, List.getElem?_eq_getElem (by omega)⟩
          rw [hx] at kd
          simp only [Option.map_some] at kd
          have HSX : Hd (usedR (lens.take (j + 1)) = s + (if 0 < x then 1 else 0)) := ⟨by
            obtain ⟨e, he⟩ := List.getElem?_eq_some_iff.mp hx
            rw [usedR_take e, he, ← HSS.out]⟩
          clear hcc hx
          by_cases hxp : x > 0
          · go_wp2
            go_roundg (gk - 1)
            case measure => omega
            case rel => exact ⟨j + 1, s + 1, by go_num, by go_num, by omega, by omega, ⟨by rw [HSX.out, if_pos hxp]⟩, rfl⟩
          · go_wp2
            go_roundg (gk - 1)
            case measure => omega
            case rel => exact ⟨j + 1, s, by go_num, by go_num, by omega, by omega, ⟨by rw [HSX.out, if_neg (by omega)]; rfl⟩, rfl⟩
        · obtain rfl : j = n := by omega
          have HR3 : Hd (r = if sp = 32768 ∨ s = 0 ∨ (s = 1 ∧ sp = 16384) then 0 else 52) := ⟨by rw [HR2.out, if_neg h51, HSS.out, ← hl, List.take_length]⟩
          clear HR2 HSS
          by_cases hw : sp = 32768
          · obtain rfl : r = 0 := by rw [HR3.out, if_pos (.inl hw)]
            have g1 : ((sp : Int) == 32768) = true := by simp; omega
            clear hw
            go_wp2
            go_ret
            exact ⟨rfl, rfl⟩
          · have g1 : ((sp : Int) == 32768) = false := by simp; omega
            by_cases hs0 : s = 0
            · obtain rfl : r = 0 := by rw [HR3.out, if_pos (.inr (.inl hs0))]
              have g2 : ((s : Int) == 0) = true := by simp; omega
              clear hs0 hw
              go_wp2
              go_ret
              exact ⟨rfl, rfl⟩
            · have g2 : ((s : Int) == 0) = false := by simp; omega
              by_cases hs1 : s = 1
              · have g3 : ((s : Int) == 1) = true := by simp; omega
                by_cases hc : sp = 16384
                · obtain rfl : r = 0 := by rw [HR3.out, if_pos (.inr (.inr ⟨hs1, hc⟩))]
                  have g4 : ((sp : Int) == 16384) = true := by simp; omega
                  clear hs0 hw hs1 hc
                  go_wp2
                  go_ret
                  exact ⟨rfl, rfl⟩
                · obtain rfl : r = 52 := by rw [HR3.out, if_neg (by omega)]
                  have g4 : ((sp : Int) == 16384) = false := by simp; omega
                  clear hs0 hw hs1 hc
                  go_wp2
                  go_ret
                  exact ⟨rfl, rfl⟩
              · obtain rfl : r = 52 := by rw [HR3.out, if_neg (by omega)]
                have g3 : ((s : Int) == 1) = false := by simp; omega
                clear hs0 hw hs1
                go_wp2
                go_ret
                exact ⟨rfl, rfl⟩
set_option maxHeartbeats 8000000 in
theorem rcodes_any (w : World) (A : Option Addr) (n c : Nat) (lens : List Int) (q : Option Nat) (hS : SlArg w A n c (i64s lens) q) (r : Int) (L : List Nat) (hr : r = check lens) (hL : L = codes lens) :
    Calls Tryz.prog 141 #[.slice A n c] w fun e w' => ∃ A' d', e = .returned (.tuple #[.slice A' L.length d', .int .i64 r]) ∧
      w'.ownsRow 0 3 1 (.slice A' L.length d') L.length (nv L) ∧ (∀ y, (Value.slice A' L.length d').ownBlock = some y → w.heap.size ≤ y) ∧ Fr w w' [] := by
  obtain ⟨j0, hj0, hj1, hj2, hj3⟩ := info_parts infoI64
  have HS := Hd.mk hS
  have HR := Hd.mk hr
  have HL := Hd.mk hL
  have hl : lens.length = n := by have := hS.len; simpa [i64s] using this
  clear hS hr hL
  go_enter Tryz.func141, Tryz.ntmps141
  go_wp2_with (fail)
  refine (rchk_any w A n c lens q HS.out r HR.out).mono ?_
  rintro e w1 ⟨rfl, rfl⟩
  by_cases hr0 : r = 0
  · subst hr0
    obtain ⟨hb, hsp⟩ := check_zero HR.out.symm
    obtain ⟨hl288, hall⟩ := bad_false hb
    have HALL := Hd.mk hall
    have HSP := Hd.mk hsp
    have hLn : L.length = n := by rw [HL.out, codes_len HR.out.symm, hl]
    clear hb hall hsp
    go_upto_region 5 with (refine wpList_make_full _ rfl _ _ 79 rfl 0 3 j0 (.int .i64 0) 1 Tryz.underlying79 hj0 hj1 hj2 .i64 .i64 _ _ n rfl rfl rfl rfl (by rw [hj3]; omega) (by unfold maxLen; omega) (Nat.zero_le _) ?_; intro w2 hown1 hgrow1; have O2 := Hd.mk hown1; have F2 := Hd.mk ((Fr.refl w []).grown hgrow1 (by simp)); clear hown1 hgrow1)
    have hgo : w.heap.size ≤ w.heap.size := Nat.le_refl _
    obtain ⟨go, hgoq⟩ : ∃ go, go = w.heap.size := ⟨_, rfl⟩
    rw [← hgoq] at O2 ⊢
    have hgo2 : w.heap.size ≤ go := by omega
    have O3 : Hd (w2.ownsRow 0 3 1 (.slice (some ⟨go, 0, none⟩) n n) n (nv (outL lens 1 0))) := ⟨by
      have e := toList_madeCells_one (Value.int .i64 0) (n * 1)
      have e2 : (Value.int .i64 0).cells = #[Value.int .i64 0] := rfl
      have e3 : nv (outL lens 1 0) = (madeCells (Value.int .i64 0).cells (n * 1)).toList := by
        rw [e2, e, ← outL_start, hl]
        simp [nv, i64s]
      rw [e3]
      exact O2.out⟩
    clear O2 hgo hgoq
    go_wp2
    go_loopg [6, 7, 8] 15 (fun kq xv lv nv' wr => ∃ (m nx la : Nat), xv = .int .i64 (nx : Nat) ∧ lv = .int .i64 (la : Nat) ∧ nv' = .int .i64 ((m + 1 : Nat) : Int) ∧ m + kq = 15 ∧ la ≤ 15 ∧ nx ≤ 32768 ∧ Hd (InvC lens (m + 1) 0 nx la) ∧ Hd (wr.ownsRow 0 3 1 (.slice (some ⟨go, 0, none⟩) n n) n (nv (outL lens (m + 1) 0))) ∧ Hd (Fr w wr []))
    case atStart => exact ⟨0, 0, 0, rfl, rfl, rfl, rfl, by omega, by omega, ⟨.inl ⟨rfl, rfl, by simp [firstF, cz, cnt]⟩⟩, O3, F2⟩
    case round =>
      obtain ⟨m, nx, la, rfl, rfl, rfl, hm, hla, hnx, HI, HO, HF⟩ := hrel
      obtain ⟨g0, rfl⟩ : ∃ g0 : Nat, g0 = gk := ⟨_, rfl⟩
      by_cases hm15 : m < 15
      · obtain ⟨nn, hnn⟩ : ∃ nn, nn = m + 1 := ⟨_, rfl⟩
        rw [← hnn] at HI HO ⊢
        have hn1 : 1 ≤ nn := by omega
        have hn15 : nn ≤ 15 := by omega
        have hn15i : (nn : Int) ≤ 15 := by omega
        have HNN := Hd.mk hnn
        clear hnn
        go_wp2_with (fail)
        go_loopg [6, 7, 25] n (fun kq xv lv iv wr => ∃ (i nx la : Nat), xv = .int .i64 (nx : Nat) ∧ lv = .int .i64 (la : Nat) ∧ iv = .int .i64 (i : Nat) ∧ i + kq = n ∧ la ≤ nn ∧ nx ≤ 32768 ∧ Hd (InvC lens nn i nx la) ∧ Hd (wr.ownsRow 0 3 1 (.slice (some ⟨go, 0, none⟩) n n) n (nv (outL lens nn i))) ∧ Hd (Fr w wr []))
        case atStart =>
          have hlan : la ≤ nn := by
            rcases HI.out with ⟨h1, _⟩ | ⟨_, h2, _⟩ <;> omega
          exact ⟨0, nx, la, rfl, rfl, rfl, by omega, hlan, hnx, HI, HO, HF⟩
        case round =>
          clear HI HO HF hnx
          obtain ⟨i, nx, la, rfl, rfl, rfl, hik, hla2, hnx, HI, HO, HF⟩ := hrel
          by_cases hi : i < n
          · obtain ⟨bd, off, rfl, _, hcc⟩ := (HS.out.sl.frame HF.out (by simp)) (by rw [i64s_length]; omega)
            have kd := (hcc i (by rw [i64s_length]; omega)).trans (i64s_get lens i)
            obtain ⟨x, hx⟩ : ∃ x, lens[i]? = some x := ⟨_, List.getElem?_eq_getElem (by omega)⟩
            rw [hx] at kd
            simp only [Option.map_some] at kd
            have HX : Hd (∃ h : i < lens.length, lens[i] = x) := ⟨List.getElem?_eq_some_iff.mp hx⟩
            clear hcc hx
            by_cases hxn : x = (nn : Int)
            · have g1 : (x != (nn : Int)) = false := by simp; exact hxn
              have HL2 : Hd (∃ h : i < lens.length, lens[i] = (nn : Int)) := ⟨by obtain ⟨h, e⟩ := HX.out; exact ⟨h, by rw [e, hxn]⟩⟩
              obtain ⟨hil, hie⟩ := HL2.out
              obtain ⟨p1, p2⟩ := inv_put hn1 hil hie HI.out
              obtain ⟨cd, hcd⟩ : ∃ cd, cd = firstF (cz lens) nn + cnt (lens.take i) nn := ⟨_, rfl⟩
              rw [← hcd] at p1 p2
              have hcb : cd ≤ 32768 := by
                obtain ⟨cd', c1, c2, c3, c4⟩ := code_fits HR.out.symm hil hie (by omega)
                have : 2 ^ nn ≤ 2 ^ 15 := Nat.pow_le_pow_right (by omega) (by omega)
                omega
              have P1 := Hd.mk p1
              have P2 := Hd.mk p2
              have O4 : Hd ((nv (outL lens nn i)).set i (.int .i64 (cd : Nat)) = nv (outL lens nn (i + 1))) := ⟨by
                rw [← outL_put hn1 hil hie, ← hcd]
                unfold nv i64s
                simp [List.map_set]⟩
              obtain ⟨u0, y0, f0⟩ := own_any HO.out (j := i) (by omega)
              clear hxn hil hie p1 p2 hcd
              by_cases hl0 : (la : Int) > 0
              · have e3 : Hd ((nx + 1) * 2 ^ (nn - la) = cd) := ⟨by have := P1.out; rw [if_pos (by omega)] at this; exact this⟩
                have hlan : (la : Int) ≤ (nn : Nat) := by omega
                go_upto_region 15 with (fail)
                have e4 : wrap64 (((nx : Int) + 1) * 2 ^ (nn - la)) = (cd : Nat) := by
                  rw [show ((nx : Int) + 1) * 2 ^ (nn - la) = (cd : Nat) from by rw [← e3.out]; push_cast; rfl]
                  exact wrap64_in _ (by omega)
                rw [e4]
                clear e4
                go_wp2
                go_roundg (gk - 1)
                case measure => omega
                case rel => exact ⟨i + 1, cd, nn, rfl, rfl, by go_num, by omega, Nat.le_refl _, hcb, P2, ⟨by rw [← O4.out]; exact (HO.out.stored _ _).1⟩, ⟨HF.out.setCell _ (.inr hgo2)⟩⟩
              · have e3 : nx = cd := by have := P1.out; rw [if_neg (by omega)] at this; exact this
                subst e3
                go_wp2
                go_roundg (gk - 1)
                case measure => omega
                case rel => exact ⟨i + 1, nx, nn, rfl, rfl, by go_num, by omega, Nat.le_refl _, hcb, P2, ⟨by rw [← O4.out]; exact (HO.out.stored _ _).1⟩, ⟨HF.out.setCell _ (.inr hgo2)⟩⟩
            · have g1 : (x != (nn : Int)) = true := by simp; exact hxn
              obtain ⟨hil, hie⟩ := HX.out
              have hne : lens[i] ≠ (nn : Int) := by rw [hie]; exact hxn
              have I2 := Hd.mk (inv_skip hil hne HI.out)
              have O4 : Hd (wr.ownsRow 0 3 1 (.slice (some ⟨go, 0, none⟩) n n) n (nv (outL lens nn (i + 1)))) := ⟨by rw [← outL_skip hil hne]; exact HO.out⟩
              clear hxn hil hie hne HO
              go_wp2
              go_roundg (gk - 1)
              case measure => omega
              case rel => exact ⟨i + 1, nx, la, rfl, rfl, by go_num, by omega, hla2, hnx, I2, O4, HF⟩
          · obtain rfl : i = n := by omega
            have I2 : Hd (InvC lens (nn + 1) 0 nx la) := ⟨inv_row hn1 (by rw [hl]; exact HI.out)⟩
            have O4 : Hd (wr.ownsRow 0 3 1 (.slice (some ⟨go, 0, none⟩) i i) i (nv (outL lens (nn + 1) 0))) := ⟨by rw [← outL_row, hl]; exact HO.out⟩
            clear HI HO
            have hla15 : la ≤ 15 := by omega
            go_wp2
            go_roundg (g0 - 1)
            case measure => omega
            case rel => exact ⟨nn, nx, la, rfl, rfl, by go_num, by have := HNN.out; omega, hla15, hnx, I2, O4, HF⟩
      · obtain rfl : m = 15 := by omega
        go_wp2
        go_ret2
        have h2 := HO.out
        rw [show 15 + 1 = 16 from rfl, outL_end HR.out.symm, ← HL.out] at h2
        rw [hLn]
        exact ⟨_, _, rfl, h2, (by intro y hy; cases hy; exact hgo2), HF.out⟩
  · have hne : (r != 0) = true := by simpa using hr0
    obtain rfl : L = [] := by rw [HL.out]; unfold codes; rw [if_neg (by rw [← HR.out]; exact hr0)]
    go_wp2
    go_ret2
    exact ⟨none, 0, rfl, (show w.ownsRow 0 3 1 (.slice none 0 0) 0 [] from own_nil _ _ _ _), (by intro j hj; cases hj), Fr.refl _ _⟩
end Go.Proofs.YtkdgfioigkijgaaGreat.Code
/- Chapter 08: the document's Told walked. No condition. -/
set_option linter.unusedVariables false
set_option linter.unusedSimpArgs false
set_option maxRecDepth 100000
namespace Go.Proofs.YtkdgfioigkijgaaGreat.Head
open Go.RowKit Go.Proofs.YtkdgfioigkijgaaGreat.Lib Go.Proofs.YtkdgfioigkijgaaGreat.Ints Go.Proofs.YtkdgfioigkijgaaGreat.Runs
set_option maxHeartbeats 4000000 in
theorem told_any (w : World) (A B : Option Addr) (n c m d : Nat) (lit dist : List Int) (p q : Option Nat) (hX : SlArg w A n c (i64s lit) p) (hY : SlArg w B m d (i64s dist) q) (b : Bool) (hb : b = okH lit dist) :
    Calls Tryz.prog 91 #[.slice A n c, .slice B m d] w fun e w' => e = .returned (.bool b) ∧ w = w' := by
  have HX := Hd.mk hX
  have HY := Hd.mk hY
  have HB := Hd.mk hb
  have hl : lit.length = n := by have := hX.len; simpa [i64s] using this
  have hm : dist.length = m := by have := hY.len; simpa [i64s] using this
  subst hl hm
  clear hX hY hb
  by_cases hA : 257 ≤ lit.length ∧ lit.length ≤ 286 ∧ dist.length ≤ 30
  · obtain ⟨h1, h2, h3⟩ := hA
    obtain ⟨r1, hr1⟩ : ∃ r, r = Code.check lit := ⟨_, rfl⟩
    obtain ⟨r2, hr2⟩ : ∃ r, r = Code.check dist := ⟨_, rfl⟩
    have R1 := Hd.mk hr1
    have R2 := Hd.mk hr2
    clear hr1 hr2
    obtain ⟨x, hx⟩ : ∃ x, x = lit[256] := ⟨_, rfl⟩
    have HXV : Hd (lit.getD 256 0 = x) := ⟨by rw [List.getD_eq_getElem?_getD, List.getElem?_eq_getElem (by omega), hx]; rfl⟩
    obtain ⟨a, o1, rfl, _, ha⟩ := HX.out.sl (by simp [i64s]; omega)
    have ca := (ha 256 (by simp [i64s]; omega)).trans (by rw [i64s_get, List.getElem?_eq_getElem (by omega), ← hx])
    clear ha hx
    have hi : ((256 : Nat) : Int) < (lit.length : Int) := by omega
    go_enter Tryz.func91, Tryz.ntmps91
    go_wp2_with (fail)
    refine (Code.rchk_any w _ _ _ lit p HX.out r1 R1.out).mono ?_
    rintro e w1 ⟨rfl, rfl⟩
    by_cases e1 : r1 = 0
    · subst e1
      go_wp2_with (fail)
      refine (Code.rchk_any w _ _ _ dist q HY.out r2 R2.out).mono ?_
      rintro e w1 ⟨rfl, rfl⟩
      by_cases e2 : r2 = 0
      · subst e2
        by_cases e3 : x = 0
        · subst e3
          have hbf : b = false := by rw [HB.out]; unfold okH; exact decide_eq_false (fun h => h.2.2.2.2.2 HXV.out)
          subst hbf
          go_wp2
          go_ret
          exact ⟨rfl, rfl⟩
        · have e4 : (x != 0) = true := by simpa using e3
          have hbt : b = true := by rw [HB.out]; unfold okH; exact decide_eq_true ⟨h1, h2, h3, R1.out.symm, R2.out.symm, by rw [HXV.out]; exact e3⟩
          subst hbt
          go_wp2
          go_ret
          exact ⟨rfl, rfl⟩
      · have e4 : (r2 == 0) = false := by simpa using e2
        have hbf : b = false := by rw [HB.out]; unfold okH; exact decide_eq_false (fun h => e2 (by rw [R2.out]; exact h.2.2.2.2.1))
        subst hbf
        go_wp2
        go_ret
        exact ⟨rfl, rfl⟩
    · have e4 : (r1 == 0) = false := by simpa using e1
      have hbf : b = false := by rw [HB.out]; unfold okH; exact decide_eq_false (fun h => e1 (by rw [R1.out]; exact h.2.2.2.1))
      subst hbf
      go_wp2
      go_ret
      exact ⟨rfl, rfl⟩
  · have hbf : b = false := by rw [HB.out]; unfold okH; exact decide_eq_false (fun h => hA ⟨h.1, h.2.1, h.2.2.1⟩)
    subst hbf
    go_enter Tryz.func91, Tryz.ntmps91
    by_cases g1 : lit.length ≤ 256
    · have g1' : (lit.length : Int) ≤ 256 := by omega
      go_wp2
      go_ret
      exact ⟨rfl, rfl⟩
    · have g1' : ¬ (lit.length : Int) ≤ 256 := by omega
      by_cases g2 : 286 < lit.length
      · have g2' : (286 : Int) < (lit.length : Int) := by omega
        go_wp2
        go_ret
        exact ⟨rfl, rfl⟩
      · have g2' : ¬ (286 : Int) < (lit.length : Int) := by omega
        have g3' : (30 : Int) < (dist.length : Int) := by omega
        go_wp2
        go_ret
        exact ⟨rfl, rfl⟩
end Go.Proofs.YtkdgfioigkijgaaGreat.Head
/- Chapter 08: the document's short walked. Conditions: at most 2^20 lengths. -/
set_option linter.unusedVariables false
set_option linter.unusedSimpArgs false
set_option maxRecDepth 100000
namespace Go.Proofs.YtkdgfioigkijgaaGreat.Head
open Go.RowKit Go.Proofs.YtkdgfioigkijgaaGreat.Lib Go.Proofs.YtkdgfioigkijgaaGreat.Ints Go.Proofs.YtkdgfioigkijgaaGreat.Runs
def stripN (l : List Int) : Nat → Nat
  | 0 => 0
  | n + 1 => if l.getD n 0 = 0 then stripN l n else n + 1
theorem stripN_le (l : List Int) : ∀ n, stripN l n ≤ n
  | 0 => Nat.le_refl 0
  | n + 1 => by
    rw [stripN]
    split
    · exact Nat.le_trans (stripN_le l n) (Nat.le_succ n)
    · exact Nat.le_refl _
def shortL (l : List Int) (k : Nat) : List Int := l.take (stripN l l.length) ++ List.replicate (k - stripN l l.length) 0
theorem short_cut (l : List Int) (k : Nat) : ∀ n, n ≤ l.length → k ≤ n → l.take (stripN l n) ++ List.replicate (k - stripN l n) 0 = l.take (cutN l k n)
  | 0, _, hk => by simp [stripN, cutN]; omega
  | n + 1, hn, hk => by
    rw [stripN, cutN]
    by_cases h0 : l.getD n 0 = 0
    · rw [if_pos h0]
      by_cases hk2 : k < n + 1
      · rw [if_pos ⟨hk2, h0⟩]
        exact short_cut l k n (by omega) (by omega)
      · rw [if_neg (fun h => hk2 h.1)]
        obtain rfl : k = n + 1 := by omega
        have ih := short_cut l n n (by omega) (Nat.le_refl n)
        have hc : cutN l n n = n := by
          cases n with
          | zero => rfl
          | succ n => rw [cutN, if_neg (fun h => Nat.lt_irrefl _ h.1)]
        have hs := stripN_le l n
        rw [hc] at ih
        have e : l.take (n + 1) = l.take n ++ [0] := by
          rw [List.take_succ_eq_append_getElem (by omega)]
          congr 2
          rw [List.getD_eq_getElem?_getD, List.getElem?_eq_getElem (by omega)] at h0
          simpa using h0
        rw [e, ← ih, show n + 1 - stripN l n = (n - stripN l n) + 1 from by omega, List.replicate_succ', List.append_assoc]
    · rw [if_neg h0, if_neg (fun h => h0 h.2), show k - (n + 1) = 0 from by omega]
      simp
theorem short_lit {l : List Int} (h : 257 ≤ l.length) : shortL l 257 = cutL l 257 := short_cut l 257 l.length (Nat.le_refl _) h
theorem short_dist (l : List Int) : shortL l 1 = distL l := by
  unfold distL
  by_cases h : 1 ≤ l.length
  · have e := short_cut l 1 l.length (Nat.le_refl _) h
    have hc : 1 ≤ cutN l 1 l.length := cutN_ge l 1 l.length h
    rw [if_neg (by unfold cutL; rw [List.length_take]; omega)]
    exact e
  · have : l = [] := List.length_eq_zero_iff.1 (by omega)
    subst this
    rfl
end Go.Proofs.YtkdgfioigkijgaaGreat.Head
/- Chapter 08: the document's short, order and more walked. Conditions: at most 2^20 lengths. -/
set_option linter.unusedVariables false
set_option linter.unusedSimpArgs false
set_option maxRecDepth 100000
namespace Go.Proofs.YtkdgfioigkijgaaGreat.Head
open Go.RowKit Go.Proofs.YtkdgfioigkijgaaGreat.Lib Go.Proofs.YtkdgfioigkijgaaGreat.Ints Go.Proofs.YtkdgfioigkijgaaGreat.Runs
set_option maxHeartbeats 4000000 in
theorem short_any (w : World) (A : Option Addr) (n c : Nat) (l : List Int) (p : Option Nat) (hX : SlArg w A n c (i64s l) p) (k : Nat) (hk : k ≤ 1048576) (hn1 : n ≤ 1048576) (m : Nat) (hm : m = (shortL l k).length) :
    Calls Tryz.prog 92 #[.slice A n c, .int .i64 (k : Nat)] w fun e w' => ∃ A' d, e = .returned (.slice A' m d) ∧ w'.ownsRow 0 3 1 (.slice A' m d) m (i64s (shortL l k)) ∧ (∀ j, (Value.slice A' m d).ownBlock = some j → w.heap.size ≤ j) ∧ Fr w w' [] := by
  obtain ⟨i0, hi0, hz0, hz1, hz2⟩ := info_parts infoI64
  have HX := Hd.mk hX
  have hn2 := hX.le
  have hn3 := hX.max
  have HA := Hd.mk hX.nil
  unfold maxLen at hn3
  have HM := Hd.mk hm
  have hl : l.length = n := by have := hX.len; simpa [i64s] using this
  subst hl
  obtain ⟨s, hs⟩ : ∃ s, s = stripN l l.length := ⟨_, rfl⟩
  have HS := Hd.mk hs
  have hsl : s ≤ l.length := by rw [hs]; exact stripN_le _ _
  clear hX hs hm
  go_enter Tryz.func92, Tryz.ntmps92
  go_upto_block 0 with (fail)
  go_cut [5] from 9 to 20 (fun s5 wd => s5 = .int .i64 (s : Nat) ∧ w = wd)
  case first =>
    go_wp2_with (fail)
    go_loopg [5] l.length (fun kq jv wr => ∃ j : Nat, jv = .int .i64 (j : Nat) ∧ j = kq ∧ j ≤ l.length ∧ Hd (stripN l j = s) ∧ wr = w)
    case atStart => exact ⟨l.length, rfl, rfl, Nat.le_refl _, ⟨HS.out.symm⟩, rfl⟩
    case round =>
      obtain ⟨j, rfl, rfl, hj, HE, rfl⟩ := hrel
      match j, hj, HE with
      | 0, hj, HE =>
        obtain rfl : s = 0 := HE.out.symm
        go_wp2
        go_meet
        case rel => exact ⟨rfl, rfl⟩
      | j + 1, hj, HE =>
        obtain ⟨x, hx⟩ : ∃ x, x = l[j] := ⟨_, rfl⟩
        have HXV : Hd (l.getD j 0 = x) := ⟨by rw [List.getD_eq_getElem?_getD, List.getElem?_eq_getElem (by omega), hx]; rfl⟩
        obtain ⟨a, o1, rfl, _, ha⟩ := HX.out.sl (by simp [i64s]; omega)
        have ca := (ha j (by simp [i64s]; omega)).trans (by rw [i64s_get, List.getElem?_eq_getElem (by omega), ← hx])
        clear ha hx
        have hp : (0 : Int) < ((j + 1 : Nat) : Int) := by omega
        have hi : (j : Int) < (l.length : Int) := by omega
        by_cases h0 : x = 0
        · subst h0
          have HN : Hd (stripN l j = s) := ⟨by rw [← HE.out, stripN, if_pos HXV.out]⟩
          clear HE
          go_wp2
          go_roundg j
          case measure => omega
          case rel => exact ⟨j, by go_num, by omega, by omega, HN, rfl⟩
        · have hN : s = j + 1 := by rw [← HE.out, stripN, if_neg (by rw [HXV.out]; exact h0)]
          subst hN
          have h0' : (x == 0) = false := by simpa using h0
          clear HE
          go_wp2
          go_meet
          case rel => exact ⟨rfl, rfl⟩
  case rest =>
    obtain ⟨rfl, rfl⟩ := hcut
    have hs1 := Lens.run_cut_to (P := Tryz.prog) 79 3 .i64 Tryz.underlying79 hi0 1 hz1 A l.length c s (fun h => (HA.out h).2) (by omega)
    have XS : Hd (Sl (w.alloc (.cells #[] 3)) A (i64s (l.take s)) p) := ⟨by have := (HX.out.sl.take s).alloc (.cells #[] 3); simpa [i64s, List.map_take] using this⟩
    have hlt : (l.take s).length = s := by rw [List.length_take]; omega
    have HLT := Hd.mk hlt
    have NS : Hd (A = none → s = 0 ∧ c = 0) := ⟨fun h => by have := HA.out h; omega⟩
    have F1 : Hd (Fr w (w.alloc (.cells #[] 3)) []) := ⟨(Fr.refl w []).alloc _⟩
    have OZ : Hd ((w.alloc (.cells #[] 3)).ownsRow 0 3 1 (.slice (some ⟨w.heap.size, 0, none⟩) 0 0) 0 []) := ⟨World.ownsRow_lit w #[] 0 (Nat.zero_le _) (Nat.zero_le _) rfl⟩
    clear hlt
    go_wp2_with (at_builtin; refine wpList_append_sl rfl (.tmp 21) (.tmp 24) 79 rfl 3 i0 (.int .i64 0) 1 8 Tryz.underlying79 hi0 hz0 hz1 hz2 rfl (by decide) (.slice (some ⟨w.heap.size, 0, none⟩) 0 0) 0 [] rfl (by exact OZ.out) A s c (i64s (l.take s)) p rfl (by rw [i64s_length, HLT.out, Nat.mul_one]) (by exact XS.out) NS.out (i64s_one _) (by unfold maxLen; omega) (by omega) ?_; intro A3 c3 w3 hown3 hgrow3 haft3; rw [Nat.zero_add, List.nil_append] at hown3; rw [Nat.zero_add] at haft3; have O3 := Hd.mk hown3; have G3 := Hd.mk hgrow3; have AF3 := Hd.mk haft3; clear hown3 hgrow3 haft3; rw [Nat.zero_add])
    have F3 : Hd (Fr w w3 []) := ⟨F1.out.grown G3.out (fun k hk => .inr (by simp [Value.ownBlock] at hk; omega))⟩
    have N3 : Hd (∀ y, (Value.slice A3 s c3).ownBlock = some y → w.heap.size ≤ y) := ⟨fun y hy => by
      rcases AF3.out with e | ⟨z, e, hz⟩
      · rw [e] at hy; simp [Value.ownBlock] at hy; omega
      · rw [e] at hy; cases hy; rw [World.size_alloc] at hz; omega⟩
    clear G3 AF3 F1 OZ XS NS hs1
    go_loopg [6] (k - s) (fun kq ov wr => ∃ (i : Nat) (A' : Option Addr) (d : Nat), ov = .slice A' (s + i) d ∧ i + kq = k - s ∧ Hd (wr.ownsRow 0 3 1 (.slice A' (s + i) d) (s + i) (i64s (l.take s ++ List.replicate i 0))) ∧ Hd (∀ y, (Value.slice A' (s + i) d).ownBlock = some y → w.heap.size ≤ y) ∧ Hd (Fr w wr []))
    case atStart => exact ⟨0, A3, c3, rfl, by omega, ⟨by simpa using O3.out⟩, N3, F3⟩
    case round =>
      obtain ⟨i, A4, d, rfl, hi, HO, HN, HF⟩ := hrel
      by_cases hlt : i < k - s
      · have ht : ((s + i : Nat) : Int) < (k : Int) := by omega
        go_wp2_with (at_builtin; refine wpList_append_sl rfl (.tmp 30) (.tmp 31) 79 rfl 3 i0 (.int .i64 0) 1 8 Tryz.underlying79 hi0 hz0 hz1 hz2 rfl (by decide) (.slice A4 (s + i) d) (s + i) _ rfl (by exact HO.out.alloc _) (some ⟨wr.heap.size, 0, none⟩) 1 1 [.int .i64 0] (some wr.heap.size) rfl rfl (by exact sl_of_blk (blk_new _ _)) (by intro h; cases h) (by intro u hu; simp at hu; subst hu; rfl) (by unfold maxLen; omega) (by omega) ?_; intro A5 c5 w5 hown5 hgrow5 haft5; have O5 := Hd.mk hown5; have G5 := Hd.mk hgrow5; have AF5 := Hd.mk haft5; clear hown5 hgrow5 haft5)
        go_roundg (gk - 1)
        case measure => omega
        case rel =>
          refine ⟨i + 1, A5, c5, rfl, by omega, ⟨?_⟩, ⟨fun y hy => ?_⟩, ⟨(HF.out.alloc _).grown G5.out (fun y hy => .inr (HN.out y hy))⟩⟩
          · have h := O5.out
            rw [List.replicate_succ', ← List.append_assoc, i64s_app _ [0]]
            exact h
          · rw [← Nat.add_assoc] at hy
            rcases AF5.out with e | ⟨z, e, hz⟩
            · rw [e] at hy; exact HN.out y hy
            · rw [e] at hy; cases hy; rw [World.size_alloc] at hz; have := HF.out.size; omega
      · obtain rfl : i = k - s := by omega
        have hmm : m = s + (k - s) := by rw [HM.out, shortL, ← HS.out, List.length_append, HLT.out, List.length_replicate]
        subst hmm
        have ht : ¬ ((s + (k - s) : Nat) : Int) < (k : Int) := by omega
        go_wp2
        go_ret
        exact ⟨A4, d, rfl, by rw [shortL, ← HS.out]; exact HO.out, HN.out, HF.out⟩
theorem rorder_any (w : World) : Calls Tryz.prog 94 #[] w fun e w' => ∃ g, e = .returned (.slice (some ⟨g, 0, none⟩) 19 19) ∧ w'.heap[g]? = some (.cells ordC 3 (0, 0)) ∧ w.heap.size ≤ g ∧ Fr w w' [] := by
  go_enter Tryz.func94, Tryz.ntmps94
  go_wp2
  go_ret
  exact ⟨w.heap.size, rfl, blk_new w (.cells ordC 3), Nat.le_refl _, (Fr.refl w []).alloc _⟩
theorem rleast_any (w : World) (s L : Int) (h1 : s ≤ 18) (hL : L = leastN s) : Calls Tryz.prog 95 #[.int .i64 s] w fun e w' => e = .returned (.int .i64 L) ∧ w = w' := by
  rw [hL]; exact least_any w s h1
theorem rmore_any (w : World) (s : Int) (h0 : 0 ≤ s) (h1 : s ≤ 18) (L : Int) (hL : L = kbits s) : Calls Tryz.prog 96 #[.int .i64 s] w fun e w' => e = .returned (.int .i64 L) ∧ w = w' := by
  have hc : s < 16 ∨ s = 16 ∨ s = 17 ∨ s = 18 := by omega
  rcases hc with h | rfl | rfl | rfl
  · have e1 : (s == 16) = false := by simp; omega
    have e2 : (s == 17) = false := by simp; omega
    have e3 : (s == 18) = false := by simp; omega
    have : L = 0 := by rw [hL]; unfold kbits; rw [if_pos h]
    subst this
    clear hL
    go_enter Tryz.func96, Tryz.ntmps96
    go_wp2
    go_ret
    exact ⟨rfl, rfl⟩
  · obtain rfl : L = 2 := hL.trans (by decide)
    clear hL
    go_enter Tryz.func96, Tryz.ntmps96
    go_wp2
    go_ret
    exact ⟨rfl, rfl⟩
  · obtain rfl : L = 3 := hL.trans (by decide)
    clear hL
    go_enter Tryz.func96, Tryz.ntmps96
    go_wp2
    go_ret
    exact ⟨rfl, rfl⟩
  · obtain rfl : L = 7 := hL.trans (by decide)
    clear hL
    go_enter Tryz.func96, Tryz.ntmps96
    go_wp2
    go_ret
    exact ⟨rfl, rfl⟩
end Go.Proofs.YtkdgfioigkijgaaGreat.Head
/- Chapter 08: newPlan walked. No condition. -/
set_option linter.unusedVariables false
set_option linter.unusedSimpArgs false
set_option maxRecDepth 100000
namespace Go.Proofs.YtkdgfioigkijgaaGreat.Head
open Go.RowKit Go.Proofs.YtkdgfioigkijgaaGreat.Lib Go.Proofs.YtkdgfioigkijgaaGreat.Ints Go.Proofs.YtkdgfioigkijgaaGreat.Runs
/-- a plan: how many are told of both, the runs, the lengths of their code -/
structure Plan (w0 w : World) (lit dist : List Int) (A : Option Addr) (n c : Nat) (B : Option Addr) (d : Nat) : Prop where
  runs : w.ownsRow 0 297 2 (.slice A n c) n (cells (hruns lit dist))
  lens : w.ownsRow 0 3 1 (.slice B 19 d) 19 (i64s (hlens (hruns lit dist)))
  newA : ∀ k, (Value.slice A n c).ownBlock = some k → w0.heap.size ≤ k
  newB : ∀ k, (Value.slice B 19 d).ownBlock = some k → w0.heap.size ≤ k
theorem Plan.frame {w0 w w' : World} {lit dist : List Int} {A B : Option Addr} {n c d : Nat} (h : Plan w0 w lit dist A n c B d) (hf : Fr w w' []) : Plan w0 w' lit dist A n c B d :=
  ⟨own_frame h.runs hf (by simp), own_frame h.lens hf (by simp), h.newA, h.newB⟩
def planC (lit dist : List Int) (A : Option Addr) (n c : Nat) (B : Option Addr) (d : Nat) : Array Value :=
  #[.int .i64 ((cutL lit 257).length : Nat), .int .i64 ((distL dist).length : Nat), .slice A n c, .slice B 19 d, .int .i64 (toldN (hlens (hruns lit dist)) 19 : Nat)]
def noPlan : Array Value := #[.int .i64 0, .int .i64 0, .slice none 0 0, .slice none 0 0, .int .i64 0]
def PlanPost (w : World) (lit dist : List Int) (e : Ending) (w' : World) : Prop :=
  (okH lit dist = true → ∃ A n c B d, e = .returned (.tuple #[.agg (planC lit dist A n c B d), .int .i64 0]) ∧ Plan w w' lit dist A n c B d ∧ Fr w w' []) ∧
  (okH lit dist = false → e = .returned (.tuple #[.agg noPlan, .int .i64 80]) ∧ Fr w w' [])
theorem planInfo : (Tryz.prog.info? 307).map (·.size) = some 5 := by kernel_rfl
theorem results_pt {fn : Func} {p q : Tmp} (h : fn.results = #[.cell p 307, .tmp q]) (tmps : Array Value) (w : World) (g : Nat) (cs : Array Value)
    (hp : tmps.getD p undef = .pointer (some ⟨g, 0, none⟩)) (hg : w.heap[g]? = some (.cells cs 307 (0, 0))) (hc : cs.size = 5) (v : Value) (hv : tmps.getD q undef = v) :
    (results fn tmps).run Tryz.prog w = .ok (.tuple #[.agg cs, v]) w := by
  have hp' : tmps[p]?.getD undef = .pointer (some ⟨g, 0, none⟩) := by simpa using hp
  have hv' : tmps[q]?.getD undef = v := by simpa using hv
  simp [results, h, hp', hv', asAddr, run_loadVar_row w g 307 307 cs _ _ hg Tryz.underlying307 rfl (by rw [hc]; exact planInfo)]
set_option maxHeartbeats 8000000 in
theorem newPlan_any (w : World) (A B : Option Addr) (n c m d : Nat) (lit dist : List Int) (p q : Option Nat) (hX : SlArg w A n c (i64s lit) p) (hY : SlArg w B m d (i64s dist) q) :
    Calls Tryz.prog 177 #[.slice A n c, .slice B m d] w (PlanPost w lit dist) := by
  obtain ⟨j0, hj0, hj1, hj2, hj3⟩ := info_parts infoI64
  have hn : lit.length = n := by have := hX.len; simpa [i64s] using this
  have hm : dist.length = m := by have := hY.len; simpa [i64s] using this
  have HX := Hd.mk hX
  have HY := Hd.mk hY
  clear hX hY
  obtain ⟨b, hb⟩ : ∃ b, b = okH lit dist := ⟨_, rfl⟩
  have HB := Hd.mk hb
  go_enter Tryz.func177, Tryz.ntmps177
  go_wp2_with (fail)
  have A0 := (Fr.refl w []).alloc (.cells noPlan 307)
  have K0 := Hd.mk (blk_new w (.cells noPlan 307))
  refine (can_any (w.alloc (.cells noPlan 307)) A B n c m d lit dist p q (HX.out.frame A0 (by simp)) (HY.out.frame A0 (by simp)) b hb).mono ?_
  rintro e w1 ⟨rfl, h1⟩
  have K1 := Hd.mk (h1.blk K0.out (by simp))
  have F1 := Hd.mk (A0.trans h1 (by simp))
  have hg0 : w.heap.size ≤ w.heap.size := Nat.le_refl _
  obtain ⟨g, hg⟩ : ∃ g, g = w.heap.size := ⟨_, rfl⟩
  rw [← hg] at K1 hg0 ⊢
  have hgw : w.heap.size ≤ g := by omega
  clear K0 A0 h1 hg hb hg0
  cases b with
  | false =>
    go_wp2_with (refine wpList_store_row rfl 307 _ _ rfl g noPlan rfl rfl 307 _ (by exact K1.out) (by kernel_rfl) (by kernel_rfl) (by kernel_rfl) ?_)
    refine bodyPost_ret (results_pt rfl _ _ g noPlan rfl (setRow_heap _ _ _ _ _ _ K1.out) rfl _ rfl) rfl ?_
    exact ⟨fun h => absurd h (by rw [← HB.out]; decide), fun _ => ⟨rfl, Code.Fr.setRow F1.out _ (.inr hgw)⟩⟩
  | true =>
    obtain ⟨o1, o2, o3, o4, o5, o6⟩ := okH_parts HB.out.symm
    obtain ⟨a1, a2, a3, a4⟩ := allL_ok HB.out.symm
    have HV := Hd.mk a1
    obtain ⟨r1, r2, r3⟩ := hruns_ok HB.out.symm
    have HR := Hd.mk (And.intro r1 r3)
    obtain ⟨ka, hka⟩ : ∃ k, k = cutN lit 257 n := ⟨_, rfl⟩
    obtain ⟨kb, hkb⟩ : ∃ k, k = cutN dist 1 m := ⟨_, rfl⟩
    have KA := Hd.mk hka
    have KB := Hd.mk hkb
    clear a1 o4 o5 o6 r1 r3 hka hkb
    go_wp2_with (fail)
    refine (cut_any w1 A n c lit p (HX.out.frame F1.out (by simp)) 257 (by omega) ka KA.out).mono ?_
    rintro e w2 ⟨rfl, rfl⟩
    go_wp2_with (fail)
    refine (cut_any w1 B m d dist q (HY.out.frame F1.out (by simp)) 1 (by omega) kb KB.out).mono ?_
    rintro e w2 ⟨rfl, rfl⟩
    have la : (cutL lit 257).length = ka := by rw [cutL_len, hn, KA.out]
    have lb : (cutL dist 1).length = kb := by rw [cutL_len, hm, KB.out]
    have hkan : ka ≤ n := by rw [KA.out]; exact cutN_le _ _ _
    have hkbm : kb ≤ m := by rw [KB.out]; exact cutN_le _ _ _
    have XA : Hd (Sl w1 A (i64s (cutL lit 257)) p) := ⟨by have := (HX.out.sl.frame F1.out (by simp)).take ka; unfold cutL; rw [hn, ← KA.out]; simpa [i64s, List.map_take] using this⟩
    have XB : Hd (Sl w1 B (i64s (cutL dist 1)) q) := ⟨by have := (HY.out.sl.frame F1.out (by simp)).take kb; unfold cutL; rw [hm, ← KB.out]; simpa [i64s, List.map_take] using this⟩
    have NA : Hd (A = none → n = 0 ∧ c = 0) := ⟨HX.out.nil⟩
    have NB : Hd (B = none → m = 0 ∧ d = 0) := ⟨HY.out.nil⟩
    obtain ⟨kd, hkd⟩ : ∃ k, k = (distL dist).length := ⟨_, rfl⟩
    have hkd2 := distL_len dist (by omega)
    rw [← hkd] at hkd2
    have HKD : Hd (distL dist = if kb = 0 then [0] else cutL dist 1) := ⟨by unfold distL; rw [lb]⟩
    go_upto_if 30 with (fail)
    go_cut [7] from 31 to 36 (fun s7 wc => ∃ (B' : Option Addr) (d' : Nat) (q' : Option Nat), s7 = .slice B' kd d' ∧ Hd (Sl wc B' (i64s (distL dist)) q') ∧ Hd (B' = none → kd = 0 ∧ d' = 0) ∧ Hd (Fr w1 wc []))
    case first =>
      by_cases h0 : kb = 0
      · have hz : distL dist = [0] := by rw [HKD.out, if_pos h0]
        have HZ := Hd.mk hz
        obtain rfl : kd = 1 := by rw [hkd, hz]; rfl
        have hkb0 : ((kb : Int) == 0) = true := by simp; omega
        clear hz hkd HX XA NA
        go_wp2
        go_meet
        case rel => exact ⟨_, 1, some w1.heap.size, rfl, ⟨by rw [HZ.out]; exact sl_of_blk (blk_new w1 _)⟩, ⟨fun h => by cases h⟩, ⟨(Fr.refl w1 []).alloc _⟩⟩
      · have hz : distL dist = cutL dist 1 := by rw [HKD.out, if_neg h0]
        obtain rfl : kd = kb := by rw [hkd, hz, lb]
        have HZ := Hd.mk hz
        have hkb0 : ((kd : Int) == 0) = false := by simp; omega
        clear hz hkd HX XA NA
        go_wp2
        go_meet
        case rel => exact ⟨B, d, q, rfl, ⟨by rw [HZ.out]; exact XB.out⟩, ⟨fun h => by have := NB.out h; omega⟩, ⟨Fr.refl w1 []⟩⟩
    case rest =>
      obtain ⟨B', d', q', rfl, XB2, NB2, FC⟩ := hcut
      have F2 := Hd.mk (F1.out.trans FC.out (by simp))
      have K2 := Hd.mk (FC.out.blk K1.out (by simp))
      have XA2 := Hd.mk (XA.out.frame FC.out (by simp))
      have HKL : Hd (distL dist = distL dist ∧ kd = (distL dist).length) := ⟨⟨rfl, hkd⟩⟩
      have HLA : Hd ((cutL lit 257).length = ka) := ⟨la⟩
      have HAD : Hd (allL lit dist = cutL lit 257 ++ distL dist) := ⟨rfl⟩
      have hka2 : ka ≤ 286 := by omega
      clear FC XA XB HY HKD KA KB NB K1 F1 la lb hkd a3 a4
      go_wp2_with (first
        | (at_builtin; refine wpList_append_sl rfl (.const (.slice none 0 0)) (.tmp 32) 79 rfl 3 j0 (.int .i64 0) 1 8 Tryz.underlying79 hj0 hj1 hj2 hj3 rfl (by decide) (.slice none 0 0) 0 [] rfl (own_nil _ _ _ _) A ka c _ _ rfl (by rw [i64s_length, HLA.out]; omega) XA2.out (by intro h; have := NA.out h; omega) (i64s_one _) (by unfold maxLen; omega) (by omega) ?_; intro A3 c3 w3 hown3 hgrow3 haft3; rw [Nat.zero_add] at hown3 haft3; have O3 := Hd.mk hown3; have G3 := Hd.mk hgrow3; have AF3 := Hd.mk haft3; clear hown3 hgrow3 haft3; rw [Nat.zero_add])
        | (at_builtin; refine wpList_append_sl rfl (.tmp 33) (.tmp 34) 79 rfl 3 j0 (.int .i64 0) 1 8 Tryz.underlying79 hj0 hj1 hj2 hj3 rfl (by decide) (.slice A3 ka c3) ka _ rfl O3.out B' kd d' (i64s (distL dist)) q' rfl (by rw [i64s_length, HKL.out.2]; omega) (XB2.out.frame ((Fr.refl wc []).grown G3.out (fun k hk => by simp [Value.ownBlock] at hk)) (by simp)) NB2.out (i64s_one _) (by unfold maxLen; omega) (by omega) ?_; intro A4 c4 w4 hown4 hgrow4 haft4; have O4 := Hd.mk hown4; have G4 := Hd.mk hgrow4; have AF4 := Hd.mk haft4; clear hown4 hgrow4 haft4))
      have B3 : ∀ k, (Value.slice A3 ka c3).ownBlock = some k → wc.heap.size ≤ k := fun k hk => by
        rcases AF3.out with e | ⟨j, e, hj⟩
        · rw [hk] at e; simp [Value.ownBlock] at e
        · rw [hk] at e; cases e; exact hj
      have K3 := blk_grown G3.out K2.out (by simp [Value.ownBlock])
      have K4 := Hd.mk (blk_grown G4.out K3 (own_ne O3.out K3 (by decide)).symm)
      have F4 : Hd (Fr w w4 []) := ⟨(F2.out.grown G3.out (fun k hk => by simp [Value.ownBlock] at hk)).grown G4.out (fun k hk => .inr (by have := B3 k hk; have := F2.out.size; omega))⟩
      have L4 : Hd (allL lit dist = allL lit dist ∧ ka + kd = (allL lit dist).length) := ⟨rfl, by unfold allL; rw [List.length_append, HLA.out, HKL.out.2]⟩
      have S4 : Hd (SlArg w4 A4 (ka + kd) c4 (i64s (allL lit dist)) (Value.slice A4 (ka + kd) c4).ownBlock) := ⟨by
        have h1 := O4.out
        rw [List.nil_append, ← i64s_app, ← HAD.out] at h1
        obtain ⟨A', c', e1, h2, h3, _⟩ := own_slice h1
        injection e1 with e1 _ e3
        subst e1 e3
        exact ⟨by have := h1.1; omega, h2, h3, fun hA => own_none h1 hA, sl_of_own h1, fun b hb => own_lt h1 hb⟩⟩
      have hkd3 : 1 ≤ kd ∧ kd ≤ 30 := hkd2
      clear B3 K3 K2 F2 O3 G3 AF3 O4 G4 AF4 XA2 XB2 NB2 HX NA HAD
      refine (runs_any w4 A4 (ka + kd) c4 (allL lit dist) _ L4.out.2.symm S4.out.le S4.out.sl S4.out.nil (by omega) 0 (hruns lit dist) (by rw [HR.out.2]; rfl) (by rw [HR.out.2]; rfl)).mono ?_
      rintro e w5 ⟨A5, n5, c5, rfl, h1, h2, h3⟩
      have hn5 : n5 = (hruns lit dist).length := by have := h1.1; rw [cells_len] at this; omega
      have O5 := Hd.mk h1
      have NW5 : Hd (∀ k, (Value.slice A5 n5 c5).ownBlock = some k → w.heap.size ≤ k) := ⟨fun k hk => by have := h2 k hk; have := F4.out.size; omega⟩
      have F5 := Hd.mk (F4.out.trans h3 (by simp))
      have K5 := Hd.mk (h3.blk K4.out (by simp))
      clear h1 h2 h3 S4 K4 F4 L4
      obtain ⟨rs, hrs⟩ : ∃ rs, rs = hruns lit dist := ⟨_, rfl⟩
      rw [← hrs] at O5 HR r2 hn5
      have HRS := Hd.mk hrs
      clear hrs
      go_upto_region 9 with (fail)
      rw [freq_zero]
      have Z0 := Hd.mk (blk_new w5 (.cells (i64s (freqOf [])).toArray 294))
      have A6 := (Fr.refl w5 []).alloc (.cells (i64s (freqOf [])).toArray 294)
      have O6 := Hd.mk (own_frame O5.out A6 (by simp))
      have F6 := Hd.mk (F5.out.trans A6 (by simp))
      have K6 := Hd.mk (A6.blk K5.out (by simp))
      have hgf : w.heap.size ≤ w5.heap.size := F5.out.size
      generalize w5.alloc (.cells (i64s (freqOf [])).toArray 294) = w6 at *
      generalize w5.heap.size = gf at *
      clear A6 O5 F5 K5
      have hnA : Hd (∀ k, (Value.slice A5 n5 c5).ownBlock = some k → k ≠ gf) := ⟨fun k hk => by
        obtain ⟨cs, hcs⟩ := own_type O6.out hk
        exact blk_ne hcs Z0.out (by decide)⟩
      have hgg : g ≠ gf := blk_ne K6.out Z0.out (by decide)
      go_wp2
      go_loopg [43] n5 (fun kq jv wr => ∃ j : Nat, jv = .int .i64 (j : Nat) ∧ j + kq = n5 ∧ Hd (wr.heap[gf]? = some (.cells (i64s (freqOf (rs.take j))).toArray 294 (0, 0))) ∧ Hd (wr.ownsRow 0 297 2 (.slice A5 n5 c5) n5 (cells rs)) ∧ Hd (wr.heap[g]? = some (.cells noPlan 307 (0, 0))) ∧ Hd (Fr w wr []))
      case atStart => exact ⟨0, rfl, by omega, Z0, O6, K6, F6⟩
      case round =>
        obtain ⟨j, rfl, hj, HZ, HO, HK, HF⟩ := hrel
        by_cases hjn : j < n5
        · have hjr : j < rs.length := by omega
          obtain ⟨a, o1', e1, _, hcc⟩ := Sl.row (enc := enc) (sz := 2) (fun _ => rfl) (sl_of_own2 HO.out (by omega)) hjr (by decide)
          subst e1
          obtain ⟨r, hr⟩ : ∃ r, r = rs[j] := ⟨_, rfl⟩
          rw [← hr] at hcc
          have hrb := HR.out.1 r (by rw [hr]; exact List.getElem_mem hjr)
          have c0 := hcc 0 (by decide)
          have c1 := hcc 1 (by decide)
          have HTK : Hd (rs.take (j + 1) = rs.take j ++ [r]) := ⟨by rw [List.take_succ_eq_append_getElem hjr, hr]⟩
          obtain ⟨rsym, rcnt⟩ := r
          obtain ⟨hb1, hb2, _⟩ := hrb
          simp only at hb1 hb2
          obtain ⟨s, rfl⟩ := Int.eq_ofNat_of_zero_le hb1
          simp only [enc, List.getElem?_cons_zero, List.getElem?_cons_succ, Nat.add_zero] at c0 c1
          have bz := blk_alloc HZ.out (.cells #[.int .i64 (s : Nat), .int .i64 rcnt] 297)
          have k0 : (wr.alloc (.cells #[.int .i64 (s : Nat), .int .i64 rcnt] 297)).cell? ⟨gf, s, none⟩ = some (.int .i64 (freqF (rs.take j) s : Nat)) := by rw [blk_cell bz s, List.getElem?_toArray]; exact freq_get _ (by omega)
          have kf := blk_frozen bz s
          have hfb := freqF_le (rs.take j) s
          rw [List.length_take] at hfb
          have HZ2 := Hd.mk (blk_set bz s (.int .i64 ((freqF (rs.take j) s : Nat) + 1 : Int)))
          rw [freq_set (rs.take j) ((s : Int), rcnt) (by omega) rfl, ← HTK.out] at HZ2
          have HO2 := Hd.mk (own_setFar (own_frame HO.out ((Fr.refl wr []).alloc (.cells #[.int .i64 (s : Nat), .int .i64 rcnt] 297)) (by simp)) (a := ⟨gf, s, none⟩) (.int .i64 ((freqF (rs.take j) s : Nat) + 1 : Int)) (fun h => hnA.out _ h rfl))
          have HK2 := Hd.mk (blk_far (blk_alloc HK.out (.cells #[.int .i64 (s : Nat), .int .i64 rcnt] 297)) (p := ⟨gf, s, none⟩) hgg (.int .i64 ((freqF (rs.take j) s : Nat) + 1 : Int)))
          clear bz
          generalize freqF (rs.take j) s = fq at *
          clear hcc hr
          go_wp2
          go_roundg (gk - 1)
          case measure => omega
          case rel => exact ⟨j + 1, by go_num, by omega, HZ2, HO2, HK2, ⟨(HF.out.alloc _).setCell _ (.inr hgf)⟩⟩
        · obtain rfl : j = n5 := by omega
          have hz7 := HZ.out
          rw [List.take_of_length_le (by omega)] at hz7
          have Z7 := Hd.mk hz7
          have HE := Hd.mk (hlens_eq (rs := rs) (by omega))
          have HLN := Hd.mk (hlens_le (rs := rs) (by omega))
          have SF : Hd (Sl wr (some ⟨gf, 0, none⟩) (i64s (freqOf rs)) (some gf)) := ⟨by have := sl_of_blk hz7; simpa using this⟩
          clear hz7 HZ Z0 K6 O6 F6
          go_wp2_with (fail)
          refine (Lens.lengths_any wr 7 (some ⟨gf, 0, none⟩) 19 19 (freqOf rs) _ (freqOf_len rs) SF.out (by omega)).mono ?_
          rintro e w8 hlp
          unfold Lens.LensPost at hlp
          obtain ⟨A8, n8, c8, rfl, h1, h2, h3⟩ := hlp
          rw [HE.out.1] at h1 ⊢
          rw [← HE.out.2] at h1
          have hn8 : n8 = 19 := by have := h1.1; rw [i64s_length, hlens_len (by omega)] at this; omega
          subst hn8
          have O8 := Hd.mk h1
          have NW8 : Hd (∀ k, (Value.slice A8 19 c8).ownBlock = some k → w.heap.size ≤ k) := ⟨fun k hk => by have := h2 k hk; have := HF.out.size; omega⟩
          have F8 := Hd.mk (HF.out.trans h3 (by simp))
          have K8 := Hd.mk (h3.blk HK.out (by simp))
          have OA8 := Hd.mk (own_frame HO.out h3 (by simp))
          clear h1 h2 h3 HF HK HO Z7 SF
          simp only
          obtain ⟨hl, hhl⟩ : ∃ hl, hl = hlens rs := ⟨_, rfl⟩
          rw [← hhl] at O8 HLN
          have HHL := Hd.mk hhl
          have hl19 : hl.length = 19 := by rw [hhl]; exact hlens_len (by omega)
          clear hhl HE
          have o8' := O8.out
          simp only at o8'
          have O8' := Hd.mk o8'
          subst hn5
          clear o8' O8
          go_upto_region 16 with (fail)
          obtain ⟨pc, hpc⟩ : ∃ pc : Nat → Array Value, pc = fun t => #[.int .i64 (ka : Nat), .int .i64 (kd : Nat), .slice A5 rs.length c5, .slice A8 19 c8, .int .i64 (t : Nat)] := ⟨_, rfl⟩
          have B9 : Hd ((w8.alloc (.cells #[.int .i64 (ka : Nat), .int .i64 (kd : Nat), .slice A5 rs.length c5, .slice A8 19 c8, .int .i64 4] 307)).heap[w8.heap.size]? = some (.cells (pc 4) 307 (0, 0))) := ⟨by rw [hpc]; exact blk_new w8 _⟩
          have A9 := (Fr.refl w8 []).alloc (.cells #[.int .i64 (ka : Nat), .int .i64 (kd : Nat), .slice A5 rs.length c5, .slice A8 19 c8, .int .i64 4] 307)
          have O9 := Hd.mk (own_frame O8'.out A9 (by simp))
          have OA9 := Hd.mk (own_frame OA8.out A9 (by simp))
          have K9 := Hd.mk (A9.blk K8.out (by simp))
          have F9 := Hd.mk (F8.out.trans A9 (by simp))
          have hgp : w.heap.size ≤ w8.heap.size := F8.out.size
          have hgp2 : g ≠ w8.heap.size := by have := blk_lt K8.out; omega
          have HPC := Hd.mk hpc
          clear A9 O8' OA8 K8 F8 hpc
          generalize w8.alloc (.cells #[.int .i64 (ka : Nat), .int .i64 (kd : Nat), .slice A5 rs.length c5, .slice A8 19 c8, .int .i64 4] 307) = w9 at *
          generalize w8.heap.size = gp at *
          have HPS : Hd (∀ t u : Nat, (pc t).setIfInBounds 4 (.int .i64 (u : Nat)) = pc u) := ⟨fun t u => by rw [HPC.out]; rfl⟩
          have HP4 : Hd (∀ t : Nat, (pc t)[4]? = some (.int .i64 (t : Nat))) := ⟨fun t => by rw [HPC.out]; rfl⟩
          go_wp2_with (fail)
          refine (order_any w9).mono ?_
          rintro e w10 ⟨rfl, h1⟩
          have B10 := Hd.mk (h1.blk B9.out (by simp))
          have K10 := Hd.mk (h1.blk K9.out (by simp))
          have O10 := Hd.mk (own_frame O9.out h1 (by simp))
          have OA10 := Hd.mk (own_frame OA9.out h1 (by simp))
          have F10 := Hd.mk (F9.out.trans h1 (by simp))
          clear h1 B9 K9 O9 OA9 F9
          go_wp2
          go_loopg [67] 19 (fun kq jv wq => ∃ j : Nat, jv = .int .i64 (j : Nat) ∧ j + kq = 19 ∧ Hd (wq.heap[gp]? = some (.cells (pc (toldN hl j)) 307 (0, 0))) ∧ Hd (wq.heap[g]? = some (.cells noPlan 307 (0, 0))) ∧ Hd (wq.ownsRow 0 3 1 (.slice A8 19 c8) 19 (i64s hl)) ∧ Hd (wq.ownsRow 0 297 2 (.slice A5 rs.length c5) rs.length (cells rs)) ∧ Hd (Fr w wq []))
          case atStart => exact ⟨0, rfl, rfl, B10, K10, O10, OA10, F10⟩
          case round =>
            obtain ⟨j, rfl, hj, HP, HK, HO, HOA, HF⟩ := hrel
            by_cases hjn : j < 19
            · have hi := ordIdx j hjn
              have hol := ord_lt j hjn
              have HT : Hd (toldN hl (j + 1) = if 0 < hl.getD (ord.getD j 0) 0 then max (toldN hl j) (j + 1) else toldN hl j) := ⟨rfl⟩
              obtain ⟨bx, _, rfl⟩ : ∃ bx, True ∧ A8 = some ⟨bx, 0, none⟩ := by
                obtain ⟨g8, c8', e8, _⟩ := own_some HO.out (by decide)
                injection e8 with e8 _ _
                exact ⟨g8, trivial, e8⟩
              have k0 := i64_at (sl_of_own HO.out) (i := ord.getD j 0) (by omega) rfl
              have htb := toldN_le hl j
              have htg := toldN_ge hl j
              have k4 := (blk_cell HP.out 4).trans (HP4.out _)
              have f4 := blk_frozen HP.out 4
              have HL2 := HLN.out (ord.getD j 0)
              generalize ord.getD j 0 = o at *
              generalize hl.getD o 0 = x at *
              obtain ⟨td, htd⟩ : ∃ td, td = toldN hl j := ⟨_, rfl⟩
              rw [← htd] at HP HT htb htg k4
              clear htd
              rw [Nat.zero_add] at k0
              by_cases hx : x > 0
              · have HT2 : Hd (toldN hl (j + 1) = max td (j + 1)) := ⟨by rw [HT.out, if_pos hx]⟩
                have HP2 := Hd.mk (blk_set HP.out 4 (.int .i64 ((max td (j + 1) : Nat) : Int)))
                rw [HPS.out, ← HT2.out] at HP2
                have HK2 := Hd.mk (blk_far HK.out (p := ⟨gp, 4, none⟩) hgp2 (.int .i64 ((max td (j + 1) : Nat) : Int)))
                have HO2 := Hd.mk (own_setFar HO.out (a := ⟨gp, 4, none⟩) (.int .i64 ((max td (j + 1) : Nat) : Int)) (own_ne HO.out HP.out (by decide)))
                have HOA2 := Hd.mk (own_setFar HOA.out (a := ⟨gp, 4, none⟩) (.int .i64 ((max td (j + 1) : Nat) : Int)) (own_ne HOA.out HP.out (by decide)))
                have hmx : (if (td : Int) < (j : Int) + 1 then (j : Int) + 1 else (td : Int)) = ((max td (j + 1) : Nat) : Int) := by split <;> omega
                clear HT HP HK HO HOA
                go_wp2
                go_roundg (gk - 1)
                case measure => omega
                case rel => exact ⟨j + 1, by go_num, by omega, by rw [HT2.out] at HP2 ⊢; exact HP2, HK2, HO2, HOA2, ⟨HF.out.setCell _ (.inr hgp)⟩⟩
              · have HT2 : Hd (toldN hl (j + 1) = td) := ⟨by rw [HT.out, if_neg hx]⟩
                go_wp2
                go_roundg (gk - 1)
                case measure => omega
                case rel => exact ⟨j + 1, by go_num, by omega, by rw [HT2.out]; exact HP, HK, HO, HOA, HF⟩
            · obtain rfl : j = 19 := by omega
              obtain ⟨td, htd⟩ : ∃ td, td = toldN hl 19 := ⟨_, rfl⟩
              rw [← htd] at HP
              have HTD := Hd.mk htd
              clear htd
              go_wp2_with (first
                | (refine wpList_load_row rfl 307 _ rfl gp rfl 307 (pc td) (0, 0) _ HP.out Tryz.underlying307 rfl (by rw [HPC.out]; exact planInfo) ?_)
                | (refine wpList_store_row rfl 307 _ _ rfl g (pc td) rfl rfl 307 _ (by exact HK.out) (by rw [HPC.out]; exact planInfo) (by rw [HPC.out]; rfl) (by rw [HPC.out]; first | rfl | simp [Value.oneCell']) ?_))
              refine bodyPost_ret (results_pt rfl _ _ g (pc td) rfl (setRow_heap _ _ _ _ _ _ HK.out) (by rw [HPC.out]; rfl) _ rfl) rfl ?_
              have HF2 := Code.Fr.setRow HF.out (pc td) (g := g) (.inr hgw)
              refine ⟨fun _ => ⟨A5, rs.length, c5, A8, c8, ?_, ?_, HF2⟩, fun h => absurd h (by rw [← HB.out]; decide)⟩
              · rw [HPC.out, planC, ← HRS.out, ← HHL.out, HTD.out, HLA.out, HKL.out.2]; rfl
              · have hw : Fr wr (wr.setRow g (pc td)) [g] := Code.Fr.setRow (Fr.refl wr [g]) _ (.inl (by simp))
                refine ⟨?_, ?_, NW5.out, NW8.out⟩
                · rw [← HRS.out]
                  exact own_frame HOA.out hw (fun k hk hm => by
                    simp at hm; subst hm
                    exact own_ne HOA.out HK.out (by decide) hk)
                · rw [← HRS.out, ← HHL.out]
                  exact own_frame HO.out hw (fun k hk hm => by
                    simp at hm; subst hm
                    exact own_ne HO.out HK.out (by decide) hk)
end Go.Proofs.YtkdgfioigkijgaaGreat.Head
