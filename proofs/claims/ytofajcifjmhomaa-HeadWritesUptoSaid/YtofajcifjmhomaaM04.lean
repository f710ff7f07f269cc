/- Texts of this claim, one behind the other: HeadWrites. -/
import Derived.Test.YtofajcifjmhomaaM03
import Derived.Test.YtofajcifjmhomaaM02
import Derived.Test.YtofajcifjmhomaaHeadLaw
import Derived.Outline
/- HeadWrites' walk. Conditions: at most 2^20 bits ahead, at most 2^20 lengths each. -/
set_option linter.unusedVariables false
set_option linter.unusedSimpArgs false
set_option maxRecDepth 100000
namespace Go.Proofs.Ytofajcifjmhomaa.Head
open Go.RowKit Go.Proofs.Ytofajcifjmhomaa.Lib Go.Proofs.Ytofajcifjmhomaa.Ints Go.Proofs.Ytofajcifjmhomaa.Runs Go.Proofs.Ytofajcifjmhomaa.Num Go.Proofs.Ytofajcifjmhomaa.Blk Go.Proofs.Ytofajcifjmhomaa.Bits
theorem hwrite_nil (w : World) (v1 v2 : Value) : Calls Try.prog 32 #[.pointer none, v1, v2] w fun e w' => e = .returned (.int .i64 2) ∧ w = w' := by
  go_enter Try.func32, Try.ntmps32
  go_wp2
  go_ret
  exact ⟨rfl, rfl⟩
theorem conv_own {w : World} {A : Option Addr} {n c : Nat} {xs : List Int} (h : w.ownsRow 0 5 1 (.slice A n c) n (u8s xs)) : (convert 57 9 (.slice A n c)).run Try.prog w = .ok (.string (strOfNums xs)) w := by
  have hl : xs.length = n := by have := h.1; simpa [u8s] using this
  subst hl
  exact conv_string Try.underlying57 Try.underlying5 Try.underlying9 (sl_of_own h) (fun hA => own_none h hA)
theorem arg_take {w : World} {g d n : Nat} {xs : List Int} (h : w.ownsRow 0 3 1 (.slice (some ⟨g, 0, none⟩) (n + 4) d) (n + 4) (i64s (xs ++ tail4))) (hn : xs.length = n) : SlArg w (some ⟨g, 0, none⟩) n d (i64s xs) (some g) := by
  obtain ⟨A', c', e1, h2, h3, _⟩ := own_slice h
  injection e1 with e1 _ e3
  subst e3
  exact ⟨by rw [i64s_length]; exact hn, by omega, h3, (fun h => by cases h), own_take h hn, fun b hb => own_lt h hb⟩
theorem headP_le {lit dist : List Int} (h : okH lit dist = true) : totOf (headP lit dist) ≤ 7200 := by
  obtain ⟨r1, r2, r3⟩ := hruns_ok h
  have hck := hlens_check (rs := hruns lit dist) (by omega)
  have h1 := runsP_tot hck (hruns lit dist)
  have h2 := toldN_le (hlens (hruns lit dist)) 19
  unfold headP
  rw [totOf_app, totOf_app, ordP_tot _ _ (by omega)]
  have : totOf [((cutL lit 257).length - 257, 5), ((distL dist).length - 1, 5), (toldN (hlens (hruns lit dist)) 19 - 4, 4)] = 14 := rfl
  omega
theorem wrp_pw {w w' : World} {gw N m : Nat} {q : Option Nat} {ok : Bool} {P : List (Nat × Nat)} (hT : Tl w gw 78 N m q) (h : WrP w w' gw N m q ok P) : ∃ q', Pw w w' gw q q' N m (if ok then P else []) := by
  cases ok with
  | true => exact h.1 rfl
  | false => exact ⟨q, (Pw.start hT).call (h.2 rfl)⟩
theorem wrr_rw {w w' : World} {gw N m : Nat} {q : Option Nat} {ok : Bool} {P : List (Nat × Nat)} (hT : RW w gw N m q) (h : WrR w w' gw N m q ok P) : ∃ q', Rw w w' gw q q' N m (if ok then P else []) := by
  cases ok with
  | true => exact h.1 rfl
  | false => exact ⟨q, (Rw.start hT).call (h.2 rfl)⟩
set_option maxHeartbeats 16000000 in
theorem writes_walk (W : World) (A : Option Addr) (n c : Nat) (bs : List Bool) (qa : Option Nat) (hA : SlArg W A n c (bs.map Value.bool) qa) (hn : n ≤ 1048576)
    (B : Option Addr) (l d : Nat) (lit : List Int) (qb : Option Nat) (hB : SlArg W B l d (i64s lit) qb) (hl : l ≤ 1048576)
    (D : Option Addr) (k f : Nat) (dist : List Int) (qd : Option Nat) (hD : SlArg W D k f (i64s dist) qd) (hk : k ≤ 1048576) :
    Calls Try.prog 9 #[.agg #[.slice A n c, .slice B l d, .slice D k f]] W fun e w' => e = .returned (.bool true) ∧ Below W.heap.size W w' := by
  obtain ⟨i0, hi0, hz0, hz1, hz2⟩ := info_parts infoI64
  have HA := Hd.mk hA
  have HB := Hd.mk hB
  have HD := Hd.mk hD
  have hbs : bs.length = n := by have := hA.len; simpa using this
  have hlit : lit.length = l := by have := hB.len; simpa [i64s] using this
  have hdist : dist.length = k := by have := hD.len; simpa [i64s] using this
  clear hA hB hD
  go_enter Try.func9, Try.ntmps9
  go_upto_region 1 with (fail)
  have BX0 := Hd.mk (blk_new W (.cells #[.slice A n c, .slice B l d, .slice D k f] 74))
  have A1 := (Fr.refl W []).alloc (.cells #[.slice A n c, .slice B l d, .slice D k f] 74)
  have F1 := Hd.mk A1
  have hgb : W.heap.size ≤ W.heap.size := Nat.le_refl _
  obtain ⟨gb, hgbe⟩ : ∃ gb, gb = W.heap.size := ⟨_, rfl⟩
  rw [← hgbe] at BX0 ⊢
  clear A1 hgb hgbe
  generalize W.alloc (.cells #[.slice A n c, .slice B l d, .slice D k f] 74) = w1 at *
  go_upto_region 2 with (fail)
  have T2 := Hd.mk (tl_new w1 78 (by decide))
  have A2 := (Fr.refl w1 []).alloc (.cells #[.slice none 0 0, .int .i64 0] 78)
  have BX1 := Hd.mk (A2.blk BX0.out (by simp))
  have F2 := Hd.mk (F1.out.trans A2 (by simp))
  have NW := Hd.mk F1.out.size
  clear A2 BX0 F1
  generalize w1.alloc (.cells #[.slice none 0 0, .int .i64 0] 78) = w2 at *
  generalize w1.heap.size = gw at *
  go_upto_region 3 with (fail)
  have X3 := Hd.mk (rw_new w2)
  have A3 := (Fr.refl w2 []).alloc (.cells #[.slice none 0 0] 80)
  have BX2 := Hd.mk (A3.blk BX1.out (by simp))
  have T3 := Hd.mk (T2.out.frame A3 (by simp) (by simp))
  have F3 := Hd.mk (F2.out.trans A3 (by simp))
  have NX := Hd.mk F2.out.size
  clear A3 BX1 T2 F2
  generalize w2.alloc (.cells #[.slice none 0 0] 80) = w3 at *
  generalize w2.heap.size = gx at *
  have HS0 : Hd (Hs W w3 gw 0 0 none gx 0 0 none) := ⟨⟨T3.out, X3.out, F3.out, NW.out, NX.out, (by intro y hy; cases hy), (by intro y hy; cases hy)⟩⟩
  clear T3 X3 F3 NW NX
  go_wp2_with (fail)
  go_loopg [5] n (fun kq iv wr => ∃ (i N : Nat) (q p : Option Nat), iv = .int .i64 (i : Nat) ∧ i + kq = n ∧ Hd (wr.heap[gb]? = some (.cells #[.slice A n c, .slice B l d, .slice D k f] 74 (0, 0))) ∧ Hd (Hs W wr gw N i q gx N i p))
  case atStart => exact ⟨0, 0, none, none, rfl, by omega, BX2, HS0⟩
  case round =>
    clear BX2 HS0
    obtain ⟨i, N, q, p, rfl, hi, BX, HS⟩ := hrel
    have k0 := blk_cell BX.out 0
    simp only [List.getElem?_toArray, List.getElem?_cons_zero] at k0
    by_cases h1 : i < n
    · obtain ⟨a, o1, rfl, _, ha⟩ := (HA.out.sl.frame HS.out.fr (by simp)) (by simp; omega)
      obtain ⟨bt, hbt⟩ : ∃ bt, bs[i]? = some bt := ⟨_, List.getElem?_eq_getElem (by omega)⟩
      have ka := (ha i (by simp; omega)).trans (by rw [List.getElem?_map, hbt])
      clear ha hbt
      have hiI : (i : Int) < (n : Nat) := by omega
      cases bt with
      | false =>
        go_wp2_with (fail)
        refine (wput 0 1 0 rfl (by decide) (by omega) (by omega) HS.out.tl (by have : (1 : Int).toNat = 1 := rfl; omega)).mono ?_
        rintro e w4 ⟨rfl, hp⟩
        have hp' := hp
        obtain ⟨_, _, _, f4⟩ := hp'
        have BX4 := Hd.mk (HS.out.keep1 BX.out (by decide) (by decide) f4)
        obtain ⟨q2, h2⟩ := HS.out.put1 hp
        have HS2 := Hd.mk h2
        clear hp f4 h2 BX HS k0 ka
        go_wp2_with (fail)
        refine (rwput 0 1 0 rfl (by decide) (by omega) (by omega) HS2.out.rw_ (by have : (1 : Int).toNat = 1 := rfl; omega)).mono ?_
        rintro e w5 ⟨rfl, hp⟩
        have hp' := hp
        obtain ⟨_, _, _, f4⟩ := hp'
        have BX5 := Hd.mk (HS2.out.keep2 BX4.out (by decide) (by decide) f4)
        obtain ⟨p2, h2⟩ := HS2.out.put2 hp
        have HS3 := Hd.mk h2
        clear hp f4 h2 BX4 HS2
        go_wp2
        go_roundg (gk - 1)
        case measure => omega
        case rel => exact ⟨i + 1, N + 0 * 2 ^ i, q2, p2, by go_num, by omega, BX5, HS3⟩
      | true =>
        go_wp2_with (fail)
        refine (wput 1 1 1 rfl (by decide) (by omega) (by omega) HS.out.tl (by have : (1 : Int).toNat = 1 := rfl; omega)).mono ?_
        rintro e w4 ⟨rfl, hp⟩
        have hp' := hp
        obtain ⟨_, _, _, f4⟩ := hp'
        have BX4 := Hd.mk (HS.out.keep1 BX.out (by decide) (by decide) f4)
        obtain ⟨q2, h2⟩ := HS.out.put1 hp
        have HS2 := Hd.mk h2
        clear hp f4 h2 BX HS k0 ka
        go_wp2_with (fail)
        refine (rwput 1 1 1 rfl (by decide) (by omega) (by omega) HS2.out.rw_ (by have : (1 : Int).toNat = 1 := rfl; omega)).mono ?_
        rintro e w5 ⟨rfl, hp⟩
        have hp' := hp
        obtain ⟨_, _, _, f4⟩ := hp'
        have BX5 := Hd.mk (HS2.out.keep2 BX4.out (by decide) (by decide) f4)
        obtain ⟨p2, h2⟩ := HS2.out.put2 hp
        have HS3 := Hd.mk h2
        clear hp f4 h2 BX4 HS2
        go_wp2
        go_roundg (gk - 1)
        case measure => omega
        case rel => exact ⟨i + 1, N + 1 * 2 ^ i, q2, p2, by go_num, by omega, BX5, HS3⟩
    · obtain rfl : i = n := by omega
      have hiI : ¬ (i : Int) < (i : Nat) := by omega
      have k1 := blk_cell BX.out 1
      have k2 := blk_cell BX.out 2
      simp only [List.getElem?_toArray, List.getElem?_cons_zero, List.getElem?_cons_succ] at k1 k2
      obtain ⟨w6, rfl⟩ : ∃ w6 : World, w6 = wr := ⟨_, rfl⟩
      go_upto_region 11 with (fail)
      have FX := Hd.mk HS.out.fr
      have HSX := HS
      have BXX := BX
      go_cut [7, 8] from 32 to 37 (fun s7 s8 wd => ∃ g1 d1 g2 d2, s7 = .slice (some ⟨g1, 0, none⟩) (l + 4) d1 ∧ s8 = .slice (some ⟨g2, 0, none⟩) (k + 4) d2 ∧ Hd (wd.ownsRow 0 3 1 (.slice (some ⟨g1, 0, none⟩) (l + 4) d1) (l + 4) (i64s (lit ++ tail4))) ∧ Hd (wd.ownsRow 0 3 1 (.slice (some ⟨g2, 0, none⟩) (k + 4) d2) (k + 4) (i64s (dist ++ tail4))) ∧ Hd (wd.heap[gb]? = some (.cells #[.slice A i c, .slice B l d, .slice D k f] 74 (0, 0))) ∧ Hd (Hs W wd gw N i q gx N i p))
      case first =>
        go_region_held3 (fun w' => w'.cell? ⟨gb, 1, none⟩ = some (.slice B l d) ∧ w'.cell? ⟨gb, 2, none⟩ = some (.slice D k f)) (go_keep)
          (first
            | (go_at_call 13; with_reducible refine (lend_any _ B l d lit qb (by exact HB.out.frame FX.out.drew (by simp)) (by omega)).mono ?_; rintro e w7 ⟨g1, d1, rfl, h1, h2, h3⟩; have O1 := Hd.mk h1; have h3 := h3.ofDrew; have FX := Hd.mk (FX.out.trans h3 (by simp)); have HSX := Hd.mk (HSX.out.call h3); have BXX := Hd.mk (h3.blk BXX.out (by simp)); have k1 := fcell h3 k1 (by simp); have k2 := fcell h3 k2 (by simp); clear h1 h2 h3)
            | (go_at_call 13; with_reducible refine (lend_any _ D k f dist qd (by exact HD.out.frame FX.out (by simp)) (by omega)).mono ?_; rintro e w8 ⟨g2, d2, rfl, h1, h2, h3⟩; have O2 := Hd.mk h1; have O1 := Hd.mk (own_frame O1.out h3 (by simp)); have FX := Hd.mk (FX.out.trans h3 (by simp)); have HSX := Hd.mk (HSX.out.call h3); have BXX := Hd.mk (h3.blk BXX.out (by simp)); have k1 := fcell h3 k1 (by simp); have k2 := fcell h3 k2 (by simp); clear h1 h2 h3))
        go_wp2_with (fail)
        go_meet
        case rel => exact ⟨g1, d1, g2, d2, rfl, rfl, O1, O2, BXX, HSX⟩
      case rest =>
        clear FX HSX BXX BX HS k0 k1 k2
        obtain ⟨g1, d1, g2, d2, rfl, rfl, O1, O2, BX, HS⟩ := hcut
        obtain ⟨w7, rfl⟩ : ∃ w7 : World, w7 = wc := ⟨_, rfl⟩
        obtain ⟨er, her⟩ : ∃ er : Int, er = if okH lit dist then 0 else 80 := ⟨_, rfl⟩
        obtain ⟨kc, hkc⟩ : ∃ kc : Int, kc = if okH lit dist then hcost lit dist else 0 := ⟨_, rfl⟩
        obtain ⟨P, hP⟩ : ∃ P, P = if okH lit dist then headP lit dist else [] := ⟨_, rfl⟩
        have hP2 : totOf P ≤ 8000 := by
          rw [hP]
          split
          · rename_i h
            have := headP_le h; omega
          · simp [totOf]
        have HER := Hd.mk her
        have HKC := Hd.mk hkc
        have HP := Hd.mk hP
        clear her hkc hP
        have L1 := Hd.mk (arg_take O1.out hlit)
        have L2 := Hd.mk (arg_take O2.out hdist)
        have hs1 := Lens.run_cut_to (P := Try.prog) 22 3 .i64 Try.underlying22 hi0 1 hz1 (some ⟨g1, 0, none⟩) (l + 4) d1 l (fun h => by cases h) L1.out.le
        have hs2 := Lens.run_cut_to (P := Try.prog) 22 3 .i64 Try.underlying22 hi0 1 hz1 (some ⟨g2, 0, none⟩) (k + 4) d2 k (fun h => by cases h) L2.out.le
        have k1 := blk_cell BX.out 1
        have k2 := blk_cell BX.out 2
        simp only [List.getElem?_toArray, List.getElem?_cons_zero, List.getElem?_cons_succ] at k1 k2
        go_upto_region 12 with (fail)
        go_region_held3 (fun w' => w'.cell? ⟨gb, 1, none⟩ = some (.slice B l d) ∧ w'.cell? ⟨gb, 2, none⟩ = some (.slice D k f)) (go_keep)
          (first
            | (go_at_call 29; refine (hcost_any _ (some ⟨g1, 0, none⟩) (some ⟨g2, 0, none⟩) l d1 k d2 lit dist (some g1) (some g2) (by exact slarg_drew L1.out) (by exact slarg_drew L2.out) er kc HER.out HKC.out).mono ?_; rintro e w8 ⟨rfl, h3⟩; have h3 := h3.ofDrew; have O1 := Hd.mk (own_frame O1.out h3 (by simp)); have O2 := Hd.mk (own_frame O2.out h3 (by simp)); have HS := Hd.mk (HS.out.call h3); have BX := Hd.mk (h3.blk BX.out (by simp)); have k1 := fcell h3 k1 (by simp); have k2 := fcell h3 k2 (by simp); clear h3))
        have L1 := Hd.mk (arg_take O1.out hlit)
        have L2 := Hd.mk (arg_take O2.out hdist)
        go_upto_region 13 with (fail)
        go_region_held3 (fun w' => w'.cell? ⟨gb, 1, none⟩ = some (.slice B l d) ∧ w'.cell? ⟨gb, 2, none⟩ = some (.slice D k f)) (go_keep)
          (first
            | (go_at_call 32; refine (hwrite_any _ (some ⟨g1, 0, none⟩) (some ⟨g2, 0, none⟩) l d1 k d2 lit dist (some g1) (some g2) (by exact slarg_drew L1.out) (by exact slarg_drew L2.out) er HER.out gw N i q (by exact HS.out.tl) (by omega)).mono ?_; rintro e w9 ⟨rfl, hp⟩; obtain ⟨q2, hp⟩ := wrp_pw (by exact HS.out.tl) hp; rw [← HP.out] at hp; have hf := hp.fr.ofDrew; have O1 := Hd.mk (own_keep HS.out.tl hf O1.out (by decide) (by decide)); have O2 := Hd.mk (own_keep HS.out.tl hf O2.out (by decide) (by decide)); have BX := Hd.mk (HS.out.keep1 BX.out (by decide) (by decide) hf); have HS := Hd.mk (HS.out.tl1 hp.tl hp.aft hf); have k1 := blk_cell BX.out 1; have k2 := blk_cell BX.out 2; simp only [List.getElem?_toArray, List.getElem?_cons_zero, List.getElem?_cons_succ] at k1 k2; clear hp hf))
        clear hs1 hs2 L1 L2
        have hee : (er != er) = false := by simp
        have hkk : (kc != kc) = false := by simp
        go_wp2_with (fail)
        refine (rhcost_any w9 B D l d k f lit dist qb qd (HB.out.frame HS.out.fr (by simp)) (HD.out.frame HS.out.fr (by simp)) er kc HER.out HKC.out).mono ?_
        rintro e w10 ⟨rfl, h3⟩
        have O1 := Hd.mk (own_frame O1.out h3 (by simp))
        have O2 := Hd.mk (own_frame O2.out h3 (by simp))
        have HS := Hd.mk (HS.out.call h3)
        have BX := Hd.mk (h3.blk BX.out (by simp))
        have k1 := fcell h3 k1 (by simp)
        have k2 := fcell h3 k2 (by simp)
        clear h3
        go_wp2_with (fail)
        refine (rwrite_any w10 B D l d k f lit dist qb qd (HB.out.frame HS.out.fr (by simp)) (HD.out.frame HS.out.fr (by simp)) er HER.out gx N i p HS.out.rw_ (by omega)).mono ?_
        rintro e w11 ⟨rfl, hp⟩
        obtain ⟨p2, hp⟩ := wrr_rw HS.out.rw_ hp
        rw [← HP.out] at hp
        have hf := hp.fr
        have O1 := Hd.mk (rown_keep HS.out.rw_ hf O1.out (by decide) (by decide))
        have O2 := Hd.mk (rown_keep HS.out.rw_ hf O2.out (by decide) (by decide))
        have BX := Hd.mk (HS.out.keep2 BX.out (by decide) (by decide) hf)
        have HS := Hd.mk (HS.out.rw2 hp)
        clear hp hf
        obtain ⟨N2, hN2⟩ : ∃ x, x = N + numOf P * 2 ^ i := ⟨_, rfl⟩
        obtain ⟨m2, hm2⟩ : ∃ x, x = i + totOf P := ⟨_, rfl⟩
        have hmb : m2 ≤ 2000000 := by omega
        rw [← hN2, ← hm2] at HS
        clear hN2 hm2
        go_upto_region 16 with (fail)
        go_cut [102] from 76 to 102 (fun s wd => s = .bool false ∧ w11 = wd)
        case first =>
          clear O1 O2 BX k1 k2 HS
          by_cases hok : okH lit dist = true
          · obtain rfl : er = 0 := by rw [HER.out, if_pos hok]
            clear hok
            go_wp2_with (go_at_call 15; refine (num_any _ _).mono ?_; rintro e wz ⟨rfl, rfl⟩)
            go_meet
            exact ⟨rfl, rfl⟩
          · obtain rfl : er = 80 := by rw [HER.out, if_neg hok]
            obtain rfl : kc = 0 := by rw [HKC.out, if_neg hok]
            clear hok
            go_wp2_with (go_at_call 15; refine (num_any _ _).mono ?_; rintro e wz ⟨rfl, rfl⟩)
            go_meet
            exact ⟨rfl, rfl⟩
        case rest =>
          obtain ⟨rfl, rfl⟩ := hcut
          have k1 := blk_cell BX.out 1
          have k2 := blk_cell BX.out 2
          simp only [List.getElem?_toArray, List.getElem?_cons_zero, List.getElem?_cons_succ] at k1 k2
          obtain ⟨Ax, cx, hxb, _⟩ := HS.out.rw_
          have x0 := blk_cell hxb 0
          simp only [List.getElem?_toArray, List.getElem?_cons_zero] at x0
          have hmm : ((m2 : Int) != (m2 : Int)) = false := by simp
          clear hxb
          have HLA : Hd ((lit ++ tail4).length = l + 4) := ⟨by rw [List.length_append, hlit]; rfl⟩
          have HLB : Hd ((dist ++ tail4).length = k + 4) := ⟨by rw [List.length_append, hdist]; rfl⟩
          go_upto_region 18 with (fail)
          go_region_with (first
            | (go_at_call 13; with_reducible refine (lend_any _ B l d lit qb (by exact HB.out.frame HS.out.fr.drew (by simp)) (by omega)).mono ?_; rintro e w12 ⟨g3, d3, rfl, h1, h2, h3⟩; have O3 := Hd.mk h1; have h3 := h3.ofDrew; have O1 := Hd.mk (own_frame O1.out h3 (by simp)); have O2 := Hd.mk (own_frame O2.out h3 (by simp)); have HS := Hd.mk (HS.out.call h3); have BX := Hd.mk (h3.blk BX.out (by simp)); have k1 := fcell h3 k1 (by simp); have k2 := fcell h3 k2 (by simp); have x0 := fcell h3 x0 (by simp); clear h1 h2 h3)
            | (go_at_call 13; with_reducible refine (lend_any _ D k f dist qd (by exact HD.out.frame HS.out.fr (by simp)) (by omega)).mono ?_; rintro e w12 ⟨g4, d4, rfl, h1, h2, h3⟩; have O4 := Hd.mk h1; have O1 := Hd.mk (own_frame O1.out h3 (by simp)); have O2 := Hd.mk (own_frame O2.out h3 (by simp)); have HS := Hd.mk (HS.out.call h3); have BX := Hd.mk (h3.blk BX.out (by simp)); have k1 := fcell h3 k1 (by simp); have k2 := fcell h3 k2 (by simp); have x0 := fcell h3 x0 (by simp); clear h1 h2 h3)
            | (go_at_call 17; with_reducible refine (same_any _ (some ⟨g1, 0, none⟩) (some ⟨g3, 0, none⟩) (l + 4) (l + 4) d1 d3 (lit ++ tail4) (lit ++ tail4) _ _ HLA.out HLA.out (by exact sl_of_own O1.out) (by exact sl_of_own O3.out) (by omega) (by omega)).mono ?_; rintro e w12 ⟨rfl, h3⟩; rw [decide_eq_true rfl]; have O1 := Hd.mk (own_frame O1.out h3 (by simp)); have O2 := Hd.mk (own_frame O2.out h3 (by simp)); have HS := Hd.mk (HS.out.call h3); have BX := Hd.mk (h3.blk BX.out (by simp)); have k1 := fcell h3 k1 (by simp); have k2 := fcell h3 k2 (by simp); have x0 := fcell h3 x0 (by simp); clear h3)
            | (go_at_call 17; with_reducible refine (same_any _ (some ⟨g2, 0, none⟩) (some ⟨g4, 0, none⟩) (k + 4) (k + 4) d2 d4 (dist ++ tail4) (dist ++ tail4) _ _ HLB.out HLB.out (by exact sl_of_own O2.out) (by exact sl_of_own O4.out) (by omega) (by omega)).mono ?_; rintro e w12 ⟨rfl, h3⟩; rw [decide_eq_true rfl]; have O1 := Hd.mk (own_frame O1.out h3 (by simp)); have O2 := Hd.mk (own_frame O2.out h3 (by simp)); have HS := Hd.mk (HS.out.call h3); have BX := Hd.mk (h3.blk BX.out (by simp)); have k1 := fcell h3 k1 (by simp); have k2 := fcell h3 k2 (by simp); have x0 := fcell h3 x0 (by simp); clear h3)
            | (go_at_call 35; refine (Bits.len_any _ (by exact HS.out.tl)).mono ?_; rintro e wn ⟨rfl, rfl⟩)
            | (go_at_call 36; refine (Bits.bytes_any (N := N2) (m := m2) _ (by omega) (by exact HS.out.tl)).mono ?_; rintro e wn ⟨v, rfl, h1, h2, h3⟩; have O1 := Hd.mk (own_frame O1.out h3 (by simp)); have O2 := Hd.mk (own_frame O2.out h3 (by simp)); have HS := Hd.mk (HS.out.call h3); have BX := Hd.mk (h3.blk BX.out (by simp)); have k1 := fcell h3 k1 (by simp); have k2 := fcell h3 k2 (by simp); have x0 := fcell h3 x0 (by simp); obtain ⟨A5, c5, rfl, hc5, _⟩ := own_slice h1; have OB := Hd.mk h1; have cv1 := conv_own h1; clear h1 h2 h3)
            | (go_at_call 37; refine (Bits.wbytes_any (N := N2) (m := m2) _ (by omega) (by exact HS.out.rw_)).mono ?_; rintro e wn ⟨v2, rfl, h1, h2, h3⟩; have O1 := Hd.mk (own_frame O1.out h3 (by simp)); have O2 := Hd.mk (own_frame O2.out h3 (by simp)); have HS := Hd.mk (HS.out.call h3); have BX := Hd.mk (h3.blk BX.out (by simp)); have k1 := fcell h3 k1 (by simp); have k2 := fcell h3 k2 (by simp); have x0 := fcell h3 x0 (by simp); have cv3 := conv_own (own_frame OB.out h3 (by simp)); obtain ⟨A6, c6, rfl, hc6, _⟩ := own_slice h1; have cv2 := conv_own h1; clear h1 h2 h3))
          all_goals
            go_wp2_with (fail)
            refine (hwrite_nil _ _ _).mono ?_
            rintro e wn ⟨rfl, rfl⟩
            go_wp2_with (fail)
            refine (awake_any _).mono ?_
            rintro e wn ⟨rfl, h3⟩
            have FZ := Hd.mk (HS.out.fr.trans h3 (by simp))
            clear h3
            go_wp2
            go_ret
            exact ⟨rfl, FZ.out.below⟩
end Go.Proofs.Ytofajcifjmhomaa.Head
