/- CodeDecodes' walk. Conditions: none but what memory bounds. -/
import Derived.Test.YtncjckhcellehaaCodeJ
import Derived.Test.YtncjckhcellehaaCodeLives
import Derived.Test.YtncjckhcellehaaCodeChecks
set_option linter.unusedVariables false
set_option linter.unusedSimpArgs false
set_option maxRecDepth 100000
namespace Go.Proofs.Ytncjckhcellehaa.Code
open Go.RowKit Go.IntWalk Go.Proofs.Ytncjckhcellehaa.Lib Go.Proofs.Ytncjckhcellehaa.Ints Go.Proofs.Ytncjckhcellehaa.Num Go.Proofs.Ytncjckhcellehaa.Bits

set_option maxHeartbeats 16000000 in
theorem decodes_walk (s : Int) (A : Option Addr) (l c : Nat) (os : List Opd) (q : Option Nat) (W : World) (hl : os.length = l) (hS : Sl W A (os.flatMap Opd.cells) q) (hO : ∀ o ∈ os, o.ok W) (hy : l * 72 ≤ 140737488351232) :
    Calls Try.prog 5 #[.int .i64 s, .slice A l c] W fun e w' => e = .returned (.bool true) ∧ Below W.heap.size W w' := by
  obtain ⟨j0, hj0, hj1, hj2, hj3⟩ := info_parts infoI64
  subst hl
  have HS := Hd.mk hS
  have HO := Hd.mk hO
  have hl1 : os.length ≤ 1954687338213 := by omega
  clear hS hO hy
  go_enter Try.func5, Try.ntmps5
  by_cases hs : s < 1 ∨ 288 < s
  · go_wp2_with (fail)
    refine (newdec_no W s hs).mono ?_
    rintro e w1 ⟨rfl, rfl⟩
    by_cases h1 : s < 1
    · clear hs
      go_wp2_with (fail)
      refine (clives_any W).mono ?_
      rintro e w2 ⟨rfl, h3⟩
      have F2 := Hd.mk h3
      clear h3
      go_wp2
      go_ret
      exact ⟨rfl, F2.out.below⟩
    · have h2 : s > 288 := by omega
      clear hs
      go_wp2_with (fail)
      refine (clives_any W).mono ?_
      rintro e w2 ⟨rfl, h3⟩
      have F2 := Hd.mk h3
      clear h3
      go_wp2
      go_ret
      exact ⟨rfl, F2.out.below⟩
  · have h1 : ¬ s < 1 := by omega
    have h2 : ¬ s > 288 := by omega
    obtain ⟨m, rfl⟩ : ∃ m : Nat, s = (m : Int) := ⟨s.toNat, by omega⟩
    have hm1 : 1 ≤ m := by omega
    have hm2 : m ≤ 288 := by omega
    clear hs
    go_wp2_with (fail)
    refine (newdec_ok W m hm1 hm2).mono ?_
    rintro e w1 ⟨gd, rfl, hD, hgd, hf⟩
    have D1 := Hd.mk hD
    have F1 := Hd.mk hf
    have hgdl : gd < w1.heap.size := by obtain ⟨cs, hb, _⟩ := hD.ex; exact blk_lt hb
    clear hD hf
    go_wp2_with (fail)
    refine (room_any w1 gd m _ _ _ D1.out hm1 hm2).mono ?_
    rintro e w2 ⟨rfl, rfl⟩
    rw [room2]
    go_upto_region 9 with (fail)
    obtain ⟨gr, hgr⟩ : ∃ gr, gr = w1.heap.size := ⟨_, rfl⟩
    have hs1 : (w1.alloc (.cells #[.int .u64 0, .int .i64 0, .int .i64 0] 53)).heap.size = gr + 1 := by simp [hgr]
    have R1 := Hd.mk (rd_new w1)
    have X1 := Hd.mk (rr_fresh (w1.alloc (.cells #[.int .u64 0, .int .i64 0, .int .i64 0] 53)))
    rw [hs1] at X1
    rw [← hgr] at R1 ⊢
    have DZ0 : Hd (Dz W ((w1.alloc (.cells #[.int .u64 0, .int .i64 0, .int .i64 0] 53)).alloc (.cells #[.slice none 0 0, .int .i64 0] 55)) gd gr (gr + 1) m [] none 0 0 0 0 0 none) := ⟨⟨
      ⟨_, by rw [cz_nil, used_nil]; exact D1.out.frame (((Fr.refl _ []).alloc _).alloc _) (by simp), sym_nil⟩, check_nil, own_nil _ _ _ _, rfl,
      ⟨R1.out.frame ((Fr.refl _ []).alloc _) (by simp), X1.out⟩, (F1.out.alloc _).alloc _, by have := F1.out.size; omega, (by intro y hy; cases hy), (by intro y hy; cases hy)⟩⟩
    clear R1 X1 hs1 D1 F1 hgr hgdl
    generalize ((w1.alloc (.cells #[.int .u64 0, .int .i64 0, .int .i64 0] 53)).alloc (.cells #[.slice none 0 0, .int .i64 0] 55)) = w2 at *
    obtain ⟨gx, hgx⟩ : ∃ gx, gx = gr + 1 := ⟨_, rfl⟩
    rw [← hgx] at DZ0 ⊢
    clear hgx
    go_wp2
    go_loopg [7, 62] os.length (fun kq lv jv wr => ∃ (j : Nat) (lens : List Int) (A : Option Addr) (n c V h t : Nat) (q : Option Nat), lv = .slice A n c ∧ jv = .int .i64 (j : Nat) ∧ j + kq = os.length ∧ Hd (t ≤ 56 * j) ∧ Hd (Dz W wr gd gr gx m lens A n c V h t q))
    case atStart => exact ⟨0, [], none, 0, 0, 0, 0, 0, none, rfl, rfl, by omega, ⟨by omega⟩, DZ0⟩
    case round =>
      clear DZ0
      obtain ⟨j, lens, AL, nL, cL, V, h, t, qx, rfl, rfl, hj, HT, DZ⟩ := hrel
      obtain ⟨g0, rfl⟩ : ∃ g0 : Nat, g0 = gk := ⟨_, rfl⟩
      by_cases hlt : j < os.length
      · obtain ⟨o, ho⟩ : ∃ o, o = os[j]'hlt := ⟨_, rfl⟩
        have hom : o.ok W := HO.out o (by rw [ho]; exact List.getElem_mem _)
        obtain ⟨b, off, rfl, hqb, hcell⟩ := (HS.out.frame DZ.out.fr (by simp)).row opd_len hlt (by decide)
        rw [← ho] at hcell
        have c0 := hcell 0 (by decide)
        have c1 := hcell 1 (by decide)
        have c2 := hcell 2 (by decide)
        have c3 := hcell 3 (by decide)
        have c4 := hcell 4 (by decide)
        simp only [Opd.cells, List.getElem?_cons_zero, List.getElem?_cons_succ, Nat.add_zero] at c0 c1 c2 c3 c4
        have HOM := Hd.mk hom
        clear hcell hom ho hqb
        obtain ⟨C, oA, ol, oc, oN, oA2, ol2, oc2, oO⟩ := o
        simp only at c0 c1 c2 c3 c4
        go_upto_region 12 with (fail)
        obtain ⟨gb, hgb⟩ : ∃ gb, gb = wr.heap.size := ⟨_, rfl⟩
        have DZ1 := Hd.mk (DZ.out.keep ((Fr.refl wr []).alloc (.cells #[.int .i64 C, .slice oA ol oc, .int .i64 oN, .slice oA2 ol2 oc2, .bool oO] 57)))
        have BX : Hd ((wr.alloc (.cells #[.int .i64 C, .slice oA ol oc, .int .i64 oN, .slice oA2 ol2 oc2, .bool oO] 57)).heap[gb]? = some (.cells #[.int .i64 C, .slice oA ol oc, .int .i64 oN, .slice oA2 ol2 oc2, .bool oO] 57 (0, 0))) := ⟨by rw [hgb]; exact blk_new _ _⟩
        rw [← hgb]
        clear hgb c0 c1 c2 c3 c4 DZ
        generalize wr.alloc (.cells #[.int .i64 C, .slice oA ol oc, .int .i64 oN, .slice oA2 ol2 oc2, .bool oO] 57) = w1' at *
        have ht60 : t ≤ 1152921504606846900 := by have := HT.out; omega
        have h64 := DZ1.out.bits
        have ngr : gb ≠ gr := blk_ne BX.out DZ1.out.pr.rd.1 (by decide)
        have ngx : gb ∉ gx :: qx.toList := by
          obtain ⟨cx, hx⟩ := DZ1.out.xblk
          simp only [List.mem_cons, Option.mem_toList, not_or]
          exact ⟨blk_ne BX.out hx (by decide), fun e => by obtain ⟨cs, hcs⟩ := DZ1.out.qblk e; exact blk_ne BX.out hcs (by decide) rfl⟩
        have k0 := blk_cell BX.out 0
        have k1 := blk_cell BX.out 1
        have k2 := blk_cell BX.out 2
        have k3 := blk_cell BX.out 3
        simp only [List.getElem?_toArray, List.getElem?_cons_zero, List.getElem?_cons_succ] at k0 k1 k2 k3
        by_cases hC1 : C = 1
        · subst hC1
          clear k3 k2
          obtain ⟨⟨bs, qb, hbs, hbr, hbl⟩, _⟩ := HOM.out
          have hxl : bs.length = ol := by have := hbs.len; simpa [u8s] using this
          have HBS := Hd.mk hbs
          have HBR := Hd.mk hbr
          simp only at hbl
          obtain ⟨mf, hmf⟩ : ∃ mf, mf = min ((64 - h) / 8) bs.length := ⟨_, rfl⟩
          have HMF := Hd.mk hmf
          have hoc : bs.length ≤ oc := by have := hbs.le; simp only at this; omega
          clear hbs hbr hmf
          go_wp2_with (fail)
          refine (feed_any (g := gr) (V := V) (b := h) (t := t) w1' oA ol oc bs qb hxl HBR.out ((HBS.out.frame DZ1.out.fr (by simp)).sl) hoc (by omega) (by intro e; have := HBS.out.lt _ e; have := DZ1.out.bd; omega) mf HMF.out DZ1.out.pr.rd).mono ?_
          rintro e w3 ⟨rfl, h1, h2⟩
          have R3 := Hd.mk h1
          have F3 := Hd.mk h2
          have X3 := Hd.mk (DZ1.out.pr.rr.frame h2 (by simpa using fun e => DZ1.out.pr.ne.1 e.symm) (by intro y hy; simp; rintro rfl; exact DZ1.out.pr.ne.2.1 hy))
          have k1' := blk_cell (h2.blk BX.out (by simpa using ngr)) 1
          simp only [List.getElem?_toArray, List.getElem?_cons_zero, List.getElem?_cons_succ] at k1'
          clear h1 h2
          go_wp2_with (fail)
          refine (rfeed_any (g := gx) (V := V) (b := h) (t := t) (q := qx) w3 oA ol oc bs qb hxl HBR.out ((HBS.out.frame (DZ1.out.fr.trans F3.out (by have := DZ1.out.bd; intro x hx hm; simp at hm; omega)) (by simp)).sl) hoc (by omega) (by
            intro y hy hm
            have := HBS.out.lt _ hy
            have := DZ1.out.bd
            rcases List.mem_cons.1 hm with e | hm
            · omega
            · have := DZ1.out.bq y (by simpa using hm); omega) mf HMF.out h64 X3.out).mono ?_
          rintro e w4 ⟨rfl, q4, h1, h2, h3⟩
          have DZE := Hd.mk (DZ1.out.read R3.out F3.out h1 h3 (aft_af h2))
          have HTE : Hd (t ≤ 56 * (j + 1)) := ⟨by have := HT.out; omega⟩
          clear h1 h2 h3 DZ1 R3 F3 X3 BX k0 k1 k1' HBS HBR HMF HOM HT
          obtain ⟨BB, cBB, qBB, d0, hSB⟩ := DZE.out.xs
          obtain ⟨SE, hDE, hSE⟩ := DZE.out.de
          have HDEE := Hd.mk hDE
          clear hSB hDE hSE
          go_upto_region 39 with (fail)
          go_quiet ((first | (go_at_call 31; go_loud (exact quiet_left (has_any (g := gr) (V := V + valB (bs.take mf) * 2 ^ h) (b := h + 8 * mf) (t := t) _ (by exact DZE.out.pr.rd)))) | (go_at_call 23; go_loud (exact quiet_left (room3 _ gd m _ _ _ (HDEE.out.frame ((Fr.refl _ []).drewN _) (by simp)) hm1 hm2)))))
          go_wp2
          go_roundg (g0 - 1)
          case measure => omega
          case rel => exact ⟨j + 1, lens, AL, nL, cL, _, _, _, q4, rfl, by go_num, by omega, HTE, ⟨DZE.out.keep ((Fr.refl _ _).drewN _)⟩⟩
        by_cases hC2 : C = 2
        · subst hC2
          clear k3 k1
          obtain ⟨k, hk⟩ : ∃ k, k = tk oN h := ⟨_, rfl⟩
          have hk56 := tk_le oN h
          rw [← hk] at hk56
          have HK := Hd.mk hk
          clear hk
          go_wp2_with (fail)
          refine (take_all (g := gr) (V := V) (b := h) (t := t) w1' oN k HK.out (by omega) DZ1.out.pr.rd).mono ?_
          rintro e w3 ⟨rfl, h1, h2⟩
          have R3 := Hd.mk h1
          have F3 := Hd.mk h2
          have X3 := Hd.mk (DZ1.out.pr.rr.frame h2 (by simpa using fun e => DZ1.out.pr.ne.1 e.symm) (by intro y hy; simp; rintro rfl; exact DZ1.out.pr.ne.2.1 hy))
          have k2' := blk_cell (h2.blk BX.out (by simpa using ngr)) 2
          simp only [List.getElem?_toArray, List.getElem?_cons_zero, List.getElem?_cons_succ] at k2'
          clear h1 h2
          go_wp2_with (fail)
          refine (rtake_all (g := gx) (V := V) (b := h) (t := t) (q := qx) w3 oN k HK.out h64 (by omega) X3.out).mono ?_
          rintro e w4 ⟨rfl, q4, h1, h2, h3⟩
          have DZE := Hd.mk (DZ1.out.read R3.out F3.out h1 h3 h2)
          have HTE : Hd (t + k ≤ 56 * (j + 1)) := ⟨by have := HT.out; omega⟩
          clear h1 h2 h3 DZ1 R3 F3 X3 BX k0 k2 k2' HK HOM HT
          obtain ⟨BB, cBB, qBB, d0, hSB⟩ := DZE.out.xs
          obtain ⟨SE, hDE, hSE⟩ := DZE.out.de
          have HDEE := Hd.mk hDE
          clear hSB hDE hSE
          go_upto_region 39 with (fail)
          go_quiet ((first | (go_at_call 31; go_loud (exact quiet_left (has_any (g := gr) (V := V / 2 ^ k) (b := h - k) (t := t + k) _ (by exact DZE.out.pr.rd)))) | (go_at_call 23; go_loud (exact quiet_left (room3 _ gd m _ _ _ (HDEE.out.frame ((Fr.refl _ []).drewN _) (by simp)) hm1 hm2)))))
          go_wp2
          go_roundg (g0 - 1)
          case measure => omega
          case rel => exact ⟨j + 1, lens, AL, nL, cL, _, _, _, q4, rfl, by go_num, by omega, HTE, ⟨DZE.out.keep ((Fr.refl _ _).drewN _)⟩⟩
        by_cases hC3 : C = 3
        · subst hC3
          clear k1 k2
          obtain ⟨_, ls, ql, hls, hll⟩ := HOM.out
          have hln : ls.length = ol2 := by have := hls.len; simpa [i64s] using this
          simp only at hll
          have HLS := Hd.mk hls
          clear hls
          go_wp2_with (fail)
          refine (llend_any w1' oA2 ol2 oc2 ls ql (HLS.out.frame DZ1.out.fr (by simp)) hll).mono ?_
          rintro e w3 ⟨g, d1, rfl, h1, h2, h3⟩
          have OL := Hd.mk h1
          have F3 := Hd.mk h3
          have BX3 := Hd.mk (h3.blk BX.out (by simp))
          have k3' := blk_cell BX3.out 3
          simp only [List.getElem?_toArray, List.getElem?_cons_zero, List.getElem?_cons_succ] at k3'
          have hgw : w1'.heap.size ≤ g := h2
          have DZ3 := Hd.mk (DZ1.out.keep h3)
          obtain ⟨r, hr⟩ : ∃ r, r = check ls := ⟨_, rfl⟩
          have HR := Hd.mk hr
          have hdr : ∀ y, gd ≠ y ∨ True := fun _ => .inr trivial
          clear h1 h2 h3 hr hdr k3
          go_wp2_with (fail)
          refine (rchk_any w3 oA2 ol2 oc2 ls ql (HLS.out.frame DZ3.out.fr (by simp)) r HR.out).mono ?_
          rintro e w4 ⟨rfl, rfl⟩
          obtain ⟨want, hwant⟩ : ∃ want, want = if m < ls.length then 50 else r := ⟨_, rfl⟩
          have HW : Hd (want = if m < ls.length then 50 else check ls) := ⟨by rw [hwant, HR.out]⟩
          clear hwant
          go_upto_if 130 with (fail)
          go_cut [14] (fun s14 wc => s14 = .int .i64 want ∧ w3 = wc)
          case first =>
            by_cases hml : m < ol2
            · obtain rfl : want = 50 := by rw [HW.out, if_pos (by omega)]
              go_wp2
              go_meet
              case rel => exact ⟨rfl, rfl⟩
            · obtain rfl : want = r := by rw [HW.out, if_neg (by omega), HR.out]
              go_wp2
              go_meet
              case rel => exact ⟨rfl, rfl⟩
          case rest =>
          obtain ⟨rfl, rfl⟩ := hcut
          clear HR
          obtain ⟨S, hDe, hSy⟩ := DZ3.out.de
          have HDE := Hd.mk hDe
          have hgl : g < w3.heap.size := own_lt OL.out rfl
          have LT : Hd (gd < g ∧ gr < g ∧ gx < g ∧ (∀ y, qx = some y → y < g) ∧ (∀ y, (Value.slice AL nL cL).ownBlock = some y → y < g) ∧ gb < g ∧ W.heap.size ≤ g) := ⟨by
            obtain ⟨l1, l2, l3⟩ := DZ1.out.pr.lt
            obtain ⟨cs, hb⟩ := DZ1.out.dblk
            have := blk_lt hb
            have := blk_lt BX.out
            have := DZ1.out.fr.size
            exact ⟨by omega, by omega, by omega, fun y hy => by have := l3 y hy; omega, fun y hy => by have := own_lt DZ1.out.own hy; omega, by omega, by omega⟩⟩
          have HTE : Hd (t ≤ 56 * (j + 1)) := ⟨by have := HT.out; omega⟩
          clear hDe hSy BX DZ1 F3 HT k0 k3' HOM
          by_cases hw0 : want = 0
          · have hlm : ls.length ≤ m := by
              have := HW.out
              by_cases e : m < ls.length
              · rw [if_pos e] at this; omega
              · omega
            have hck : Hd (check ls = 0) := ⟨by have := HW.out; rw [if_neg (by omega)] at this; omega⟩
            subst hw0
            go_wp2_with (fail)
            refine (load_ok (some ⟨g, 0, none⟩) ol2 d1 ls (some g) (lent OL.out hln) (by intro e; injection e with e; have := LT.out.1; omega) HDE.out hm1 hm2 hlm hck.out).mono ?_
            rintro e w5 ⟨rfl, h1, S', h2, h3⟩
            have D5 := Hd.mk h2
            have SY5 := Hd.mk h3
            have F5 := Hd.mk h1
            have OL5 := Hd.mk (own_frame OL.out h1 (by intro y hy; cases hy; have := LT.out.1; simp; omega))
            have BX5 := Hd.mk (h1.blk BX3.out (by
              obtain ⟨cs, hb⟩ := DZ3.out.dblk
              simp; exact blk_ne BX3.out hb (by decide)))
            have k3 := blk_cell BX5.out 3
            simp only [List.getElem?_toArray, List.getElem?_cons_zero, List.getElem?_cons_succ] at k3
            have LS5 := Hd.mk (HLS.out.frame (DZ3.out.fr.trans h1 (by intro x hx hm; simp at hm; have := DZ3.out.bd; omega)) (by simp))
            clear h1 h2 h3 OL HDE BX3
            go_wp2_with (fail)
            refine (lkept_any w5 oA2 ol2 oc2 ls ql LS5.out hll (some ⟨g, 0, none⟩) (ol2 + 3) d1 (ls ++ tail3) (some g) (by rw [List.length_append, hln]; rfl) (by omega) (sl_of_own OL5.out)).mono ?_
            rintro e w6 ⟨rfl, h3⟩
            rw [decide_eq_true rfl]
            have D6 := Hd.mk (D5.out.frame h3 (by simp))
            have OL6 := Hd.mk (own_frame OL5.out h3 (by simp))
            have F6 := Hd.mk ((F5.out).trans (G := []) h3 (by simp))
            have LS6 := Hd.mk (LS5.out.frame h3 (by simp))
            have k3' := blk_cell (h3.blk BX5.out (by simp)) 3
            simp only [List.getElem?_toArray, List.getElem?_cons_zero, List.getElem?_cons_succ] at k3'
            clear h3 D5 OL5 F5 LS5 BX5 k3
            have S6 : Hd (w3.heap.size ≤ w6.heap.size) := ⟨F6.out.size⟩
            have hgb6 : gb < w6.heap.size := by have := LT.out; have := S6.out; omega
            go_wp2_with (at_builtin; go_loud (refine wpList_append_sl rfl (.tmp 145) (.tmp 147) 23 rfl 3 j0 (.int .i64 0) 1 8 Try.underlying23 hj0 hj1 hj2 hj3 rfl (by decide) (.slice (some ⟨w6.heap.size, 0, none⟩) 0 0) 0 [] rfl (World.ownsRow_lit w6 #[] 0 (Nat.zero_le _) (Nat.zero_le _) rfl) oA2 ol2 oc2 _ _ rfl ?c4 (LS6.out.sl.alloc (.cells #[] 3)) LS6.out.nil (i64s_one ls) ?c2 ?c3 ?_))
            case c4 => simp [i64s, hln]
            case c2 => unfold maxLen; omega
            case c3 => omega
            intro A7 c7 w7 hown7 hgrow7 haft7
            have h0 : w6.heap.size ≤ w7.heap.size := by have := hgrow7.size; simp at this; omega
            have HA7 : Hd (∀ y, (Value.slice A7 ol2 c7).ownBlock = some y → w6.heap.size ≤ y) := ⟨fun y hy => by
              rcases haft7 with e | ⟨z, e, hz⟩
              · rw [hy] at e; simp [Value.ownBlock] at e; omega
              · rw [hy] at e; cases e; simp at hz; omega⟩
            have O7 := Hd.mk hown7
            have F7' : Fr w6 w7 [] := ((Fr.refl w6 []).alloc (.cells #[] 3)).grown hgrow7 (fun y hy => .inr (by simp [Value.ownBlock] at hy; omega))
            have D7 := Hd.mk (D6.out.frame F7' (by simp))
            have OL7 := Hd.mk (own_frame OL6.out F7' (by simp))
            have F7 := Hd.mk (F6.out.trans (G := []) F7' (by simp))
            clear hown7 hgrow7 haft7 F7' D6 OL6 F6 LS6 k3'
            go_wp2_with (fail)
            go_loopg [151] (ol2 + 3) (fun kq jv wl => ∃ (i : Nat) (zs : List Value), jv = .int .i64 (i : Nat) ∧ i + kq = ol2 + 3 ∧ Hd (wl.ownsRow 0 3 1 (.slice (some ⟨g, 0, none⟩) (ol2 + 3) d1) (ol2 + 3) zs) ∧ Hd (Fr w7 wl [g]))
            case atStart => exact ⟨0, _, rfl, by omega, OL7, ⟨Fr.refl _ _⟩⟩
            case round =>
              obtain ⟨w9, rfl⟩ : ∃ w9 : World, w9 = wr := ⟨_, rfl⟩
              obtain ⟨i9, zs9, rfl, hi9, HO9, HF9⟩ := hrel
              by_cases h1 : i9 < ol2 + 3
              · obtain ⟨u0, y0, f0⟩ := own_any HO9.out (j := i9) (by omega)
                go_wp2
                go_roundg (gk - 1)
                case measure => omega
                case rel => exact ⟨i9 + 1, _, by go_num, by omega, ⟨(HO9.out.stored _ _).1⟩, ⟨HF9.out.setCell _ (.inl (by simp))⟩⟩
              · have hi10 : ¬ (i9 < ol2 + 3) := h1
                have D9 := Hd.mk (D7.out.frame HF9.out (by have := LT.out.1; simp; omega))
                have O9 := Hd.mk (own_frame O7.out HF9.out (by intro y hy; have := HA7.out y hy; have := S6.out; simp; omega))
                have F9 : Hd (Fr w3 w9 [gd, g]) := ⟨F7.out.both HF9.out (fun x _ hx => by simp at hx; simp [hx]) (fun x _ hx => by simp at hx; simp [hx])⟩
                have DZE : Hd (Dz W w9 gd gr gx m ls A7 ol2 c7 V h t qx) := ⟨DZ3.out.load2 F9.out LT.out D9.out SY5.out hck.out O9.out hln (by intro y hy; have := HA7.out y hy; have := S6.out; have := LT.out; omega)⟩
                clear HF9 HO9 D9 O9 F9 D7 O7 OL7 F7 SY5 HLS HW DZ3 LT HA7 S6
                obtain ⟨BB, cBB, qBB, d0, hSB⟩ := DZE.out.xs
                obtain ⟨SE, hDE, hSE⟩ := DZE.out.de
                have HDEE := Hd.mk hDE
                clear hSB hDE hSE
                go_upto_region 39 with (fail)
                go_quiet ((first | (go_at_call 31; go_loud (exact quiet_left (has_any (g := gr) (V := V) (b := h) (t := t) _ (by exact DZE.out.pr.rd)))) | (go_at_call 23; go_loud (exact quiet_left (room3 _ gd m _ _ _ (HDEE.out.frame ((Fr.refl _ []).drewN _) (by simp)) hm1 hm2)))))
                go_wp2
                go_roundg (g0 - 1)
                case measure => omega
                case rel => exact ⟨j + 1, ls, A7, ol2, c7, _, _, _, qx, rfl, by go_num, by omega, HTE, ⟨DZE.out.keep ((Fr.refl _ _).drewN _)⟩⟩
          · go_wp2_with (fail)
            refine (load_no (some ⟨g, 0, none⟩) ol2 d1 ls (some g) (lent OL.out hln) HDE.out hm1 hm2 want HW.out hw0).mono ?_
            rintro e w5 ⟨rfl, h1⟩
            have F5 := Hd.mk h1
            have OL5 := Hd.mk (own_frame OL.out h1 (by simp))
            have BX5 := Hd.mk (h1.blk BX3.out (by simp))
            have k3 := blk_cell BX5.out 3
            simp only [List.getElem?_toArray, List.getElem?_cons_zero, List.getElem?_cons_succ] at k3
            have LS5 := Hd.mk (HLS.out.frame (DZ3.out.fr.trans h1 (by simp)) (by simp))
            have hwn : (want != want) = false := by simp
            have hwz : (want == 0) = false := by simpa using hw0
            clear h1 OL HDE BX3
            go_wp2_with (fail)
            refine (lkept_any w5 oA2 ol2 oc2 ls ql LS5.out hll (some ⟨g, 0, none⟩) (ol2 + 3) d1 (ls ++ tail3) (some g) (by rw [List.length_append, hln]; rfl) (by omega) (sl_of_own OL5.out)).mono ?_
            rintro e w6 ⟨rfl, h3⟩
            rw [decide_eq_true rfl]
            have OL7 := Hd.mk (own_frame OL5.out h3 (by simp))
            have F7 := Hd.mk ((F5.out).trans (G := []) h3 (by simp))
            clear h3 OL5 F5 LS5 BX5 k3
            go_wp2_with (fail)
            go_loopg [151] (ol2 + 3) (fun kq jv wl => ∃ (i : Nat) (zs : List Value), jv = .int .i64 (i : Nat) ∧ i + kq = ol2 + 3 ∧ Hd (wl.ownsRow 0 3 1 (.slice (some ⟨g, 0, none⟩) (ol2 + 3) d1) (ol2 + 3) zs) ∧ Hd (Fr w6 wl [g]))
            case atStart => exact ⟨0, _, rfl, by omega, OL7, ⟨Fr.refl _ _⟩⟩
            case round =>
              obtain ⟨w9, rfl⟩ : ∃ w9 : World, w9 = wr := ⟨_, rfl⟩
              obtain ⟨i9, zs9, rfl, hi9, HO9, HF9⟩ := hrel
              by_cases h1 : i9 < ol2 + 3
              · obtain ⟨u0, y0, f0⟩ := own_any HO9.out (j := i9) (by omega)
                go_wp2
                go_roundg (gk - 1)
                case measure => omega
                case rel => exact ⟨i9 + 1, _, by go_num, by omega, ⟨(HO9.out.stored _ _).1⟩, ⟨HF9.out.setCell _ (.inl (by simp))⟩⟩
              · have hi10 : ¬ (i9 < ol2 + 3) := h1
                have F9 : Hd (Fr w3 w9 [gd, g]) := ⟨F7.out.both HF9.out (by simp) (fun x _ hx => by simp at hx; simp [hx])⟩
                have DZE : Hd (Dz W w9 gd gr gx m lens AL nL cL V h t qx) := ⟨DZ3.out.keep2 (F7.out.both HF9.out (by simp) (fun x _ hx => hx)) LT.out⟩
                clear HF9 HO9 F9 OL7 F7 HLS HW DZ3 LT
                obtain ⟨BB, cBB, qBB, d0, hSB⟩ := DZE.out.xs
                obtain ⟨SE, hDE, hSE⟩ := DZE.out.de
                have HDEE := Hd.mk hDE
                clear hSB hDE hSE
                go_upto_region 39 with (fail)
                go_quiet ((first | (go_at_call 31; go_loud (exact quiet_left (has_any (g := gr) (V := V) (b := h) (t := t) _ (by exact DZE.out.pr.rd)))) | (go_at_call 23; go_loud (exact quiet_left (room3 _ gd m _ _ _ (HDEE.out.frame ((Fr.refl _ []).drewN _) (by simp)) hm1 hm2)))))
                go_wp2
                go_roundg (g0 - 1)
                case measure => omega
                case rel => exact ⟨j + 1, lens, AL, nL, cL, _, _, _, qx, rfl, by go_num, by omega, HTE, ⟨DZE.out.keep ((Fr.refl _ _).drewN _)⟩⟩
        · have g1 : (C == 1) = false := by simpa using hC1
          have g2 : (C == 2) = false := by simpa using hC2
          have g3 : (C == 3) = false := by simpa using hC3
          clear hC1 hC2 hC3 k1 k2 k3
          obtain ⟨S, hDe, hSy⟩ := DZ1.out.de
          have HDE := Hd.mk hDe
          have SY := Hd.mk hSy
          have hc288 : Hd (lens.length ≤ 288) := ⟨(bad_false (check_zero DZ1.out.ck).1).1⟩
          obtain ⟨r, hr⟩ : ∃ r, r = next (cz lens) (used lens) V h := ⟨_, rfl⟩
          have HR := Hd.mk hr
          obtain ⟨sv, hsv⟩ : ∃ sv : Int, sv = if r.1 = 1 then (S r.2.1 : Nat) else 0 := ⟨_, rfl⟩
          obtain ⟨er, her⟩ : ∃ er : Int, er = if r.1 = 2 then 54 else 0 := ⟨_, rfl⟩
          obtain ⟨ob, hob⟩ : ∃ ob, ob = decide (r.1 = 1) := ⟨_, rfl⟩
          have HSV := Hd.mk hsv
          have HER := Hd.mk her
          have HOB := Hd.mk hob
          have hgne : gd ≠ gr := by obtain ⟨cs, hb⟩ := DZ1.out.dblk; exact blk_ne hb DZ1.out.pr.rd.1 (by decide)
          clear hDe hSy hr hsv her hob
          go_wp2_with (fail)
          refine (next_any gr V h t HDE.out hm1 (by simp [cz]) (fun l => Nat.le_trans (cz_le lens l) hc288.out) (Nat.le_trans (used_le (check_zero DZ1.out.ck).1) hc288.out) DZ1.out.pr.rd ht60 hgne r HR.out sv er ob HSV.out HER.out HOB.out).mono ?_
          rintro e w3 ⟨rfl, h1, h2⟩
          have R3 := Hd.mk h1
          have F3 := Hd.mk h2
          have X3 := Hd.mk (DZ1.out.pr.rr.frame h2 (by simpa using fun e => DZ1.out.pr.ne.1 e.symm) (by intro y hy; simp; rintro rfl; exact DZ1.out.pr.ne.2.1 hy))
          have L3 := Hd.mk (own_frame DZ1.out.own h2 (by intro y hy; obtain ⟨cs, hcs⟩ := own_type DZ1.out.own hy; simp; exact blk_ne hcs DZ1.out.pr.rd.1 (by decide)))
          obtain ⟨B, cB, hbx, hbo, hbq, hbv⟩ := X3.out
          have d0 := blk_cell hbx 0
          simp only [List.getElem?_toArray, List.getElem?_cons_zero] at d0
          have XS := Hd.mk (sl_of_own hbo)
          clear h1 h2 hbx hbo hbq hbv
          go_wp2_with (fail)
          refine (rnext_any w3 AL nL cL lens _ (arg_of_own L3.out) B V h cB _ XS.out h64 DZ1.out.ck S SY.out r HR.out sv er ob HSV.out HER.out HOB.out).mono ?_
          rintro e w4 ⟨rfl, h1⟩
          have F4 := Hd.mk h1
          have X4 := Hd.mk (X3.out.frame h1 (by simp) (by simp))
          have R4 := Hd.mk (R3.out.frame h1 (by simp))
          have F34 : Hd (Fr w1' w4 [gr]) := ⟨F3.out.trans h1 (by simp)⟩
          have e1 : (sv != sv) = false := by simp
          have e3 : (er != er) = false := by simp
          clear h1 F3 F4 R3 X3 L3 d0
          by_cases h1 : r.1 = 1
          · obtain rfl : ob = true := by rw [HOB.out]; exact decide_eq_true h1
            obtain ⟨n1, n2⟩ := next_one DZ1.out.ck SY.out HR.out h1
            obtain ⟨k, hk⟩ : ∃ k, k = r.2.2 := ⟨_, rfl⟩
            rw [← hk] at R4 n1 n2 ⊢
            clear h1 hk HR HSV HER HOB
            go_wp2_with (fail)
            refine (rtake_ok (g := gx) (V := V) (b := h) (t := t) (q := qx) w4 (k : Nat) (by omega) (by omega) (by omega) h64 (by omega) X4.out).mono ?_
            rintro e w5 ⟨rfl, q5, h1, h2, h3⟩
            rw [Int.toNat_natCast] at h1
            have DZE := Hd.mk (DZ1.out.read R4.out F34.out h1 (h3.mono (by intro x _ hx; simp at hx; simp [hx])) (fun y hy => .inr (h2 y hy)))
            have HTE : Hd (t + k ≤ 56 * (j + 1)) := ⟨by have := HT.out; omega⟩
            clear h1 h2 h3 DZ1 R4 F34 X4 BX k0 HOM HT SY HDE XS
            obtain ⟨BB, cBB, qBB, d0, hSB⟩ := DZE.out.xs
            obtain ⟨SE, hDE, hSE⟩ := DZE.out.de
            have HDEE := Hd.mk hDE
            clear hSB hDE hSE
            go_upto_region 39 with (fail)
            go_quiet ((first | (go_at_call 31; go_loud (exact quiet_left (has_any (g := gr) (V := V / 2 ^ k) (b := h - k) (t := t + k) _ (by exact DZE.out.pr.rd)))) | (go_at_call 23; go_loud (exact quiet_left (room3 _ gd m _ _ _ (HDEE.out.frame ((Fr.refl _ []).drewN _) (by simp)) hm1 hm2)))))
            go_wp2
            go_roundg (g0 - 1)
            case measure => omega
            case rel => exact ⟨j + 1, lens, AL, nL, cL, _, _, _, q5, rfl, by go_num, by omega, HTE, ⟨DZE.out.keep ((Fr.refl _ _).drewN _)⟩⟩
          · obtain rfl : ob = false := by rw [HOB.out]; exact decide_eq_false h1
            have hk := next_none HR.out h1
            rw [hk, Nat.pow_zero, Nat.div_one, Nat.sub_zero, Nat.add_zero] at R4
            have DZE := Hd.mk (DZ1.out.read R4.out F34.out X4.out (Fr.refl _ _) (fun y hy => .inl hy))
            have HTE : Hd (t ≤ 56 * (j + 1)) := ⟨by have := HT.out; omega⟩
            clear h1 hk DZ1 R4 F34 X4 BX k0 HOM HT SY HDE XS HR HSV HER HOB
            obtain ⟨BB, cBB, qBB, d0, hSB⟩ := DZE.out.xs
            obtain ⟨SE, hDE, hSE⟩ := DZE.out.de
            have HDEE := Hd.mk hDE
            clear hSB hDE hSE
            go_upto_region 39 with (fail)
            go_quiet ((first | (go_at_call 31; go_loud (exact quiet_left (has_any (g := gr) (V := V) (b := h) (t := t) _ (by exact DZE.out.pr.rd)))) | (go_at_call 23; go_loud (exact quiet_left (room3 _ gd m _ _ _ (HDEE.out.frame ((Fr.refl _ []).drewN _) (by simp)) hm1 hm2)))))
            go_wp2
            go_roundg (g0 - 1)
            case measure => omega
            case rel => exact ⟨j + 1, lens, AL, nL, cL, _, _, _, qx, rfl, by go_num, by omega, HTE, ⟨DZE.out.keep ((Fr.refl _ _).drewN _)⟩⟩
      · obtain rfl : j = os.length := by omega
        obtain ⟨S, hDe, hSy⟩ := DZ.out.de
        have HDE := Hd.mk hDe
        clear hDe hSy
        go_wp2_with (fail)
        refine (next_nilr wr HDE.out hm1).mono ?_
        rintro e w3 ⟨rfl, rfl⟩
        go_wp2_with (fail)
        refine (clives_any wr).mono ?_
        rintro e w4 ⟨rfl, h3⟩
        have F4 := Hd.mk (DZ.out.fr.trans h3 (by simp))
        clear h3
        go_wp2
        go_ret
        exact ⟨rfl, F4.out.below⟩
end Go.Proofs.Ytncjckhcellehaa.Code
