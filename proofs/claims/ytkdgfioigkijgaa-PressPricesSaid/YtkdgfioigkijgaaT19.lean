/- Texts of this claim, one behind the other: BlkRl, PrsL, PrsD, PrsN. -/
import Derived.Test.YtkdgfioigkijgaaT01
import Derived.Test.YtkdgfioigkijgaaT02
import Derived.Test.YtkdgfioigkijgaaT03
import Derived.Test.YtkdgfioigkijgaaT04
import Derived.Test.YtkdgfioigkijgaaT05
import Derived.Test.YtkdgfioigkijgaaT06
import Derived.Test.YtkdgfioigkijgaaT07
import Derived.Test.YtkdgfioigkijgaaT08
import Derived.Test.YtkdgfioigkijgaaT09
import Derived.Test.YtkdgfioigkijgaaT10
import Derived.Test.YtkdgfioigkijgaaT11
import Derived.Test.YtkdgfioigkijgaaT12
import Derived.Test.YtkdgfioigkijgaaT13
import Derived.Test.YtkdgfioigkijgaaT14
import Derived.Test.YtkdgfioigkijgaaT15
import Derived.Test.YtkdgfioigkijgaaT16
import Derived.Test.YtkdgfioigkijgaaT17
import Derived.Test.YtkdgfioigkijgaaT18
import Derived.Deep.CutRange
import Derived.Deep.Light
import Derived.BigRegion
import Derived.BigQuiet
import Derived.Deep.QuietTactic
import Derived.Deep.LoopGhost
import Derived.Deep.DeepCutAuto
import Derived.KernelRfl
import Derived.Deep.RegionLaw
import Derived.Outline
/- Chapter 09: the document's lengths of a block's own codes, and its plain ones. Conditions: at most 2^40 tokens. -/
set_option linter.unusedVariables false
set_option linter.unusedSimpArgs false
set_option maxRecDepth 100000
namespace Go.Proofs.Ytkdgfioigkijgaa.Blk
open Go.RowKit Go.Proofs.Ytkdgfioigkijgaa.Lib Go.Proofs.Ytkdgfioigkijgaa.Ints Go.Proofs.Ytkdgfioigkijgaa.Lz
theorem frq_comm (N : Nat) (xs ys : List Int) : frq N (xs ++ ys) = frq N (ys ++ xs) := by
  unfold frq
  congr 1
  funext i
  unfold Code.cnt
  rw [List.countP_append, List.countP_append, Nat.add_comm]
theorem mk286 : ∀ w : World, (Instr.makeSlice 70 (.int .i64 286) (.int .i64 286)).run Try.prog w = .ok (.slice (some ⟨w.heap.size, 0, none⟩) 286 286) (w.alloc (.cells (i64s (frq 286 [])).toArray 3)) := fun _ => by kernel_rfl
theorem mk30 : ∀ w : World, (Instr.makeSlice 70 (.int .i64 30) (.int .i64 30)).run Try.prog w = .ok (.slice (some ⟨w.heap.size, 0, none⟩) 30 30) (w.alloc (.cells (i64s (frq 30 [])).toArray 3)) := fun _ => by kernel_rfl
theorem frq_256 : (i64s (frq 286 [])).toArray.setIfInBounds 256 (.int .i64 1) = (i64s (frq 286 [256])).toArray := by
  have := frq_set (N := 286) [] (s := 256) (by decide)
  exact this
set_option maxHeartbeats 8000000 in
theorem rownLens_any (w : World) (A : Option Addr) (n c : Nat) (l : List Tok) (p : Option Nat) (hn : l.length = n) (hS : Sl w A (tcells l) p) (hb : n ≤ 6000000000000) (hl : LitB l) :
    Calls Try.prog 27 #[.slice A n c] w (OwnPost w l) := by
  have HS := Hd.mk hS
  have HL := Hd.mk hl
  obtain ⟨e, he⟩ : ∃ e, e = mayB l := ⟨_, rfl⟩
  have HE := Hd.mk he
  clear hS hl he
  have hm1 := mk286
  have hm2 := mk30
  go_enter Try.func27, Try.ntmps27
  go_wp2_with (fail)
  refine (rmay_any w A n c l p hn HS.out hb e HE.out).mono ?_
  rintro r w1 ⟨rfl, h1⟩
  have F1 := Hd.mk h1
  clear h1
  by_cases h : e = 0
  · subst h
    have hz := mayB_zero HE.out.symm
    have HZ := Hd.mk hz.2
    have hz3 := hz.1
    clear hz
    go_upto_region 4 with (fail)
    go_cut [6, 7] from 27 to 28 (fun s6 s7 wc => ∃ gx gy : Nat, s6 = .slice (some ⟨gx, 0, none⟩) 286 286 ∧ s7 = .slice (some ⟨gy, 0, none⟩) 30 30 ∧ gx ≠ gy ∧ w.heap.size ≤ gx ∧ w.heap.size ≤ gy ∧ Hd (wc.heap[gx]? = some (.cells (i64s (frq 286 [])).toArray 3 (0, 0))) ∧ Hd (wc.heap[gy]? = some (.cells (i64s (frq 30 [])).toArray 3 (0, 0))) ∧ Hd (Fr w wc []))
    case first =>
      have hsz := F1.out.size
      go_region
      · go_wp2
        go_meet
        case rel => exact ⟨w1.heap.size, w1.heap.size + 1, rfl, rfl, by omega, by omega, by omega, ⟨blk_alloc (blk_new w1 _) _⟩, ⟨by rw [drew_heap]; simpa using blk_new (w1.alloc _) _⟩, ⟨((F1.out.alloc _).alloc _).drew⟩⟩
      · go_wp2
        go_meet
        case rel => exact ⟨w1.heap.size + 1, w1.heap.size, rfl, rfl, by omega, by omega, by omega, ⟨by rw [drew_heap]; simpa using blk_new (w1.alloc _) _⟩, ⟨blk_alloc (blk_new w1 _) _⟩, ⟨((F1.out.alloc _).alloc _).drew⟩⟩
    case rest =>
      obtain ⟨gx, gy, rfl, rfl, hxy, hgx, hgy, X2, Y2, F2⟩ := hcut
      clear hm1 hm2 F1
      have q0 := (blk_cell X2.out 256).trans (frq_get (N := 286) [] (s := 256) (by decide))
      have q1 := blk_frozen X2.out 256
      have X3 : Hd ((wc.setCell ⟨gx, 256, none⟩ (.int .i64 1)).heap[gx]? = some (.cells (i64s (frq 286 ([256] ++ symsA (l.take 0)))).toArray 3 (0, 0))) := ⟨by have := blk_set X2.out 256 (.int .i64 1); rw [frq_256] at this; exact this⟩
      have Y3 : Hd ((wc.setCell ⟨gx, 256, none⟩ (.int .i64 1)).heap[gy]? = some (.cells (i64s (frq 30 (symsB (l.take 0)))).toArray 3 (0, 0))) := ⟨blk_far Y2.out (p := ⟨gx, 256, none⟩) hxy.symm _⟩
      have F3 : Hd (Fr w (wc.setCell ⟨gx, 256, none⟩ (.int .i64 1)) []) := ⟨F2.out.setCell (a := ⟨gx, 256, none⟩) (.int .i64 1) (.inr hgx)⟩
      clear X2 Y2 F2
      go_wp2
      go_loopg [33] l.length (fun kq jv wr => ∃ j : Nat, jv = .int .i64 (j : Nat) ∧ j + kq = l.length ∧ Hd (wr.heap[gx]? = some (.cells (i64s (frq 286 ([256] ++ symsA (l.take j)))).toArray 3 (0, 0))) ∧ Hd (wr.heap[gy]? = some (.cells (i64s (frq 30 (symsB (l.take j)))).toArray 3 (0, 0))) ∧ Hd (Fr w wr []))
      case atStart => exact ⟨0, rfl, by omega, X3, Y3, F3⟩
      case round =>
        obtain ⟨j, rfl, hj, HX, HY, HF⟩ := hrel
        have hca := symsA_len (l.take j)
        have hcb := symsB_len (l.take j)
        rw [List.length_take] at hca hcb
        by_cases h1 : j < l.length
        · obtain ⟨a, o1, rfl, _, hcc⟩ := Sl.row (enc := tcell) (sz := 3) (fun _ => rfl) (HS.out.frame HF.out (by simp)) h1 (by decide)
          obtain ⟨t, ht⟩ : ∃ t, t = l[j] := ⟨_, rfl⟩
          rw [← ht] at hcc
          have c0 := hcc 0 (by decide)
          have c1 := hcc 1 (by decide)
          have c2 := hcc 2 (by decide)
          simp only [tcell, List.getElem?_cons_zero, List.getElem?_cons_succ, Nat.add_zero] at c0 c1 c2
          have htm : t ∈ l := by rw [ht]; exact List.getElem_mem h1
          have hrt := HZ.out t htm
          have hlt := HL.out t htm
          have HTA : Hd ([256] ++ symsA (l.take (j + 1)) = [256] ++ symsA (l.take j) ++ [(sgA t).1]) := ⟨by rw [symsA_take h1, ht, List.append_assoc]⟩
          have HTB : Hd (symsB (l.take (j + 1)) = symsB (l.take j) ++ if t.len = 0 then [] else [(sgB t).1]) := ⟨by rw [symsB_take h1, ht]⟩
          have sa := (sgA_fit hrt hlt).1.sym
          have sb := (sgB_fit hrt).sym
          have hca2 : ([256] ++ symsA (l.take j)).length ≤ 65536 + 1 := by rw [List.length_append, List.length_singleton]; omega
          clear hcc ht htm
          generalize [256] ++ symsA (l.take j) = SA at *
          generalize symsB (l.take j) = SB at *
          have A0 := (Fr.refl wr []).alloc (.cells #[.int .u8 t.lit, .int .i64 t.len, .int .i64 t.dist] 49)
          by_cases hlen : t.len = 0
          · have hsa : (sgA t).1 = t.lit := by unfold sgA; rw [if_pos hlen]
            rw [hsa] at sa HTA
            rw [if_pos hlen, List.append_nil] at HTB
            obtain ⟨lt, ln, ld⟩ := t
            simp only at hlen hlt sa HTA A0
            subst hlen
            obtain ⟨lt, rfl⟩ := Int.eq_ofNat_of_zero_le hlt.1
            have hlt2 : (lt : Int) ≤ 255 := hlt.2
            have X5 := Hd.mk (A0.blk HX.out (by simp))
            have Y5 := Hd.mk (A0.blk HY.out (by simp))
            have kx := (blk_cell X5.out lt).trans (frq_get SA (s := lt) (by omega))
            have fx := blk_frozen X5.out lt
            have hcx := cnt_le SA lt
            have X6 := Hd.mk (blk_set X5.out lt (.int .i64 ((Code.cnt SA lt : Nat) + 1 : Int)))
            rw [frq_set SA (by omega), ← HTA.out] at X6
            have Y6 := Hd.mk (blk_far Y5.out (p := ⟨gx, lt, none⟩) hxy.symm (.int .i64 ((Code.cnt SA lt : Nat) + 1 : Int)))
            have F6 := Hd.mk ((HF.out.trans A0 (by simp)).setCell (a := ⟨gx, lt, none⟩) (.int .i64 ((Code.cnt SA lt : Nat) + 1 : Int)) (.inr hgx))
            generalize Code.cnt SA lt = cx at *
            have hcx2 : (cx : Int) ≤ 65537 := by omega
            clear hcx A0 HX HY sa sb hlt
            go_wp2
            go_roundg (gk - 1)
            case measure => omega
            case rel => exact ⟨j + 1, by go_num, by omega, X6, ⟨by rw [HTB.out]; exact Y6.out⟩, F6⟩
          · have hla : (sgA t).1 = (symN lenT 257 3 258 t.len).1 := by unfold sgA; rw [if_neg hlen]
            have hlb : (sgB t).1 = (symN distT 0 1 32768 t.dist).1 := by unfold sgB; rw [if_neg hlen]
            rw [if_neg hlen] at HTB
            have hle : (t.len == 0) = false := by simpa using hlen
            obtain ⟨⟨s1, s2, s3, s4⟩, hs⟩ : ∃ x, x = symN lenT 257 3 258 t.len := ⟨_, rfl⟩
            obtain ⟨⟨u1, u2, u3, u4⟩, hu⟩ : ∃ x, x = symN distT 0 1 32768 t.dist := ⟨_, rfl⟩
            rw [hla, ← hs] at sa HTA
            rw [hlb, ← hu] at sb HTB
            simp only at sa sb HTA HTB
            have HS1 := Hd.mk hs
            have HU1 := Hd.mk hu
            obtain ⟨s1, rfl⟩ := Int.eq_ofNat_of_zero_le sa.1
            obtain ⟨u1, rfl⟩ := Int.eq_ofNat_of_zero_le sb.1
            clear hla hlb hs hu
            go_wp2_with (fail)
            have bz := blk_new wr (.cells #[.int .u8 t.lit, .int .i64 t.len, .int .i64 t.dist] 49)
            refine (rlenSymbol_any _ t.len).mono ?_
            rintro r w3 ⟨rfl, h3⟩
            rw [← HS1.out]
            have f3 := A0.trans h3 (by simp)
            have BZ := Hd.mk (h3.blk bz (by simp))
            clear h3 bz A0
            have d2 := blk_cell BZ.out 2
            simp only [List.getElem?_toArray, List.getElem?_cons_zero, List.getElem?_cons_succ] at d2
            go_wp2_with (fail)
            refine (rdistSymbol_any w3 t.dist).mono ?_
            rintro r w4 ⟨rfl, h3⟩
            rw [← HU1.out]
            have f4 := f3.trans h3 (by simp)
            have F4 := Hd.mk (HF.out.trans f4 (by simp))
            have X5 := Hd.mk (f4.blk HX.out (by simp))
            have Y5 := Hd.mk (f4.blk HY.out (by simp))
            clear h3 f3 f4 BZ d2
            simp only
            have kx := (blk_cell X5.out s1).trans (frq_get SA (s := s1) (by omega))
            have fx := blk_frozen X5.out s1
            have hcx := cnt_le SA s1
            have X6 := Hd.mk (blk_set X5.out s1 (.int .i64 ((Code.cnt SA s1 : Nat) + 1 : Int)))
            rw [frq_set SA (by omega), ← HTA.out] at X6
            have Y6 := Hd.mk (blk_far Y5.out (p := ⟨gx, s1, none⟩) hxy.symm (.int .i64 ((Code.cnt SA s1 : Nat) + 1 : Int)))
            have F6 := Hd.mk (F4.out.setCell (a := ⟨gx, s1, none⟩) (.int .i64 ((Code.cnt SA s1 : Nat) + 1 : Int)) (.inr hgx))
            generalize Code.cnt SA s1 = cx at *
            have hcx2 : (cx : Int) ≤ 65537 := by omega
            have ky := (blk_cell Y6.out u1).trans (frq_get SB (s := u1) (by omega))
            have fy := blk_frozen Y6.out u1
            have hcy := cnt_le SB u1
            have Y7 := Hd.mk (blk_set Y6.out u1 (.int .i64 ((Code.cnt SB u1 : Nat) + 1 : Int)))
            rw [frq_set SB (by omega), ← HTB.out] at Y7
            have X7 := Hd.mk (blk_far X6.out (p := ⟨gy, u1, none⟩) hxy (.int .i64 ((Code.cnt SB u1 : Nat) + 1 : Int)))
            have F7 := Hd.mk (F6.out.setCell (a := ⟨gy, u1, none⟩) (.int .i64 ((Code.cnt SB u1 : Nat) + 1 : Int)) (.inr hgy))
            generalize Code.cnt SB u1 = cy at *
            have hcy2 : (cy : Int) ≤ 65536 := by omega
            have hs1 : (s1 : Int) < 286 := by omega
            have hu1 : (u1 : Int) < 30 := by omega
            clear hcx hcy HX HY
            go_wp2
            go_roundg (gk - 1)
            case measure => omega
            case rel => exact ⟨j + 1, by go_num, by omega, X7, Y7, F7⟩
        · obtain rfl : j = l.length := by omega
          rw [List.take_length] at HX HY
          have SX : Hd (Sl wr (some ⟨gx, 0, none⟩) (i64s (litFrq l)) (some gx)) := ⟨by have := sl_of_blk HX.out; rw [frq_comm] at this; simpa [litFrq] using this⟩
          have EA := Hd.mk (litFrq_eq hz3)
          have EB := Hd.mk (distFrq_eq hz3)
          clear X3 Y3 F3
          go_wp2_with (fail)
          refine (Lens.rlengths_any wr 15 (some ⟨gx, 0, none⟩) 286 286 (litFrq l) _ (frq_len _ _) SX.out (by omega)).mono ?_
          rintro r w6 hlp
          unfold Lens.LensPost at hlp
          obtain ⟨A8, n8, c8, rfl, h1', h2, h3⟩ := hlp
          rw [EA.out] at h1' ⊢
          have hn8 : n8 = 286 := by have := h1'.1; rw [i64s_length, ownLit_len] at this; omega
          subst hn8
          have O8 := Hd.mk h1'
          have NW8 : Hd (∀ k, (Value.slice A8 286 c8).ownBlock = some k → w.heap.size ≤ k) := ⟨fun k hk => by have := h2 k hk; have := HF.out.size; omega⟩
          have F8 := Hd.mk (HF.out.trans h3 (by simp))
          have Y8 := Hd.mk (h3.blk HY.out (by simp))
          have SY : Hd (Sl w6 (some ⟨gy, 0, none⟩) (i64s (distFrq l)) (some gy)) := ⟨by have := sl_of_blk Y8.out; simpa [distFrq] using this⟩
          clear h1' h2 h3 HF HX HY SX
          simp only
          go_wp2_with (fail)
          refine (Lens.rlengths_any w6 15 (some ⟨gy, 0, none⟩) 30 30 (distFrq l) _ (frq_len _ _) SY.out (by omega)).mono ?_
          rintro r w7 hlp
          unfold Lens.LensPost at hlp
          obtain ⟨A9, n9, c9, rfl, h1', h2, h3⟩ := hlp
          rw [EB.out] at h1' ⊢
          have hn9 : n9 = 30 := by have := h1'.1; rw [i64s_length, ownDist_len] at this; omega
          subst hn9
          have O9 := Hd.mk h1'
          have NE9 : Hd (∀ k, (Value.slice A8 286 c8).ownBlock = some k → w.heap.size ≤ k ∧ (Value.slice A9 30 c9).ownBlock ≠ some k) := ⟨fun k hk => ⟨NW8.out k hk, fun h9 => by have := h2 k h9; have := own_lt O8.out hk; omega⟩⟩
          have NW9 : Hd (∀ k, (Value.slice A9 30 c9).ownBlock = some k → w.heap.size ≤ k) := ⟨fun k hk => by have := h2 k hk; have := F8.out.size; omega⟩
          have F9 := Hd.mk (F8.out.trans h3 (by simp))
          have O10 := Hd.mk (own_frame O8.out h3 (by simp))
          clear h1' h2 h3 F8 Y8 SY O8
          simp only
          go_wp2
          go_ret3
          exact ⟨fun _ => ⟨A8, c8, A9, c9, rfl, O10.out, O9.out, NE9.out, NW9.out, F9.out⟩, fun h => absurd HE.out.symm h⟩
  · have hne : (e != 0) = true := by simpa using h
    go_wp2
    go_ret3
    exact ⟨fun h' => absurd (HE.out.trans h') h, fun _ => ⟨by rw [← HE.out]; rfl, F1.out⟩⟩
end Go.Proofs.Ytkdgfioigkijgaa.Blk
/- Chapter 10: the document's Prices walked. Condition: at most 6000000000000 tokens. -/
set_option linter.unusedVariables false
set_option linter.unusedSimpArgs false
set_option maxRecDepth 100000
namespace Go.Proofs.Ytkdgfioigkijgaa.Prs
open Go.RowKit Go.Proofs.Ytkdgfioigkijgaa.Lib Go.Proofs.Ytkdgfioigkijgaa.Ints Go.Proofs.Ytkdgfioigkijgaa.Lz Go.Proofs.Ytkdgfioigkijgaa.Num Go.Proofs.Ytkdgfioigkijgaa.Bits Go.Proofs.Ytkdgfioigkijgaa.Blk
theorem infoRPrice (a b c : Int) : (Try.prog.info? 51).map (·.size) = some (pcell a b c).size := by kernel_rfl
theorem infoRTokK : (Try.prog.info? 49).map (fun i => (i.zero, i.size, i.bytes)) = some (some (.agg #[.int .u8 0, .int .i64 0, .int .i64 0]), 3, 24) := by kernel_rfl
set_option maxHeartbeats 16000000 in
theorem rprices_any (w : World) (A : Option Addr) (n c : Nat) (l : List Tok) (p : Option Nat) (hn : l.length = n) (hnc : n ≤ c) (hA : A = none → c = 0) (hS : Sl w A (tcells l) p) (hb : n ≤ 6000000000000) (hl : LitB l) (P : Int × Int × Int) (er : Int) (hP : pricesN l = (P, er)) :
    Calls Try.prog 18 #[.slice A n c] w fun e w' => e = .returned (.tuple #[.agg (pcell P.1 P.2.1 P.2.2), .int .i64 er]) ∧ Fr w w' [] := by
  obtain ⟨i1, hi1, jz0, jz1, jz2⟩ := info_parts infoRTokK
  obtain ⟨m, hm⟩ : ∃ m, m = min n 65536 := ⟨_, rfl⟩
  obtain ⟨T, hT⟩ : ∃ T, T = l.take 65536 := ⟨_, rfl⟩
  have hTm : T = l.take m := by
    rw [hT, hm]
    rcases Nat.le_total n 65536 with h | h
    · rw [Nat.min_eq_left h, List.take_of_length_le (by omega), List.take_of_length_le (by omega)]
    · rw [Nat.min_eq_right h]
  have hTl : T.length = m := by rw [hTm, List.length_take]; omega
  have ST : Hd (Sl w A (tcells T) p) := ⟨by
    rw [hTm]
    have := hS.take (3 * m)
    have e : tcells (l.take m) = (tcells l).take (3 * m) := by
      have h2 : tcells l = tcells (l.take m) ++ tcells (l.drop m) := by rw [← tcells_app, List.take_append_drop]
      have h3 : (tcells (l.take m)).length = 3 * m := by rw [tcells_len, List.length_take]; omega
      rw [h2, ← h3, List.take_left]
    rwa [e]⟩
  have HL : Hd (LitB T) := ⟨fun t ht => hl t (by rw [hTm] at ht; exact List.mem_of_mem_take ht)⟩
  obtain ⟨ez, hez⟩ : ∃ e, e = mayB T := ⟨_, rfl⟩
  have HE := Hd.mk hez
  have HPP : Hd (if ez = 0 then P = (priceL T, priceM T, 1) ∧ er = 0 else P = (0, 0, 0) ∧ er = ez) := ⟨by
    unfold pricesN at hP
    rw [← hT, ← hez] at hP
    split at hP
    · rename_i h
      rw [if_pos h]
      injection hP with h1 h2
      exact ⟨h1.symm, h2.symm⟩
    · rename_i h
      rw [if_neg h]
      injection hP with h1 h2
      exact ⟨h1.symm, h2.symm⟩⟩
  have hq1 := Lens.run_cut_to (P := Try.prog) 46 49 .i64 Try.underlying46 hi1 3 jz1 A n c m hA (by omega)
  have hm2 : m ≤ 65536 := by omega
  clear hP hT hTm hS hl hez hA
  go_enter Try.func18, Try.ntmps18
  have F0 := Hd.mk ((Fr.refl w []).alloc (.cells (pcell 0 0 0) 51))
  have B0 := Hd.mk (blk_new w (.cells (pcell 0 0 0) 51))
  have NG : Hd (w.heap.size ≤ w.heap.size) := ⟨Nat.le_refl _⟩
  go_upto_region 1 with (fail)
  obtain ⟨w0, hw0⟩ : ∃ w0, w0 = w.alloc (.cells #[.int .i64 0, .int .i64 0, .int .i64 0] 51) := ⟨_, rfl⟩
  obtain ⟨gp, hgp⟩ : ∃ g, g = w.heap.size := ⟨_, rfl⟩
  have F0 : Hd (Fr w w0 []) := ⟨by rw [hw0]; exact F0.out⟩
  have B0 : Hd (w0.heap[gp]? = some (.cells (pcell 0 0 0) 51 (0, 0))) := ⟨by rw [hw0, hgp]; exact B0.out⟩
  have NG : Hd (w.heap.size ≤ gp) := ⟨by omega⟩
  rw [← hw0, ← hgp]
  clear hw0 hgp
  go_upto_if 24 with (fail)
  go_cut [0] from 19 to 26 (fun s0 wd => s0 = .slice A m c ∧ w0 = wd)
  case first =>
    by_cases hbig : 65536 < n
    · have hgt : (n : Int) > 65536 := by omega
      have hq2 : ∀ (W : World), (Instr.slice 46 (.slice A n c) none (some (.int .i64 65536)) none).run Try.prog W = .ok (.slice A m c) W := by
        have e : (m : Int) = 65536 := by omega
        rw [e] at hq1
        exact hq1
      clear hq1 hm hTl hm2 hbig
      go_wp2
      go_meet
      case rel => exact ⟨rfl, rfl⟩
    · obtain rfl : m = n := by omega
      have hgt : ¬ (m : Int) > 65536 := by omega
      clear hq1 hm hTl hbig
      go_wp2
      go_meet
      case rel => exact ⟨rfl, rfl⟩
  case rest =>
  obtain ⟨rfl, rfl⟩ := hcut
  clear hm
  go_wp2_with (fail)
  refine (rownLens_any w0 A m c T p hTl (ST.out.frame F0.out (by simp)) (by omega) HL.out).mono ?_
  rintro e w1 hO
  have HO := Hd.mk hO
  clear hO hq1
  by_cases h0 : ez = 0
  · subst h0
    obtain ⟨A1, c1, B1, d1, rfl, o1, o2, o3, o4, h1⟩ := HO.out.1 HE.out.symm
    have O1 := Hd.mk o1
    have O2 := Hd.mk o2
    have F1 := Hd.mk (F0.out.trans h1 (by simp))
    have P1 := Hd.mk (h1.blk B0.out (by simp))
    have hPP := HPP.out
    rw [if_pos rfl] at hPP
    obtain ⟨hP1, rfl⟩ := hPP
    have HP1 := Hd.mk hP1
    have HR := Hd.mk (mayB_zero HE.out.symm).2
    have L1 := Hd.mk (check15 (ownLit_check T))
    have L2 := Hd.mk (check15 (ownDist_check T))
    have SL1 := Hd.mk (sl_of_own o1)
    have SL2 := Hd.mk (sl_of_own o2)
    have N1 : Hd (w.heap.size ≤ w1.heap.size) := ⟨F1.out.size⟩
    have e1 := ownLit_len T
    have e2 := ownDist_len T
    obtain ⟨bx, ox, hx1, _, _⟩ := SL1.out (by rw [i64s_length]; omega)
    obtain ⟨by_, oy, hy1, _, _⟩ := SL2.out (by rw [i64s_length]; omega)
    subst hx1 hy1
    clear o1 o2 o3 o4 h1 hP1 HPP HO B0 F0
    obtain ⟨lt, hlt⟩ : ∃ x, x = ownLit T := ⟨_, rfl⟩
    obtain ⟨ds, hds⟩ : ∃ x, x = ownDist T := ⟨_, rfl⟩
    have HPR : Hd (P = (meanN (sumF (fA lt) T) (sumF fN T) 8, meanN (sumF (fB lt ds) T) (sumF fM T) 20, 1)) := ⟨by rw [HP1.out, hlt, hds]; rfl⟩
    rw [← hlt] at SL1 O1 L1 e1
    rw [← hds] at SL2 O2 L2 e2
    clear hlt hds HP1
    go_wp2
    go_loopg [7, 8, 9, 10, 11] m (fun kq v7 v8 v9 v10 jv wr => ∃ j : Nat, jv = .int .i64 (j : Nat) ∧ j + kq = m ∧ v7 = .int .i64 (sumF fN (T.take j)) ∧ v8 = .int .i64 (sumF fM (T.take j)) ∧ v9 = .int .i64 (sumF (fA lt) (T.take j)) ∧ v10 = .int .i64 (sumF (fB lt ds) (T.take j)) ∧ Hd (Fr w1 wr []))
    case atStart => exact ⟨0, rfl, by omega, rfl, rfl, rfl, rfl, ⟨Fr.refl _ _⟩⟩
    case round =>
      obtain ⟨j, rfl, hj, rfl, rfl, rfl, rfl, HF⟩ := hrel
      have hmt : ∀ t ∈ T.take j, t ∈ T := fun t ht => List.mem_of_mem_take ht
      have hlen : ((T.take j).length : Int) ≤ 65536 := by rw [List.length_take]; omega
      have y1 := sumF_le (f := fA lt) (K := 15) (l := T.take j) (fun t ht => fA_le L1.out t)
      have y2 := sumF_le (f := fN) (K := 1) (l := T.take j) (fun t ht => fN_le t)
      have y3 := sumF_le (f := fB lt ds) (K := 35) (l := T.take j) (fun t ht => fB_le L1.out L2.out (HR.out t (hmt t ht)) (HL.out t (hmt t ht)))
      have y4 := sumF_le (f := fM) (K := 1) (l := T.take j) (fun t ht => fM_le t)
      have z1 : sumF (fA lt) (T.take j) ≤ 15 * 65536 := Int.le_trans y1.2 (by omega)
      have z2 : sumF fN (T.take j) ≤ 1 * 65536 := Int.le_trans y2.2 (by omega)
      have z3 : sumF (fB lt ds) (T.take j) ≤ 35 * 65536 := Int.le_trans y3.2 (by omega)
      have z4 : sumF fM (T.take j) ≤ 1 * 65536 := Int.le_trans y4.2 (by omega)
      replace y1 := y1.1
      replace y2 := y2.1
      replace y3 := y3.1
      replace y4 := y4.1
      clear hmt hlen
      by_cases h1 : j < m
      · have hjt : j < T.length := by omega
        have s1 : Hd (sumF (fA lt) (T.take (j + 1)) = sumF (fA lt) (T.take j) + fA lt T[j]) := ⟨sumF_take _ hjt⟩
        have s2 : Hd (sumF fN (T.take (j + 1)) = sumF fN (T.take j) + fN T[j]) := ⟨sumF_take _ hjt⟩
        have s3 : Hd (sumF (fB lt ds) (T.take (j + 1)) = sumF (fB lt ds) (T.take j) + fB lt ds T[j]) := ⟨sumF_take _ hjt⟩
        have s4 : Hd (sumF fM (T.take (j + 1)) = sumF fM (T.take j) + fM T[j]) := ⟨sumF_take _ hjt⟩
        obtain ⟨a, o1, rfl, _, hcc⟩ := Sl.row (enc := tcell) (sz := 3) (fun _ => rfl) (ST.out.frame (F1.out.trans HF.out (by simp)) (by simp)) hjt (by decide)
        obtain ⟨t, ht⟩ : ∃ t, t = T[j] := ⟨_, rfl⟩
        rw [← ht] at hcc s1 s2 s3 s4
        have c0 := hcc 0 (by decide)
        have c1 := hcc 1 (by decide)
        have c2 := hcc 2 (by decide)
        simp only [tcell, List.getElem?_cons_zero, List.getElem?_cons_succ, Nat.add_zero] at c0 c1 c2
        have htm : t ∈ T := by rw [ht]; exact List.getElem_mem hjt
        have hrt := HR.out t htm
        have hlt := HL.out t htm
        have A0 := (Fr.refl wr []).alloc (.cells #[.int .u8 t.lit, .int .i64 t.len, .int .i64 t.dist] 49)
        have F5 := Hd.mk (HF.out.trans A0 (by simp))
        have hjI : (j : Int) < (m : Nat) := by omega
        generalize sumF (fA lt) (T.take j) = sA at *
        generalize sumF fN (T.take j) = sN at *
        generalize sumF (fB lt ds) (T.take j) = sB at *
        generalize sumF fM (T.take j) = sM at *
        clear hcc ht htm HF A0
        by_cases hlen : t.len = 0
        · have u1 : Hd (fA lt t = lt.getD t.lit.toNat 0) := ⟨by unfold fA; rw [if_pos hlen]⟩
          have u2 : Hd (fN t = 1) := ⟨by unfold fN; rw [if_pos hlen]⟩
          have u3 : Hd (fB lt ds t = 0) := ⟨by unfold fB; rw [if_pos hlen]⟩
          have u4 : Hd (fM t = 0) := ⟨by unfold fM; rw [if_pos hlen]⟩
          obtain ⟨tl, tn, td⟩ := t
          simp only at hlen hlt u1
          subst hlen
          obtain ⟨tl, rfl⟩ := Int.eq_ofNat_of_zero_le hlt.1
          rw [Int.toNat_natCast] at u1
          have hlt2 : (tl : Int) ≤ 255 := hlt.2
          have kx := i64_getD (SL1.out.frame F5.out (by simp)) (i := tl) (by omega) rfl
          have hx := lens15_get L1.out tl
          generalize lt.getD tl 0 = x at *
          go_wp2
          go_roundg (gk - 1)
          case measure => omega
          case rel =>
            refine ⟨j + 1, by go_num, by omega, ?_, ?_, ?_, ?_, F5⟩
            · rw [s2.out, u2.out]
            · rw [s4.out, u4.out, Int.add_zero]
            · rw [s1.out, u1.out]
            · rw [s3.out, u3.out, Int.add_zero]
        · have sa := (sgA_fit hrt hlt).1
          have sb := sgB_fit hrt
          have u1 : Hd (fA lt t = 0) := ⟨by unfold fA; rw [if_neg hlen]⟩
          have u2 : Hd (fN t = 0) := ⟨by unfold fN; rw [if_neg hlen]⟩
          have u3 : Hd (fB lt ds t = lt.getD (sgA t).1.toNat 0 + (sgA t).2.2 + ds.getD (sgB t).1.toNat 0) := ⟨by unfold fB; rw [if_neg hlen]⟩
          have u4 : Hd (fM t = 1) := ⟨by unfold fM; rw [if_neg hlen]⟩
          have ea : sgA t = ((symN lenT 257 3 258 t.len).1, (symN lenT 257 3 258 t.len).2.2.1, (symN lenT 257 3 258 t.len).2.1) := by unfold sgA; rw [if_neg hlen]
          have eb : sgB t = ((symN distT 0 1 32768 t.dist).1, (symN distT 0 1 32768 t.dist).2.2.1, (symN distT 0 1 32768 t.dist).2.1) := by unfold sgB; rw [if_neg hlen]
          rw [ea] at sa u3
          rw [eb] at sb u3
          obtain ⟨⟨a1, a2⟩, ⟨a3, a4⟩, a5, a6⟩ := sa
          obtain ⟨⟨b1, b2⟩, ⟨b3, b4⟩, b5, b6⟩ := sb
          simp only at a1 a2 a3 a4 b1 b2 u3
          clear a5 a6 b5 b6 b3 b4 ea eb
          obtain ⟨⟨sx, mx, vx, ex⟩, hsx⟩ : ∃ x, x = symN lenT 257 3 258 t.len := ⟨_, rfl⟩
          obtain ⟨⟨sy, my, vy, ey⟩, hsy⟩ : ∃ x, x = symN distT 0 1 32768 t.dist := ⟨_, rfl⟩
          rw [← hsx] at a1 a2 a3 a4 u3
          rw [← hsy] at b1 b2 u3
          have HSX := Hd.mk hsx
          have HSY := Hd.mk hsy
          clear hsx hsy
          simp only at a1 a2 a3 a4 b1 b2 u3
          obtain ⟨sx, rfl⟩ := Int.eq_ofNat_of_zero_le a1
          obtain ⟨sy, rfl⟩ := Int.eq_ofNat_of_zero_le b1
          rw [Int.toNat_natCast, Int.toNat_natCast] at u3
          have hkx := lens15_get L1.out sx
          have hky := lens15_get L2.out sy
          have kx := fun (w' : World) (hf : Fr w1 w' []) => i64_getD (SL1.out.frame hf (by simp)) (i := sx) (by omega) rfl
          have ky := fun (w' : World) (hf : Fr w1 w' []) => i64_getD (SL2.out.frame hf (by simp)) (i := sy) (by omega) rfl
          generalize lt.getD sx 0 = x at *
          generalize ds.getD sy 0 = y at *
          have BT := Hd.mk (blk_new wr (.cells #[.int .u8 t.lit, .int .i64 t.len, .int .i64 t.dist] 49))
          go_wp2_with (fail)
          refine (rlenSymbol_any _ t.len).mono ?_
          rintro e w3 ⟨rfl, h3⟩
          rw [← HSX.out]
          have BT6 := Hd.mk (h3.blk BT.out (by simp))
          have F6 := Hd.mk (F5.out.trans h3 (by simp))
          clear h3 F5 BT c0 c1 c2
          have d2 := blk_cell BT6.out 2
          simp only [List.getElem?_toArray, List.getElem?_cons_zero, List.getElem?_cons_succ] at d2
          simp only
          go_wp2_with (fail)
          refine (rdistSymbol_any _ t.dist).mono ?_
          rintro e w4 ⟨rfl, h3⟩
          rw [← HSY.out]
          have F7 := Hd.mk (F6.out.trans h3 (by simp))
          clear h3 F6 BT6 d2
          have kx1 := kx w4 F7.out
          have ky1 := ky w4 F7.out
          simp only
          go_upto_region 17 with (fail)
          clear kx ky
          have n1 : IntKind.i64.wrap (x + mx) = x + mx := IntWalk.i64_in _ (by omega)
          have n2 : IntKind.i64.wrap (x + mx + y) = x + mx + y := IntWalk.i64_in _ (by omega)
          have n3 : IntKind.i64.wrap (sB + (x + mx + y)) = sB + (x + mx + y) := IntWalk.i64_in _ (by omega)
          go_region
          go_wp2
          go_roundg (gk - 1)
          case measure => omega
          case rel =>
            refine ⟨j + 1, by go_num, by omega, ?_, ?_, ?_, ?_, ⟨F7.out.drew⟩⟩
            · rw [s2.out, u2.out, Int.add_zero]
            · rw [s4.out, u4.out]
            · rw [s1.out, u1.out, Int.add_zero]
            · rw [s3.out, u3.out]
      · obtain rfl : j = m := by omega
        have eT : T.take j = T := List.take_of_length_le (by omega)
        rw [eT] at y1 y2 y3 y4 z1 z2 z3 z4 ⊢
        have P3 := Hd.mk (HF.out.blk P1.out (by simp))
        obtain ⟨pa, hpa⟩ : ∃ x, x = meanN (sumF (fA lt) T) (sumF fN T) 8 := ⟨_, rfl⟩
        obtain ⟨pm, hpm⟩ : ∃ x, x = meanN (sumF (fB lt ds) T) (sumF fM T) 20 := ⟨_, rfl⟩
        have HPR2 : Hd (P = (pa, pm, 1)) := ⟨by rw [HPR.out, hpa, hpm]⟩
        have HPA := Hd.mk hpa
        have HPM := Hd.mk hpm
        clear hpa hpm HPR eT
        generalize sumF (fA lt) T = sA at *
        generalize sumF fN T = sN at *
        generalize sumF (fB lt ds) T = sB at *
        generalize sumF fM T = sM at *
        go_upto_if 92 with (fail)
        have Q0 := Hd.mk (blk_new wr (.cells (pcell 8 20 1) 51))
        have G0 := Hd.mk (HF.out.alloc (.cells (pcell 8 20 1) 51))
        have Q1 : Hd ((wr.alloc (.cells #[.int .i64 8, .int .i64 20, .int .i64 1] 51)).heap[wr.heap.size]? = some (.cells (pcell 8 20 1) 51 (0, 0))) := ⟨Q0.out⟩
        have G1 : Hd (Fr w1 (wr.alloc (.cells #[.int .i64 8, .int .i64 20, .int .i64 1] 51)) []) := ⟨G0.out⟩
        have NQ : w1.heap.size ≤ wr.heap.size := HF.out.size
        clear Q0 G0 HF P3
        generalize wr.alloc (.cells #[.int .i64 8, .int .i64 20, .int .i64 1] 51) = w4 at *
        generalize wr.heap.size = gq at *
        go_cut [21] from 92 to 99 (fun s wd => s = .pointer (some ⟨gq, 0, none⟩) ∧ Hd (wd.heap[gq]? = some (.cells (pcell pa 20 1) 51 (0, 0))) ∧ Hd (Fr w1 wd []))
        case first =>
          by_cases h : sN = 0
          · have hlt : ¬ (0 : Int) < sN := by omega
            have e : Hd (pa = 8) := ⟨by rw [HPA.out, h]; rfl⟩
            clear h
            go_wp2
            go_meet
            case rel => exact ⟨rfl, ⟨by rw [e.out]; exact Q1.out⟩, G1⟩
          · have hlt : (0 : Int) < sN := by omega
            have hq : 0 ≤ (sA + sN - 1).tdiv sN ∧ (sA + sN - 1).tdiv sN ≤ sA + sN - 1 := by
              rw [Int.tdiv_eq_ediv_of_nonneg (by omega)]
              exact ⟨Int.ediv_nonneg (by omega) (by omega), Int.ediv_le_self _ (by omega)⟩
            have e : Hd (pa = (sA + sN - 1).tdiv sN) := ⟨by rw [HPA.out]; unfold meanN; rw [if_neg h]⟩
            obtain ⟨y, hy⟩ : ∃ y, y = (sA + sN - 1).tdiv sN := ⟨_, rfl⟩
            rw [← hy] at hq e
            have hyq : (sA + sN - 1).tdiv sN = y := hy.symm
            have hz : (sN == 0) = false := by simpa using h
            have f0 := blk_frozen Q1.out 0
            have k0 := blk_cell Q1.out 0
            simp only [pcell, List.getElem?_toArray, List.getElem?_cons_zero, List.getElem?_cons_succ] at k0
            have Q2 := Hd.mk (blk_set Q1.out 0 (.int .i64 y))
            have G2 := Hd.mk (G1.out.setCell (a := ⟨gq, 0, none⟩) (.int .i64 y) (.inr NQ))
            clear hy h
            go_wp2
            go_meet
            case rel => exact ⟨rfl, ⟨by rw [e.out]; exact Q2.out⟩, G2⟩
        case rest =>
        obtain ⟨rfl, Q2, G2⟩ := hcut
        obtain ⟨w5, rfl⟩ : ∃ w5 : World, w5 = wc := ⟨_, rfl⟩
        clear Q1 G1
        go_upto_if 101 with (fail)
        go_cut [21] from 101 to 108 (fun s wd => s = .pointer (some ⟨gq, 0, none⟩) ∧ Hd (wd.heap[gq]? = some (.cells (pcell pa pm 1) 51 (0, 0))) ∧ Hd (Fr w1 wd []))
        case first =>
          by_cases h : sM = 0
          · have hlt : ¬ (0 : Int) < sM := by omega
            have e : Hd (pm = 20) := ⟨by rw [HPM.out, h]; rfl⟩
            clear h
            go_wp2
            go_meet
            case rel => exact ⟨rfl, ⟨by rw [e.out]; exact Q2.out⟩, G2⟩
          · have hlt : (0 : Int) < sM := by omega
            have hq : 0 ≤ (sB + sM - 1).tdiv sM ∧ (sB + sM - 1).tdiv sM ≤ sB + sM - 1 := by
              rw [Int.tdiv_eq_ediv_of_nonneg (by omega)]
              exact ⟨Int.ediv_nonneg (by omega) (by omega), Int.ediv_le_self _ (by omega)⟩
            have e : Hd (pm = (sB + sM - 1).tdiv sM) := ⟨by rw [HPM.out]; unfold meanN; rw [if_neg h]⟩
            obtain ⟨y, hy⟩ : ∃ y, y = (sB + sM - 1).tdiv sM := ⟨_, rfl⟩
            rw [← hy] at hq e
            have hyq : (sB + sM - 1).tdiv sM = y := hy.symm
            have hz : (sM == 0) = false := by simpa using h
            have f0 := blk_frozen Q2.out 1
            have k0 := blk_cell Q2.out 1
            simp only [pcell, List.getElem?_toArray, List.getElem?_cons_zero, List.getElem?_cons_succ] at k0
            have Q3 := Hd.mk (blk_set Q2.out 1 (.int .i64 y))
            have G3 := Hd.mk (G2.out.setCell (a := ⟨gq, 1, none⟩) (.int .i64 y) (.inr NQ))
            clear hy h
            go_wp2
            go_meet
            case rel => exact ⟨rfl, ⟨by rw [e.out]; exact Q3.out⟩, G3⟩
        case rest =>
        obtain ⟨rfl, Q3, G3⟩ := hcut
        obtain ⟨w6, rfl⟩ : ∃ w6 : World, w6 = wc := ⟨_, rfl⟩
        clear Q2 G2
        have P7 := Hd.mk (G3.out.blk P1.out (by simp))
        have F7 := Hd.mk (F1.out.trans G3.out (by simp))
        have R8 := Hd.mk (setRow_heap w6 gp _ (pcell pa pm 1) _ _ P7.out)
        have F8 := Hd.mk (Code.Fr.setRow (F := []) F7.out (g := gp) (pcell pa pm 1) (.inr NG.out))
        have k0 := blk_cell Q3.out 0
        have k1 := blk_cell Q3.out 1
        have k2 := blk_cell Q3.out 2
        simp only [pcell, List.getElem?_toArray, List.getElem?_cons_zero, List.getElem?_cons_succ] at k0 k1 k2
        go_wp2_with (refine wpList_store_row rfl 51 _ _ rfl gp (pcell pa pm 1) rfl rfl 51 _ (by exact P7.out) (by kernel_rfl) (by kernel_rfl) (by kernel_rfl) ?_)
        refine bodyPost_ret (results_pr rfl _ _ gp _ rfl (run_loadVar_row _ gp 51 51 (pcell pa pm 1) _ _ (by exact R8.out) Try.underlying51 rfl (infoRPrice _ _ _))) rfl ?_
        rw [HPR2.out]
        exact ⟨rfl, F8.out⟩
  · have hne : (ez != 0) = true := by simpa using h0
    obtain ⟨rfl, h1⟩ := HO.out.2 (by rw [← HE.out]; exact h0)
    have hPP := HPP.out
    rw [if_neg h0] at hPP
    obtain ⟨rfl, rfl⟩ := hPP
    rw [← HE.out]
    have P1 := Hd.mk (h1.blk B0.out (by simp))
    have F1 := Hd.mk (F0.out.trans h1 (by simp))
    clear h1 HO HPP
    have R8 := Hd.mk (setRow_heap w1 gp _ (pcell 0 0 0) _ _ P1.out)
    have F8 := Hd.mk (Code.Fr.setRow (F := []) F1.out (g := gp) (pcell 0 0 0) (.inr NG.out))
    go_wp2_with (refine wpList_store_row rfl 51 _ _ rfl gp (pcell 0 0 0) rfl rfl 51 _ (by exact P1.out) (by kernel_rfl) (by kernel_rfl) (by kernel_rfl) ?_)
    refine bodyPost_ret (results_pr rfl _ _ gp _ rfl (run_loadVar_row _ gp 51 51 (pcell 0 0 0) _ _ (by exact R8.out) Try.underlying51 rfl (infoRPrice _ _ _))) rfl ?_
    exact ⟨rfl, F8.out⟩
end Go.Proofs.Ytkdgfioigkijgaa.Prs
/- Chapter 10: awake; PressNames. No condition. -/
set_option linter.unusedVariables false
set_option linter.unusedSimpArgs false
set_option maxRecDepth 100000
namespace Go.Proofs.Ytkdgfioigkijgaa.Prs
open Go.RowKit Go.Proofs.Ytkdgfioigkijgaa.Lib Go.Proofs.Ytkdgfioigkijgaa.Ints Go.Proofs.Ytkdgfioigkijgaa.Lz Go.Proofs.Ytkdgfioigkijgaa.Num Go.Proofs.Ytkdgfioigkijgaa.Bits Go.Proofs.Ytkdgfioigkijgaa.Blk
theorem p1 : parse [97] ⟨100, 10, false⟩ = ex5 := by kernel_rfl
theorem ex5_one : (∀ t ∈ ex5, right t = true) ∧ LitB ex5 := by
  constructor
  · intro t ht; simp [ex5] at ht; subst ht; rfl
  · intro t ht; simp [ex5] at ht; subst ht; exact ⟨by decide, by decide⟩
theorem c0 : costK 0 0 ex5 = (48, 0) := by decide +kernel
theorem c1 : costK 1 0 ex5 = (18, 0) := by decide +kernel
theorem c2 : (costK 2 0 ex5).2 = 0 ∧ 29 ≤ (costK 2 0 ex5).1 := by
  refine ⟨rfl, ?_⟩
  have h1 := codedF_le (check15 (ownLit_check ex5)) (check15 (ownDist_check ex5)) ex5 ex5_one.1 ex5_one.2
  have h2 := lens15_get (check15 (ownLit_check ex5)) 256
  obtain ⟨_, r2, _⟩ := Head.hruns_ok (own_okH ex5)
  have h3 := Head.costF_le (Head.hlens_le (rs := Head.hruns (ownLit ex5) (ownDist ex5)) (by omega)) (Head.hruns (ownLit ex5) (ownDist ex5))
  have h4 := Head.toldN_ge (Head.hlens (Head.hruns (ownLit ex5) (ownDist ex5))) 19
  have e : (costK 2 0 ex5).1 = 3 + Head.hcost (ownLit ex5) (ownDist ex5) + codedN (ownLit ex5) (ownDist ex5) ex5 := rfl
  rw [e]
  unfold Head.hcost codedN
  omega
theorem p2 : kdN 0 ex5 = 1 := by
  obtain ⟨h1, h2⟩ := c2
  have e0 : pickF 0 ex5 1 = (0, 48) := by rw [pickF, c0]; rfl
  have e1 : pickF 0 ex5 2 = (1, 18) := by rw [pickF, c1, e0]; rfl
  have e2 : pickF 0 ex5 3 = (1, 18) := by rw [pickF, e1]; rw [if_neg]; rintro ⟨_, h | h⟩ <;> simp at h <;> omega
  have e3 : kdN 0 ex5 = (pickF 0 ex5 3).1.toNat := rfl
  rw [e3, e2]
  rfl
theorem bt1 : btN ex5 5 1 = 18 := by
  have e : btN ex5 5 1 = 0 + csN 0 ex5 := rfl
  rw [e]
  unfold csN
  rw [p2]
  have e3 : costK 1 (((0 % 8 : Nat)) : Int) ex5 = (18, 0) := c1
  rw [e3]
  rfl
theorem nb1 : numOf (PBx ex5 [97] 5 (List.range 1)) = 0x044b := by
  have e : PBx ex5 [97] 5 (List.range 1) = [] ++ blockP (kdN 0 ex5) 0 true [97] ex5 := rfl
  rw [e, p2]
  exact ex5_bits.2

theorem num10_any (w : World) (a : Int) : Calls Try.prog 9 #[.int .i64 a] w fun e w' => e = .returned (.int .i64 a) ∧ w = w' := by
  go_enter Try.func9, Try.ntmps9
  go_wp2
  go_ret
  exact ⟨rfl, rfl⟩
theorem goodInfo : (Try.prog.info? 28).map (·.size) = some (#[Value.int .i64 100, .int .i64 10, .bool false, .int .i64 5] : Array Value).size := by kernel_rfl
theorem good_any (w : World) : Calls Try.prog 14 #[] w fun e w' => e = .returned (.agg #[.int .i64 100, .int .i64 10, .bool false, .int .i64 5]) ∧ Fr w w' [] := by
  go_enter Try.func14, Try.ntmps14
  go_wp2
  (try simp only [Exit.inBlock, Exit.then])
  refine bodyPost_ret (results_cell_row rfl _ _ w.heap.size 28 _ _ _ rfl (blk_new w _) Try.underlying28 rfl goodInfo) rfl ?_
  exact ⟨rfl, (Fr.refl w []).alloc _⟩
theorem same10_any (w : World) (A B : Option Addr) (n m c d : Nat) (xs ys : List Int) (p q : Option Nat) (hn : xs.length = n) (hm : ys.length = m) (hx : ∀ x ∈ xs, 0 ≤ x ∧ x ≤ 255) (hy : ∀ x ∈ ys, 0 ≤ x ∧ x ≤ 255)
    (hS : Sl w A (u8s xs) p) (hT : Sl w B (u8s ys) q) (hA : A = none → n = 0 ∧ c = 0) (hB : B = none → m = 0 ∧ d = 0) :
    Calls Try.prog 20 #[.slice A n c, .slice B m d] w fun e w' => e = .returned (.bool (decide (xs = ys))) ∧ w = w' := by
  subst hn hm
  have h1 := conv_string (P := Try.prog) (dst := 9) Try.underlying35 Try.underlying5 Try.underlying9 hS hA
  have h2 := conv_string (P := Try.prog) (dst := 9) Try.underlying35 Try.underlying5 Try.underlying9 hT hB
  have He := Hd.mk (str_eq hx hy)
  clear hS hT hA hB hx hy
  go_enter Try.func20, Try.ntmps20
  go_wp2
  go_ret
  exact ⟨by rw [← He.out]; rfl, rfl⟩
set_option maxHeartbeats 4000000 in
theorem awake_any (w : World) : Calls Try.prog 10 #[] w fun e w' => e = .returned (.bool true) ∧ Fr w w' [] := by
  have kc := fun (w : World) (C : Array Value) (n c : Nat) => Lib.run_convert_bytes_const (P := Try.prog) w 35 5 C n c Try.underlying35 Try.underlying5
  go_enter Try.func10, Try.ntmps10
  go_wp2_with (fail)
  refine (good_any _).mono ?_
  rintro e w1 ⟨rfl, h1⟩
  have F1 := Hd.mk (((Fr.refl w []).alloc (.cells #[.int .u8 97] 5 (1, 2))).trans h1 (by simp))
  have B1 := Hd.mk (h1.blk (blk_new w (.cells #[.int .u8 97] 5 (1, 2))) (by simp))
  clear h1
  go_wp2_with (fail)
  refine (press_any w1 (some ⟨w.heap.size, 0, none⟩) 1 1 [97] (some w.heap.size) ⟨100, 10, false⟩ 5 0 (by decide) ⟨rfl, Nat.le_refl _, by decide, (by intro h; cases h), sl_of_blk B1.out, fun b hb => by cases hb; exact blk_lt B1.out⟩ (by intro x hx; simp at hx; subst hx; decide) (by decide)).mono ?_
  rintro e w2 ⟨v, rfl, -, h2, h3⟩
  obtain ⟨J, j1, j2, j3, o2, a2⟩ := h2 rfl
  rw [p1] at j2 j3 o2
  have e1 : ex5.length = 1 := rfl
  have e2 : (5 : Int).toNat = 5 := rfl
  rw [e1, e2] at j2 j3
  obtain rfl : J = 1 := by omega
  rw [e2, bt1, nb1, show (18 + 7) / 8 = 3 from rfl, show bytesOf 0x044b 18 = [0x4b, 0x04, 0x00] from by decide] at o2
  obtain ⟨A, c, rfl, hc, _⟩ := own_slice o2
  have S4 := Hd.mk (sl_of_own o2)
  have NA := Hd.mk (fun h => own_none o2 h)
  have F2 := Hd.mk (F1.out.trans h3 (by simp))
  clear h2 h3 o2 a2 j1 j2 j3 e1 e2 B1
  go_wp2_with (fail)
  refine (same10_any _ A _ 3 3 c 3 [75, 4, 0] [75, 4, 0] _ _ rfl rfl (by decide) (by decide) (S4.out.alloc _) (by exact sl_of_blk (blk_new w2 _)) NA.out (by intro h; cases h)).mono ?_
  rintro e w5 ⟨rfl, rfl⟩
  rw [show decide ([(75 : Int), 4, 0] = [75, 4, 0]) = true from rfl]
  have F5 := Hd.mk (F2.out.alloc (.cells #[.int .u8 75, .int .u8 4, .int .u8 0] 5))
  go_wp2
  go_ret
  exact ⟨rfl, F5.out⟩
end Go.Proofs.Ytkdgfioigkijgaa.Prs
/- Chapter 10: PressPrices. Condition: what a slice of tokens can hold. -/
set_option linter.unusedVariables false
set_option linter.unusedSimpArgs false
set_option maxRecDepth 100000
namespace Go.Proofs.Ytkdgfioigkijgaa.Prs
open Go.RowKit Go.Proofs.Ytkdgfioigkijgaa.Lib Go.Proofs.Ytkdgfioigkijgaa.Ints Go.Proofs.Ytkdgfioigkijgaa.Lz Go.Proofs.Ytkdgfioigkijgaa.Num Go.Proofs.Ytkdgfioigkijgaa.Bits Go.Proofs.Ytkdgfioigkijgaa.Blk
theorem pown_new {wo w : World} {q q' : Option Nat} (hB : ∀ x, q = some x → wo.heap.size ≤ x) (hs : wo.heap.size ≤ w.heap.size) {o : Obj} (h : Aft (w.alloc o) q q') : ∀ y, q' = some y → wo.heap.size ≤ y := by
  intro y hy
  rcases h with e | ⟨z, e, hz⟩
  · exact hB y (e ▸ hy)
  · rw [e] at hy
    cases hy
    rw [World.size_alloc] at hz
    omega
theorem psl_own {w : World} {A : Option Addr} {n d : Nat} {l : List Tok} {e : TypeId} (h : w.ownsRow 0 e 3 (.slice A n d) n (tcells l)) : Sl w A (tcells l) (Value.slice A n d).ownBlock := by
  intro hx
  rcases h.2 with ⟨h', h''⟩ | ⟨g, cap, cur, h', hb, hh, hnc, hcm, hcs, ht⟩
  · have := h.1
    omega
  · injection h' with h1 _ _
    subst h1
    refine ⟨g, 0, rfl, rfl, fun j hj => ?_⟩
    rw [Nat.zero_add, blk_cell hh, ← ht, List.getElem?_take, if_pos (by have := h.1; omega)]
    simp
set_option maxHeartbeats 16000000 in
theorem pprices_walk (A : Option Addr) (n c : Nat) (l : List Tok) (p : Option Nat) (W : World) (hn : l.length = n) (hnc : n ≤ c) (hA : A = none → n = 0 ∧ c = 0) (hS : Sl W A (tcells l) p) (hl : ∀ t ∈ l, 0 ≤ t.lit ∧ t.lit ≤ 255) (hb : n * 24 ≤ 140737488355232) :
    Calls Try.prog 8 #[.slice A n c] W fun e w' => e = .returned (.bool true) ∧ Below W.heap.size W w' := by
  obtain ⟨i0, hi0, hz0, hz1, hz2⟩ := info_parts infoTokK
  obtain ⟨k0, hk0, hy0, hy2, hy3⟩ := info_parts infoRTokK
  subst hn
  have HS := Hd.mk hS
  have HA := Hd.mk hA
  have HL := Hd.mk hl
  clear hS hA hl
  obtain ⟨P, er, hP⟩ : ∃ P er, pricesN l = (P, er) := ⟨_, _, rfl⟩
  have HP := Hd.mk hP
  clear hP
  go_enter Try.func8, Try.ntmps8
  go_wp2
  go_loopg [3, 4] l.length (fun kq sv jv wr => ∃ (j : Nat) (A1 : Option Addr) (m1 d1 : Nat), sv = .slice A1 m1 d1 ∧ jv = .int .i64 (j : Nat) ∧ j + kq = l.length ∧ m1 ≤ l.length ∧ Hd (m1 = j) ∧ Hd (wr.ownsRow 0 49 3 (.slice A1 m1 d1) m1 (tcells (l.take j))) ∧ Hd (∀ y, (Value.slice A1 m1 d1).ownBlock = some y → W.heap.size ≤ y) ∧ Hd (Fr W wr []))
  case atStart => exact ⟨0, none, 0, 0, rfl, rfl, by omega, by omega, ⟨rfl⟩, ⟨own_nil _ _ _ _⟩, ⟨by intro y hy; cases hy⟩, ⟨Fr.refl _ _⟩⟩
  case round =>
    obtain ⟨j, A1, m1, d1, rfl, rfl, hj, hm1, HM, HO, HB, HF⟩ := hrel
    by_cases h1 : j < l.length
    · obtain ⟨a, o1, rfl, _, ha⟩ := Sl.row (enc := tcell) (sz := 3) (fun _ => rfl) (HS.out.frame HF.out (by simp)) h1 (by decide)
      obtain ⟨x, hx⟩ : ∃ x, x = l[j] := ⟨_, rfl⟩
      rw [← hx] at ha
      have ca := ha 0 (by decide)
      have ca1 := ha 1 (by decide)
      have ca2 := ha 2 (by decide)
      obtain ⟨xa, xb, xc⟩ := x
      simp only [tcell, List.getElem?_cons_zero, List.getElem?_cons_succ, Nat.add_zero] at ca ca1 ca2
      have HX := Hd.mk hx
      have hm2 : m1 + 1 ≤ l.length := by have := HM.out; omega
      clear ha hx
      go_wp2
      go_region_law (refine step_append_sl rfl (.tmp 17) (.tmp 34) 46 rfl 49 k0 (.agg #[.int .u8 0, .int .i64 0, .int .i64 0]) 3 24 Try.underlying46 hk0 hy0 hy2 hy3 rfl (by decide) (.slice A1 m1 d1) m1 (tcells (l.take j)) (by simp [Act.eval, Act.put]) (by exact HO.out.alloc _) (some ⟨wr.heap.size, 0, none⟩) 1 1 [.int .u8 xa, .int .i64 xb, .int .i64 xc] (some wr.heap.size) (by simp [Act.eval, Act.put]) rfl (by exact sl_of_blk (blk_new _ _)) (by intro h; cases h) (by intro u hu; simp at hu; rcases hu with rfl | rfl | rfl <;> rfl) (by unfold maxLen; omega) (by omega) ?_; intro A3 d3 w3 hown' hgrow haft; have O3 := Hd.mk hown'; have G3 := Hd.mk hgrow; have F3 := Hd.mk haft; clear hown' hgrow haft)
      all_goals
        go_wp2
        go_roundg (gk - 1)
        case measure => omega
        case rel =>
          refine ⟨j + 1, A3, m1 + 1, d3, rfl, by go_num, by omega, hm2, ⟨by rw [HM.out]⟩, ⟨?_⟩, ⟨pown_new HB.out (by exact HF.out.size) F3.out⟩, ⟨((HF.out.drew).alloc _).grown G3.out (fun y hy => .inr (HB.out y hy))⟩⟩
          rw [List.take_succ_eq_append_getElem h1, ← HX.out, tcells_app]
          exact O3.out
    · obtain rfl : j = l.length := by omega
      obtain rfl : m1 = l.length := HM.out
      have HO1 : Hd (wr.ownsRow 0 49 3 (.slice A1 l.length d1) l.length (tcells l)) := ⟨by have := HO.out; rwa [List.take_length] at this⟩
      have hd1 : l.length ≤ d1 := by obtain ⟨_, _, e, hh, _⟩ := own_slice HO1.out; cases e; exact hh
      have hA1 : A1 = none → d1 = 0 := fun h => (own_none HO1.out h).2
      clear HO
      go_wp2_with (fail)
      obtain ⟨pa, pb, pc⟩ := P
      refine (rprices_any wr A1 l.length d1 l _ rfl hd1 hA1 (psl_own HO1.out) (by omega) HL.out (pa, pb, pc) er HP.out).mono ?_
      rintro e w2 ⟨rfl, h3⟩
      simp only [pcell]
      have F2 := Hd.mk (HF.out.trans h3 (by simp))
      clear h3 HF HB HO1 hA1
      go_upto_region 7 with (fail)
      have Q2 : Hd ((w2.alloc (.cells (pcell pa pb pc) 51)).heap[w2.heap.size]? = some (.cells (pcell pa pb pc) 51 (0, 0))) := ⟨blk_new _ _⟩
      have F3 : Hd (Fr W (w2.alloc (.cells (pcell pa pb pc) 51)) []) := ⟨F2.out.alloc _⟩
      simp only [pcell] at Q2 F3 ⊢
      generalize w2.alloc (.cells #[.int .i64 pa, .int .i64 pb, .int .i64 pc] 51) = w3 at *
      generalize w2.heap.size = gq at *
      clear F2
      go_wp2_with (at_builtin; refine wpList_append_sl rfl (.const (.slice none 0 0)) (.tmp 41) 45 rfl 48 i0 (.agg #[.int .u8 0, .int .i64 0, .int .i64 0]) 3 24 Try.underlying45 hi0 hz0 hz1 hz2 rfl (by decide) (.slice none 0 0) 0 [] rfl ?c0 A l.length c (tcells l) p rfl ?c4 ?c5 ?c6 ?c1 ?c2 ?c3 ?_)
      case c0 => exact own_nil _ _ _ _
      case c4 => rw [tcells_len]; omega
      case c5 => exact HS.out.frame F3.out (by simp)
      case c6 => exact HA.out
      case c1 => exact tcells_one l
      case c2 => unfold maxLen; omega
      case c3 => omega
      intro A3 d3 w4 hown' hgrow haft
      have O3 := Hd.mk hown'
      have A3f := Hd.mk (fun y (hy : (Value.slice A3 l.length d3).ownBlock = some y) => haft.none hy)
      have G3 : Hd (Fr w3 w4 []) := ⟨(Fr.refl w3 []).grown hgrow (fun y hy => by cases hy)⟩
      clear hown' hgrow haft
      go_wp2_with (at_builtin; refine wpList_append_sl rfl (.tmp 42) (.tmp 44) 45 rfl 48 i0 (.agg #[.int .u8 0, .int .i64 0, .int .i64 0]) 3 24 Try.underlying45 hi0 hz0 hz1 hz2 rfl (by decide) (.slice A3 l.length d3) l.length _ rfl (by exact O3.out.alloc _) (some ⟨w4.heap.size, 0, none⟩) 1 1 [.int .u8 0, .int .i64 71, .int .i64 0] (some w4.heap.size) rfl rfl (by exact sl_of_blk (blk_new _ _)) (by intro h; cases h) ?d1 ?d2 ?d3 ?_)
      case d1 => intro u hu; simp at hu; rcases hu with rfl | rfl | rfl <;> rfl
      case d2 => unfold maxLen; omega
      case d3 => omega
      intro A4 d4 w5 hown' hgrow haft
      have hfr : Fr w3 w5 [] := (G3.out.alloc _).grown hgrow (fun y hy => .inr (A3f.out y hy))
      have O4 : Hd (w5.ownsRow 0 48 3 (.slice A4 (l.length + 1) d4) (l.length + 1) (tcells (l ++ [⟨0, 71, 0⟩]))) := ⟨by rw [tcells_app]; exact hown'⟩
      have Q5 := Hd.mk (hfr.blk Q2.out (by simp))
      have F5 := Hd.mk (F3.out.trans hfr (by simp))
      have hd4 : l.length + 1 ≤ d4 := by obtain ⟨_, _, e, hh, _⟩ := own_slice hown'; cases e; exact hh
      obtain ⟨g4, d4', e4, _⟩ := own_some hown' (by omega)
      injection e4 with e4 _ e4'
      subst e4 e4'
      have SL5 : Hd (Sl w5 (some ⟨g4, 0, none⟩) (tcells l) (some g4)) := ⟨by
        have := (psl_own O4.out).take (3 * l.length)
        rw [tcells_app, List.take_left' (tcells_len _)] at this
        exact this⟩
      clear hown' hgrow haft hfr O3 A3f G3 F3 Q2
      go_wp2_with (fail)
      refine (prices_any w5 (some ⟨g4, 0, none⟩) l.length d4 l _ rfl (by omega) (by intro h; cases h) SL5.out (by omega) HL.out (pa, pb, pc) er HP.out).mono ?_
      rintro e w6 ⟨rfl, h3⟩
      simp only [pcell]
      have Q6 := Hd.mk (h3.blk Q5.out (by simp))
      have O6 := Hd.mk (own_frame O4.out h3 (by simp))
      have SL6 := Hd.mk (SL5.out.frame h3 (by simp))
      have F6 := Hd.mk (F5.out.trans h3 (by simp))
      clear h3 Q5 O4 SL5 F5
      go_upto_region 9 with (fail)
      have B7 : Hd ((w6.alloc (.cells (pcell pa pb pc) 54)).heap[w6.heap.size]? = some (.cells (pcell pa pb pc) 54 (0, 0))) := ⟨blk_new _ _⟩
      have A7 : Fr w6 (w6.alloc (.cells (pcell pa pb pc) 54)) [] := (Fr.refl w6 []).alloc _
      have Q7 := Hd.mk (A7.blk Q6.out (by simp))
      have O7 := Hd.mk (own_frame O6.out A7 (by simp))
      have SL7 := Hd.mk (SL6.out.frame A7 (by simp))
      have F7 := Hd.mk (F6.out.trans A7 (by simp))
      clear A7 Q6 O6 SL6 F6
      simp only [pcell] at B7 Q7 O7 SL7 F7 ⊢
      generalize w6.alloc (.cells #[.int .i64 pa, .int .i64 pb, .int .i64 pc] 54) = w7 at *
      generalize w6.heap.size = gp at *
      have q1 := O7.out.cellAt (l.length * 3 + 1) (by omega)
      rw [tcells_app, List.getElem?_append_right (by rw [tcells_len]; omega), tcells_len] at q1
      rw [show l.length * 3 + 1 - 3 * l.length = 1 from by omega] at q1
      simp only [tcells, tcell, List.flatMap_cons, List.flatMap_nil, List.cons_append, List.nil_append, List.append_nil, List.getElem?_cons_zero, List.getElem?_cons_succ] at q1
      have k0 := blk_cell Q7.out 0
      have k1 := blk_cell Q7.out 1
      have k2 := blk_cell Q7.out 2
      have m0 := blk_cell B7.out 0
      have m1 := blk_cell B7.out 1
      have m2 := blk_cell B7.out 2
      simp only [List.getElem?_toArray, List.getElem?_cons_zero, List.getElem?_cons_succ] at k0 k1 k2 m0 m1 m2
      clear B7 Q7
      go_wp2_with (fail)
      refine (num10_any w7 er).mono ?_
      rintro e w8 ⟨rfl, rfl⟩
      go_wp2_with (fail)
      clear k0 k1 k2 m0 m1 m2 q1 O7 hd4
      go_loopg [10] l.length (fun kq iv wr => ∃ i : Nat, iv = .int .i64 (i : Nat) ∧ i + kq = l.length ∧ Hd (Fr w7 wr []))
      case atStart => exact ⟨0, rfl, by omega, ⟨Fr.refl _ _⟩⟩
      case round =>
        obtain ⟨i, rfl, hi, HF⟩ := hrel
        by_cases hil : i < l.length
        · obtain ⟨a, o1, rfl, _, ha⟩ := Sl.row (enc := tcell) (sz := 3) (fun _ => rfl) (HS.out.frame (F7.out.trans HF.out (by simp)) (by simp)) hil (by decide)
          obtain ⟨a2, o2, e2, _, hb2⟩ := Sl.row (enc := tcell) (sz := 3) (fun _ => rfl) (SL7.out.frame HF.out (by simp)) hil (by decide)
          injection e2 with e2
          injection e2 with e2 e3 _
          subst e2 e3
          obtain ⟨x, hx⟩ : ∃ x, x = l[i] := ⟨_, rfl⟩
          rw [← hx] at ha hb2
          have ca := ha 0 (by decide)
          have ca1 := ha 1 (by decide)
          have ca2 := ha 2 (by decide)
          have cb := hb2 0 (by decide)
          have cb1 := hb2 1 (by decide)
          have cb2 := hb2 2 (by decide)
          obtain ⟨xa, xb, xc⟩ := x
          simp only [tcell, List.getElem?_cons_zero, List.getElem?_cons_succ, Nat.add_zero] at ca ca1 ca2 cb cb1 cb2
          clear ha hb2 hx
          try simp only [Nat.zero_add] at cb cb1 cb2
          have hiI : (i : Int) < (l.length : Int) + 1 := by omega
          have f0 : (xa == xa) = true := by simp
          have f1 : (xb == xb) = true := by simp
          have f2 : (xc == xc) = true := by simp
          go_upto_region 14 with (fail)
          go_region
          go_wp2
          go_roundg (gk - 1)
          case measure => omega
          case rel => exact ⟨i + 1, by go_num, by omega, ⟨HF.out.drew⟩⟩
        · go_wp2_with (fail)
          refine (awake_any _).mono ?_
          rintro e w9 ⟨rfl, h9⟩
          have F9 := Hd.mk (F7.out.trans (HF.out.trans h9 (by simp)) (by simp))
          clear h9
          go_wp2
          go_ret
          exact ⟨rfl, F9.out.below⟩
end Go.Proofs.Ytkdgfioigkijgaa.Prs
